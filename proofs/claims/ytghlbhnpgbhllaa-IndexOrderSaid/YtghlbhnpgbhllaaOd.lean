/-
  Rows in the order of their coming, and what they come to in order of their keys. No program of Go's is spoken of.
-/
import Derived.Test.YtghlbhnpgbhllaaPl
namespace Go.Proofs.Ytghlbhnpgbhllaa
open Go

/-- Rows put one by one. -/
def srt (l : List It) : List It := l.foldl put []
theorem srt_snoc (l : List It) (c : It) : srt (l ++ [c]) = put (srt l) c := by
  unfold srt
  rw [List.foldl_append]
  rfl
theorem foldl_sorted : ∀ (l a : List It), Sorted a → Sorted (l.foldl put a)
  | [], _, h => h
  | c :: l, a, h => foldl_sorted l (put a c) (sorted_put h c)
theorem srt_sorted (l : List It) : Sorted (srt l) := foldl_sorted l [] sorted_nil
/-- Rows of one key are one row. -/
def OneKey (l : List It) : Prop := ∀ x ∈ l, ∀ y ∈ l, eqB x.t x.k y.t y.k = true → x = y
theorem foldl_mem : ∀ (l a : List It) (x : It), OneKey (a ++ l) → (x ∈ l.foldl put a ↔ x ∈ a ∨ x ∈ l)
  | [], a, x, _ => by simp
  | c :: l, a, x, h => by
    have h2 : OneKey (put a c ++ l) := by
      intro y hy z hz
      have e : ∀ y, y ∈ put a c ++ l → y ∈ a ++ c :: l := fun y hy => by
        rcases List.mem_append.1 hy with hy | hy
        · rcases mem_put.1 hy with rfl | ⟨hy, _⟩
          · simp
          · simp [hy]
        · simp [hy]
      exact h y (e y hy) z (e z hz)
    show x ∈ l.foldl put (put a c) ↔ _
    rw [foldl_mem l (put a c) x h2, mem_put]
    constructor
    · rintro ((rfl | ⟨hx, _⟩) | hx)
      · simp
      · exact .inl hx
      · exact .inr (List.mem_cons_of_mem _ hx)
    · rintro (hx | hx)
      · refine .inl ?_
        cases he : eqB x.t x.k c.t c.k with
        | true => exact .inl (h x (by simp [hx]) c (by simp) he)
        | false => exact .inr ⟨hx, rfl⟩
      · rcases List.mem_cons.1 hx with rfl | hx
        · exact .inl (.inl rfl)
        · exact .inr hx
theorem srt_mem {l : List It} (h : OneKey l) (x : It) : x ∈ srt l ↔ x ∈ l := by
  unfold srt
  rw [foldl_mem l [] x (by simpa using h)]
  simp
/-- Two lists of the same rows come to the same. -/
theorem srt_same {l m : List It} (h : OneKey l) (hm : ∀ x, x ∈ m ↔ x ∈ l) : srt m = srt l := by
  refine sorted_ext (srt_sorted m) (srt_sorted l) fun x => ?_
  rw [srt_mem h, srt_mem (fun x hx y hy => h x ((hm x).1 hx) y ((hm y).1 hy)), hm]

/-- The rows of the calls, each key once, in the order of their coming. -/
def ordN (z : Nat → Cl) : Nat → List It
  | 0 => []
  | k + 1 => if has (srt (ordN z k)) (it3 (z k).i).t (it3 (z k).i).k then ordN z k else ordN z k ++ [it3 (z k).i]
theorem ordN_one (z : Nat → Cl) : ∀ k, OneKey (ordN z k)
  | 0 => fun x hx => by cases hx
  | k + 1 => by
    have h := ordN_one z k
    unfold ordN
    split
    · exact h
    · rename_i hn
      have hn2 : ∀ x ∈ ordN z k, eqB x.t x.k (it3 (z k).i).t (it3 (z k).i).k = false := fun x hx => by
        rw [Bool.eq_false_iff]
        intro he
        exact hn (has_iff.2 ⟨x, (srt_mem h x).2 hx, he⟩)
      intro x hx y hy he
      rw [List.mem_append, List.mem_singleton] at hx hy
      rcases hx with hx | rfl <;> rcases hy with hy | rfl
      · exact h x hx y hy he
      · rw [hn2 x hx] at he; cases he
      · have h1 := eqB_iff.1 he
        have h2 := hn2 y hy
        rw [eqB_iff.2 ⟨h1.1.symm, h1.2.symm⟩] at h2
        cases h2
      · rfl
theorem ordN_len (z : Nat → Cl) : ∀ k, (ordN z k).length ≤ k
  | 0 => Nat.le_refl _
  | k + 1 => by
    have h := ordN_len z k
    unfold ordN
    split
    · omega
    · rw [List.length_append, List.length_singleton]; omega
theorem ordN_pos (z : Nat → Cl) : ∀ k, 0 < k → 0 < (ordN z k).length
  | k + 1, _ => by
    unfold ordN
    split
    · rename_i h
      rcases Nat.eq_zero_or_pos k with rfl | hk
      · cases h
      · exact ordN_pos z k hk
    · rw [List.length_append, List.length_singleton]; omega

/-- The rows of a list, turned. -/
def turned (l : List It) (t m : Nat) (zr : It) : List It := (List.range m).map fun q => (l[(q + t) % l.length]?).getD zr
theorem turned_snoc (l : List It) (t m : Nat) (zr : It) : turned l t (m + 1) zr = turned l t m zr ++ [(l[(m + t) % l.length]?).getD zr] := by
  unfold turned
  rw [List.range_succ, List.map_append]
  rfl
theorem turned_mem {l : List It} (t : Nat) (zr : It) (hl : 0 < l.length) (x : It) : x ∈ turned l t l.length zr ↔ x ∈ l := by
  unfold turned
  rw [List.mem_map]
  constructor
  · rintro ⟨q, _, rfl⟩
    have hq : (q + t) % l.length < l.length := Nat.mod_lt _ hl
    rw [List.getElem?_eq_getElem hq]
    exact List.getElem_mem hq
  · intro hx
    obtain ⟨j, hj, rfl⟩ := List.getElem_of_mem hx
    have ht : t % l.length < l.length := Nat.mod_lt _ hl
    refine ⟨(j + (l.length - t % l.length)) % l.length, List.mem_range.2 (Nat.mod_lt _ hl), ?_⟩
    have e : ((j + (l.length - t % l.length)) % l.length + t) % l.length = j := by
      rw [Nat.mod_add_mod, Nat.add_mod, ← Nat.add_mod]
      have h1 : (j + (l.length - t % l.length) + t) % l.length = (j + (l.length - t % l.length) + t % l.length) % l.length := (Nat.add_mod_mod _ _ _).symm
      rw [h1, show j + (l.length - t % l.length) + t % l.length = j + l.length by omega, Nat.add_mod_right, Nat.mod_eq_of_lt hj]
    rw [e, List.getElem?_eq_getElem hj]
    rfl
end Go.Proofs.Ytghlbhnpgbhllaa
