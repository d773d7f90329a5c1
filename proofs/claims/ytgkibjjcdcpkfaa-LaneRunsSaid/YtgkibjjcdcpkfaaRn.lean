/-
  As Rm, but the head need not begin with the first operation. No program of Go's is spoken of.
-/
import Derived.Test.YtgkibjjcdcpkfaaRm
namespace Go.Proofs.Ytgkibjjcdcpkfaa
open Go Go.RowKit

section
variable {P : Program} {ops : Array Oper} {Q : Exit → Act → World → Prop} {w : World}
def mixB2 (P : Program) (ops : Array Oper) (s n : Nat) (L : List Nat) : Bool :=
  Region.noSelect ops && decide (s + n ≤ ops.size) && ((List.range' s n ++ L).all (selfOk ops)) && (L.all fun k => decide (k < ops.size) && (decide (k < s) || decide (s + n ≤ k))) && ((List.range ops.size).all fun k => (decide (s ≤ k) && decide (k < s + n)) || L.contains k) &&
  pairsOk (headOk ops (masks ops.toList)) (List.range' s n) && ((List.range' s n).all fun j => L.all fun t => crossOk P ops (masks ops.toList) j t) && pairsOk (pairOk P ops (masks ops.toList)) L && decide (n + L.length ≤ ops.size)

/-- **n operations from s on leave the world alone; the others are walked in the order L.** -/
theorem wp_region_mix2 {id : Nat} {a : Act} {l : List Oper} (s n : Nat) (L : List Nat) (hm : P.follows .mixedOrders = true) (hB : mixB2 P l.toArray s n L = true)
    (h : wpStill P l.toArray w.drew (fun a' => wpList P l.toArray (Shaped P l.toArray Q) (picks l L) a' w.drew) ((l.drop s).take n) a) : (Code.region id l.toArray true).wp P Q a w := by
  unfold mixB2 at hB
  simp only [Bool.and_eq_true, List.all_eq_true, decide_eq_true_eq, List.mem_range, Bool.or_eq_true, List.contains_iff_mem] at hB
  obtain ⟨⟨⟨⟨⟨⟨⟨⟨hsel, hn⟩, hself⟩, hL⟩, hall⟩, hHH⟩, hHT⟩, hTT⟩, hlen⟩ := hB
  have hn' : s + n ≤ l.length := by simpa using hn
  have htl : ((l.drop s).take n).length = n := by simp; omega
  have h2 := mix_of_still (P := P) (Q := Q) (w := w.drew) (ops := l.toArray) (T := L) ((l.drop s).take n) s a (fun j hj => by
    have hj' : j < n := by rw [htl] at hj; exact hj
    simp [hj']) (still_imp (fun a' h' => wpOps_picks L a' _ (fun k hk => by simpa using (hL k hk).1) h') _ _ h)
  rw [htl] at h2
  refine Code.wp_mono (Q := Strict Q) (fun e a w hq => by cases e <;> first | exact hq | exact hq.elim) (wp_region_any hm ?_)
  refine wpAny_of_mix hsel l.toArray.size _ (List.range' s n) L a (fun k => ?_) (by simp) ?_ (by simpa using hlen) hself hHH hHT hTT h2
  · rw [List.mem_append, List.mem_range'_1]
    constructor
    · rintro (hk | hk)
      · have hkn : k < l.toArray.size := by omega
        exact ⟨hkn, by simp at hkn ⊢; simp [hkn]⟩
      · have := (hL k hk).1
        exact ⟨this, by simp at this ⊢; simp [this]⟩
    · rintro ⟨hk, _⟩
      rcases hall k hk with h1 | h1
      · exact .inl h1
      · exact .inr h1
  · intro i o _ hl
    rw [getD_replicate_false] at hl; cases hl
end
end Go.Proofs.Ytgkibjjcdcpkfaa
