/-
  A region that draws its order and begins with operations that find the same whatever has come up (calls that make memory among them); the rest is walked in one order. No program of Go's is spoken of.
-/
import Derived.Test.YtgkibjjcdcpkfaaRs
namespace Go.Proofs.Ytgkibjjcdcpkfaa
open Go Go.RowKit

section
variable {P : Program} {ops : Array Oper} {Q : Exit → Act → World → Prop} {S : World → Prop}

/-- o yields v in whatever world of S's, and leaves such a world. -/
def HeldAt (P : Program) (ops : Array Oper) (S : World → Prop) (o : Oper) (v : Value) (a : Act) : Prop :=
  (Region.wanted o (yielded ops a.tmps) = true ∧ ∀ w, S w → (execOp a.eval o).run P w = .ok (.value v) w ∨
     ∃ f args, (execOp a.eval o).run P w = .ok (.enter f args) w ∧ Calls P f args w (fun e w' => e = .returned v ∧ S w')) ∨
  (Region.wanted o (yielded ops a.tmps) = false ∧ v = undef)
theorem HeldAt.put {o oj : Oper} {v u : Value} {a : Act} (h : HeldAt P ops S o v a) (hap : o.apart ops oj = true) (hs : ∀ cs b, o.op ≠ .select cs b) : HeldAt P ops S o v (a.put oj.dst u) := by
  obtain ⟨_, _, h3⟩ := Oper.apart_spec hap
  unfold HeldAt at *
  rw [execOp_put o hs a oj.dst u h3, wanted_put o a oj.dst u h3]
  exact h
theorem HeldAt.unput {o oi : Oper} {v u : Value} {a : Act} (h : HeldAt P ops S o v (a.put oi.dst u)) (hap : oi.apart ops o = true) (hs : ∀ cs b, o.op ≠ .select cs b) : HeldAt P ops S o v a := by
  obtain ⟨h1, _, _⟩ := Oper.apart_spec hap
  unfold HeldAt at *
  rw [execOp_put o hs a oi.dst u h1, wanted_put o a oi.dst u h1] at h
  exact h

def hAny (P : Program) (ops : Array Oper) (S : World → Prop) (n : Nat) (Lq : Array Bool → Act → Prop) : Nat → Array Bool → Act → Prop
  | 0, listed, a => Lq listed a
  | f + 1, listed, a => Region.ready .any ops listed ≠ [] ∧ ∀ i ∈ Region.ready .any ops listed, i < n ∧
      ∃ oi v, ops[i]? = some oi ∧ HeldAt P ops S oi v a ∧ hAny P ops S n Lq f (listed.setIfInBounds i true) (a.put oi.dst v)

theorem wpAny_of_held {n g : Nat} {Lq : Array Bool → Act → Prop} (hL : ∀ listed a w, S w → Lq listed a → wpAny P .any ops Q g listed a w) :
    ∀ (f : Nat) (listed : Array Bool) (a : Act) (w : World), S w → hAny P ops S n Lq f listed a → wpAny P .any ops Q (f + g) listed a w
  | 0, listed, a, w, hS, h => by rw [Nat.zero_add]; exact hL listed a w hS h
  | f + 1, listed, a, w, hS, h => by
    rw [show f + 1 + g = (f + g) + 1 by omega]
    refine ⟨fun h0 => absurd h0 h.1, fun i hi => ?_⟩
    obtain ⟨_, oi, v, ho, hh, hK⟩ := h.2 i hi
    unfold wpOp
    simp only [ho]
    rcases hh with ⟨hw, hr⟩ | ⟨hw, rfl⟩
    · rw [if_pos hw]
      left
      unfold Oper.wp
      rcases hr w hS with hr | ⟨f', args, hr, hc⟩
      · rw [hr]
        exact wpAny_of_held hL f _ _ w hS hK
      · rw [hr]
        exact hc.mono fun e w' ⟨he, hS'⟩ => by subst he; exact wpAny_of_held hL f _ _ w' hS' hK
    · rw [if_neg (by simp [hw])]
      exact wpAny_of_held hL f _ _ w hS hK

theorem held_first {n i : Nat} {oi : Oper} {v : Value} {Lq : Array Bool → Act → Prop} (hA : aheadB ops n = true) (hH : headB ops n = true) (hi : ops[i]? = some oi) (hin : i < n)
    (hsel : ∀ (j : Nat) (o : Oper) cs b, ops[j]? = some o → o.op ≠ .select cs b)
    (hend : ∀ listed a, Lq listed a → ∀ j ∈ Region.ready .any ops listed, n ≤ j) :
    ∀ (f : Nat) (listed : Array Bool) (a : Act), Closed ops listed → i ∈ Region.ready .any ops listed → HeldAt P ops S oi v a →
      hAny P ops S n Lq f (listed.setIfInBounds i true) (a.put oi.dst v) → hAny P ops S n Lq (f + 1) listed a := by
  intro f
  induction f with
  | zero =>
    intro listed a hc hr hy H
    refine ⟨fun h => (by rw [h] at hr; cases hr), fun j hj => ?_⟩
    have hjn := ahead_of hA hc hin (getD_both (mem_ready.1 hr).1) hj
    refine ⟨hjn, ?_⟩
    by_cases hji : j = i
    · subst hji; exact ⟨oi, v, hi, hy, H⟩
    · exact absurd (hend _ _ H j (ready_mono hj hji)) (by omega)
  | succ f ih =>
    intro listed a hc hr hy H
    have hiu := (mem_ready.1 hr).1
    refine ⟨fun h => (by rw [h] at hr; cases hr), fun j hj => ?_⟩
    have hjn := ahead_of hA hc hin (getD_both hiu) hj
    refine ⟨hjn, ?_⟩
    by_cases hji : j = i
    · subst hji; exact ⟨oi, v, hi, hy, H⟩
    · obtain ⟨hju, oj, hoj, _⟩ := mem_ready.1 hj
      have hap : oi.apart ops oj = true := by
        rcases headB_apart hH hin hjn hji hi hoj with h | h | h
        · exact h
        · have := hc.ready hj h
          rw [getD_both hiu] at this; cases this
        · have := hc.ready hr h
          rw [getD_both hju] at this; cases this
      obtain ⟨_, oj', u, hoj', hhj, hK⟩ := H.2 j (ready_mono hj hji)
      rw [hoj] at hoj'
      cases hoj'
      refine ⟨oj, u, hoj, hhj.unput hap (fun cs b => hsel j oj cs b hoj), ih (listed.setIfInBounds j true) (a.put oj.dst u) (hc.set hj) (ready_mono hr (Ne.symm hji)) (hy.put hap fun cs b => hsel i oi cs b hi) ?_⟩
      rw [Array.setIfInBounds_comm _ _ hji, Act.put_comm a u v (fun d hd hd' => (Oper.apart_spec hap).2.1 d hd' hd)]
      exact hK

/-- The operations in the order of the text. -/
def wpHeld (P : Program) (ops : Array Oper) (S : World → Prop) (R : Act → Prop) : List Oper → Act → Prop
  | [], a => R a
  | o :: rest, a => ∃ v, HeldAt P ops S o v a ∧ wpHeld P ops S R rest (a.put o.dst v)

theorem held_lex {n : Nat} {Lq : Act → Prop} (hA : aheadB ops n = true) (hH : headB ops n = true) (hsel : ∀ (j : Nat) (o : Oper) cs b, ops[j]? = some o → o.op ≠ .select cs b) :
    ∀ (l : List Oper) (k : Nat) (listed : Array Bool) (a : Act), (∀ j, j < l.length → l[j]? = ops[k + j]?) → k + l.length = n → UpTo ops k listed →
      wpHeld P ops S Lq l a → hAny P ops S n (fun listed' a' => UpTo ops n listed' ∧ Lq a') l.length listed a
  | [], k, listed, a, _, hk, hu, h => by
    obtain rfl : k = n := by simpa using hk
    exact ⟨hu, h⟩
  | o :: l, k, listed, a, hl, hk, hu, h => by
    have h0 : ops[k]? = some o := by simpa using (hl 0 (by simp)).symm
    have hkn : k < n := by simp only [List.length_cons] at hk; omega
    obtain ⟨hr, hu'⟩ := hu.next hH hkn h0
    obtain ⟨v, hy, hK⟩ := h
    refine held_first hA hH h0 hkn hsel (fun listed' a' hL j hj => ?_) l.length listed a hu.1 hr hy
      (held_lex hA hH hsel l (k + 1) _ _ (fun j hj => by have := hl (j + 1) (by simp; omega); simpa [Nat.add_assoc, Nat.add_comm 1 j] using this) (by simp only [List.length_cons] at hk; omega) hu' hK)
    obtain ⟨hj0, oj, hoj, _⟩ := mem_ready.1 hj
    rw [hL.1.un (Array.getElem?_eq_some_iff.1 hoj).1] at hj0
    simpa using hj0

/-- **The first n find the same whatever has come up; the others are walked in the order L.** -/
theorem wp_region_held_line {id : Nat} {a : Act} {w : World} {l : List Oper} (n : Nat) (L : List Nat) (S : World → Prop) (hm : P.follows .mixedOrders = true) (hB : stillLineB P l.toArray n L = true) (hS : S w.drew)
    (h : wpHeld P l.toArray S (fun a' => ∀ w', S w' → wpList P l.toArray (Shaped P l.toArray Q) (picks l L) a' w') (l.take n) a) : (Code.region id l.toArray true).wp P Q a w := by
  unfold stillLineB at hB
  simp only [Bool.and_eq_true, List.all_eq_true, decide_eq_true_eq, List.mem_range, Bool.or_eq_true, List.contains_iff_mem] at hB
  obtain ⟨⟨⟨⟨⟨⟨⟨hsel, hn⟩, hA⟩, hH⟩, hself⟩, hall⟩, hpairs⟩, hlen⟩ := hB
  have hn' : n ≤ l.length := by simpa using hn
  have htl : (l.take n).length = n := by simp; omega
  have hlt : ∀ k ∈ L, k < l.length := fun k hk => by
    have := (hself k hk).1
    unfold selfOk at this
    split at this
    · rename_i o ho; simpa using (Array.getElem?_eq_some_iff.1 ho).1
    · cases this
  have hu : UpTo l.toArray 0 (Array.replicate l.toArray.size false) := by
    refine ⟨fun i o _ hl => ?_, by simp, fun j hj => ?_⟩
    · rw [getD_replicate_false] at hl; cases hl
    · rw [getD_replicate_false]; simp
  have H := held_lex (P := P) (S := S) hA hH (Region.noSelect_spec hsel) (l.take n) 0 _ a (fun j hj => by
    have hj' : j < n := by rw [htl] at hj; exact hj
    simp [hj']) (by simpa using htl) hu h
  refine Code.wp_mono (Q := Strict Q) (fun e a w hq => by cases e <;> first | exact hq | exact hq.elim) (wp_region_any hm ?_)
  have := wpAny_of_held (Q := Strict Q) (g := l.toArray.size - n) (fun listed a' w' hS' hL => by
    refine wpAny_of_order hsel (l.toArray.size - n) listed L a' _ (fun k => ?_) hL.1.2.1 hL.1.1 hlen (fun k hk => (hself k hk).1) hpairs (wpOps_picks L _ _ hlt (hL.2 w' hS'))
    constructor
    · intro hk
      have h1 := hlt k hk
      refine ⟨by simpa using h1, ?_⟩
      rw [hL.1.un (by simpa using h1)]
      simpa using (hself k hk).2
    · rintro ⟨hk, hk0⟩
      rw [hL.1.un hk] at hk0
      rcases hall k hk with h1 | h1
      · simp [h1] at hk0
      · exact h1) _ _ _ _ hS H
  rw [htl, show n + (l.toArray.size - n) = l.toArray.size by simp at hn ⊢; omega] at this
  exact this

theorem held_skip {R : Act → Prop} {a : Act} : R a → wpHeld P ops S R [] a := id
/-- An operation of its own. -/
theorem held_read {R : Act → Prop} {o : Oper} {rest : List Oper} {a : Act} (v : Value) (hw : Region.wanted o (yielded ops a.tmps) = true) (hr : ∀ w, S w → (execOp a.eval o).run P w = .ok (.value v) w) (h : wpHeld P ops S R rest (a.put o.dst v)) : wpHeld P ops S R (o :: rest) a :=
  ⟨v, .inl ⟨hw, fun w hS => .inl (hr w hS)⟩, h⟩
/-- A call. -/
theorem held_call {R : Act → Prop} {o : Oper} {rest : List Oper} {a : Act} (v : Value) (f : FuncId) (args : Array Value) (hw : Region.wanted o (yielded ops a.tmps) = true) (hr : ∀ w, (execOp a.eval o).run P w = .ok (.enter f args) w)
    (hc : ∀ w, S w → Calls P f args w (fun e w' => e = .returned v ∧ S w')) (h : wpHeld P ops S R rest (a.put o.dst v)) : wpHeld P ops S R (o :: rest) a :=
  ⟨v, .inl ⟨hw, fun w hS => .inr ⟨f, args, hr w, hc w hS⟩⟩, h⟩
end

end Go.Proofs.Ytgkibjjcdcpkfaa
