/-
  As Rh, but one operation that makes memory for itself may come up anywhere among the first. No program of Go's is spoken of.
-/
import Derived.Test.YtgkibjjcdcpkfaaRh
import Derived.Test.YtgkibjjcdcpkfaaSl
namespace Go.Proofs.Ytgkibjjcdcpkfaa
open Go Go.RowKit

section
variable {P : Program} {ops : Array Oper} {Q : Exit → Act → World → Prop} {S : Option Value → World → Prop}

/-- o yields v in whatever world of S's, whether the memory was made or not, and leaves such a world. -/
def HeldG (P : Program) (ops : Array Oper) (S : Option Value → World → Prop) (o : Oper) (v : Value) (a : Act) : Prop := ∀ b, HeldAt P ops (S b) o v a
/-- o makes memory. -/
def MakesAt (P : Program) (ops : Array Oper) (S : Option Value → World → Prop) (o : Oper) : Prop :=
  o.guard = none ∧ ∀ (a : Act) w, S none w → ∃ v w', (execOp a.eval o).run P w = .ok (.value v) w' ∧ S (some v) w'

def gAny (P : Program) (ops : Array Oper) (S : Option Value → World → Prop) (n : Nat) (Lq : Option Value → Array Bool → Act → Prop) : Nat → Option Value → Array Bool → Act → Prop
  | 0, b, listed, a => Lq b listed a
  | f + 1, b, listed, a => Region.ready .any ops listed ≠ [] ∧ ∀ i ∈ Region.ready .any ops listed,
      (i < n ∧ ∃ oi v, ops[i]? = some oi ∧ HeldG P ops S oi v a ∧ gAny P ops S n Lq f b (listed.setIfInBounds i true) (a.put oi.dst v)) ∨
      (i = n ∧ b = none ∧ ∃ oA, ops[n]? = some oA ∧ MakesAt P ops S oA ∧ ∀ v, gAny P ops S n Lq f (some v) (listed.setIfInBounds n true) (a.put oA.dst v))

theorem wpAny_of_g {n g : Nat} {Lq : Option Value → Array Bool → Act → Prop} (hL : ∀ b listed a w, S b w → Lq b listed a → wpAny P .any ops Q g listed a w) :
    ∀ (f : Nat) (b : Option Value) (listed : Array Bool) (a : Act) (w : World), S b w → gAny P ops S n Lq f b listed a → wpAny P .any ops Q (f + g) listed a w
  | 0, b, listed, a, w, hS, h => by rw [Nat.zero_add]; exact hL b listed a w hS h
  | f + 1, b, listed, a, w, hS, h => by
    rw [show f + 1 + g = (f + g) + 1 by omega]
    refine ⟨fun h0 => absurd h0 h.1, fun i hi => ?_⟩
    rcases h.2 i hi with ⟨_, oi, v, ho, hh, hK⟩ | ⟨rfl, rfl, oA, ho, ⟨hgd, hm⟩, hK⟩
    · unfold wpOp
      simp only [ho]
      rcases hh b with ⟨hw, hr⟩ | ⟨hw, rfl⟩
      · rw [if_pos hw]
        left
        unfold Oper.wp
        rcases hr w hS with hr | ⟨f', args, hr, hc⟩
        · rw [hr]
          exact wpAny_of_g hL f _ _ _ w hS hK
        · rw [hr]
          exact hc.mono fun e w' ⟨he, hS'⟩ => by subst he; exact wpAny_of_g hL f _ _ _ w' hS' hK
      · rw [if_neg (by simp [hw])]
        exact wpAny_of_g hL f _ _ _ w hS hK
    · unfold wpOp
      simp only [ho]
      have hw : Region.wanted oA (yielded ops a.tmps) = true := by simp [Region.wanted, hgd]
      rw [if_pos hw]
      left
      unfold Oper.wp
      obtain ⟨v, w', hr, hS'⟩ := hm a w hS
      rw [hr]
      exact wpAny_of_g hL f _ _ _ w' hS' (hK v)

theorem g_first {n i : Nat} {oi : Oper} {v : Value} {Lq : Option Value → Array Bool → Act → Prop} (hA : aheadB ops (n + 1) = true) (hH : headB ops (n + 1) = true) (hi : ops[i]? = some oi) (hin : i < n)
    (hsel : ∀ (j : Nat) (o : Oper) cs b, ops[j]? = some o → o.op ≠ .select cs b)
    (hend : ∀ b listed a, Lq b listed a → ∀ j ∈ Region.ready .any ops listed, n + 1 ≤ j) :
    ∀ (f : Nat) (b : Option Value) (listed : Array Bool) (a : Act), Closed ops listed → i ∈ Region.ready .any ops listed → HeldG P ops S oi v a →
      gAny P ops S n Lq f b (listed.setIfInBounds i true) (a.put oi.dst v) → gAny P ops S n Lq (f + 1) b listed a := by
  intro f
  induction f with
  | zero =>
    intro b listed a hc hr hy H
    refine ⟨fun h => (by rw [h] at hr; cases hr), fun j hj => ?_⟩
    have hjn := ahead_of hA hc (show i < n + 1 by omega) (getD_both (mem_ready.1 hr).1) hj
    by_cases hji : j = i
    · subst hji; exact .inl ⟨hin, oi, v, hi, hy, H⟩
    · exact absurd (hend _ _ _ H j (ready_mono hj hji)) (by omega)
  | succ f ih =>
    intro b listed a hc hr hy H
    have hiu := (mem_ready.1 hr).1
    refine ⟨fun h => (by rw [h] at hr; cases hr), fun j hj => ?_⟩
    have hjn := ahead_of hA hc (show i < n + 1 by omega) (getD_both hiu) hj
    by_cases hji : j = i
    · subst hji; exact .inl ⟨hin, oi, v, hi, hy, H⟩
    · obtain ⟨hju, oj, hoj, _⟩ := mem_ready.1 hj
      have hap : oi.apart ops oj = true := by
        rcases headB_apart hH (show i < n + 1 by omega) hjn hji hi hoj with h | h | h
        · exact h
        · have := hc.ready hj h
          rw [getD_both hiu] at this; cases this
        · have := hc.ready hr h
          rw [getD_both hju] at this; cases this
      rcases H.2 j (ready_mono hj hji) with ⟨hjn', oj', u, hoj', hhj, hK⟩ | ⟨rfl, rfl, oA, hoA, hm, hK⟩
      · rw [hoj] at hoj'
        cases hoj'
        refine .inl ⟨hjn', oj, u, hoj, fun b => (hhj b).unput hap (fun cs b => hsel j oj cs b hoj), ih b (listed.setIfInBounds j true) (a.put oj.dst u) (hc.set hj) (ready_mono hr (Ne.symm hji)) (fun b => (hy b).put hap fun cs b => hsel i oi cs b hi) ?_⟩
        rw [Array.setIfInBounds_comm _ _ hji, Act.put_comm a u v (fun d hd hd' => (Oper.apart_spec hap).2.1 d hd' hd)]
        exact hK
      · rw [hoj] at hoA
        cases hoA
        refine .inr ⟨rfl, rfl, oj, hoj, hm, fun u => ih (some u) (listed.setIfInBounds j true) (a.put oj.dst u) (hc.set hj) (ready_mono hr (Ne.symm hji)) (fun b => (hy b).put hap fun cs b => hsel i oi cs b hi) ?_⟩
        rw [Array.setIfInBounds_comm _ _ hji, Act.put_comm a u v (fun d hd hd' => (Oper.apart_spec hap).2.1 d hd' hd)]
        exact hK u

/-- The operations in the order of the text; the last one makes memory. -/
def wpHeldG (P : Program) (ops : Array Oper) (S : Option Value → World → Prop) (R : Value → Act → Prop) (oA : Oper) : List Oper → Act → Prop
  | [], a => ∀ v, R v (a.put oA.dst v)
  | o :: rest, a => ∃ v, HeldG P ops S o v a ∧ wpHeldG P ops S R oA rest (a.put o.dst v)

theorem g_lex {n : Nat} {Lq : Value → Act → Prop} {oA : Oper} (hA : aheadB ops (n + 1) = true) (hH : headB ops (n + 1) = true) (hsel : ∀ (j : Nat) (o : Oper) cs b, ops[j]? = some o → o.op ≠ .select cs b) (hoA : ops[n]? = some oA) (hm : MakesAt P ops S oA) :
    ∀ (l : List Oper) (k : Nat) (listed : Array Bool) (a : Act), (∀ j, j < l.length → l[j]? = ops[k + j]?) → k + l.length = n → UpTo ops k listed →
      wpHeldG P ops S Lq oA l a → gAny P ops S n (fun b listed' a' => UpTo ops (n + 1) listed' ∧ ∃ v, b = some v ∧ Lq v a') (l.length + 1) none listed a
  | [], k, listed, a, _, hk, hu, h => by
    obtain rfl : k = n := by simpa using hk
    obtain ⟨hr, hu'⟩ := hu.next hH (show k < k + 1 by omega) hoA
    refine ⟨fun h => (by rw [h] at hr; cases hr), fun j hj => ?_⟩
    have hjn := ahead_of hA hu.1 (show k < k + 1 by omega) (getD_both (mem_ready.1 hr).1) hj
    have hjk : j = k := by
      obtain ⟨hj0, oj, hoj, _⟩ := mem_ready.1 hj
      rw [hu.un (Array.getElem?_eq_some_iff.1 hoj).1] at hj0
      simp at hj0
      omega
    subst hjk
    exact .inr ⟨rfl, rfl, oA, hoA, hm, fun v => ⟨hu', v, rfl, h v⟩⟩
  | o :: l, k, listed, a, hl, hk, hu, h => by
    have h0 : ops[k]? = some o := by simpa using (hl 0 (by simp)).symm
    have hkn : k < n := by simp only [List.length_cons] at hk; omega
    obtain ⟨hr, hu'⟩ := hu.next hH (show k < n + 1 by omega) h0
    obtain ⟨v, hy, hK⟩ := h
    refine g_first hA hH h0 hkn hsel (fun b listed' a' hL j hj => ?_) (l.length + 1) none listed a hu.1 hr hy
      (g_lex hA hH hsel hoA hm l (k + 1) _ _ (fun j hj => by have := hl (j + 1) (by simp; omega); simpa [Nat.add_assoc, Nat.add_comm 1 j] using this) (by simp only [List.length_cons] at hk; omega) hu' hK)
    obtain ⟨hj0, oj, hoj, _⟩ := mem_ready.1 hj
    rw [hL.1.un (Array.getElem?_eq_some_iff.1 hoj).1] at hj0
    simpa using hj0

/-- **The first n find the same whatever has come up, number n makes memory; the others are walked in the order L.** -/
theorem wp_region_held_make {id : Nat} {a : Act} {w : World} {l : List Oper} (n : Nat) (L : List Nat) (S : Option Value → World → Prop) (hm : P.follows .mixedOrders = true) (hB : stillLineB P l.toArray (n + 1) L = true) (hS : S none w.drew)
    {oA : Oper} (hoA : l[n]? = some oA) (hmk : MakesAt P l.toArray S oA)
    (h : wpHeldG P l.toArray S (fun v a' => ∀ w', S (some v) w' → wpList P l.toArray (Shaped P l.toArray Q) (picks l L) a' w') oA (l.take n) a) : (Code.region id l.toArray true).wp P Q a w := by
  unfold stillLineB at hB
  simp only [Bool.and_eq_true, List.all_eq_true, decide_eq_true_eq, List.mem_range, Bool.or_eq_true, List.contains_iff_mem] at hB
  obtain ⟨⟨⟨⟨⟨⟨⟨hsel, hn⟩, hA⟩, hH⟩, hself⟩, hall⟩, hpairs⟩, hlen⟩ := hB
  have hn' : n + 1 ≤ l.length := by simpa using hn
  have htl : (l.take n).length = n := by simp; omega
  have hlt : ∀ k ∈ L, k < l.length := fun k hk => by
    have := (hself k hk).1
    unfold selfOk at this
    split at this
    · rename_i o ho; simpa using (Array.getElem?_eq_some_iff.1 ho).1
    · cases this
  have hu : UpTo l.toArray 0 (Array.replicate l.toArray.size false) := by
    refine ⟨fun i o _ hl => ?_, by simp, fun j hj => ?_⟩
    · rw [getD_replicate_false] at hl; cases hl
    · rw [getD_replicate_false]; simp
  have H := g_lex (P := P) (S := S) hA hH (Region.noSelect_spec hsel) (by simpa using hoA) hmk (l.take n) 0 _ a (fun j hj => by
    have hj' : j < n := by rw [htl] at hj; exact hj
    simp [hj']) (by simpa using htl) hu h
  refine Code.wp_mono (Q := Strict Q) (fun e a w hq => by cases e <;> first | exact hq | exact hq.elim) (wp_region_any hm ?_)
  have := wpAny_of_g (Q := Strict Q) (g := l.toArray.size - (n + 1)) (fun b listed a' w' hS' hL => by
    obtain ⟨hL1, v, rfl, hL2⟩ := hL
    refine wpAny_of_order hsel (l.toArray.size - (n + 1)) listed L a' _ (fun k => ?_) hL1.2.1 hL1.1 hlen (fun k hk => (hself k hk).1) hpairs (wpOps_picks L _ _ hlt (hL2 w' hS'))
    constructor
    · intro hk
      have h1 := hlt k hk
      refine ⟨by simpa using h1, ?_⟩
      rw [hL1.un (by simpa using h1)]
      simpa using (hself k hk).2
    · rintro ⟨hk, hk0⟩
      rw [hL1.un hk] at hk0
      rcases hall k hk with h1 | h1
      · simp [h1] at hk0
      · exact h1) _ _ _ _ _ hS H
  rw [htl, show n + 1 + (l.toArray.size - (n + 1)) = l.toArray.size by simp at hn ⊢; omega] at this
  exact this

theorem g_skip {R : Value → Act → Prop} {oA : Oper} {a : Act} : (∀ v, R v (a.put oA.dst v)) → wpHeldG P ops S R oA [] a := id
theorem g_read {R : Value → Act → Prop} {oA o : Oper} {rest : List Oper} {a : Act} (v : Value) (hw : Region.wanted o (yielded ops a.tmps) = true) (hr : ∀ b w, S b w → (execOp a.eval o).run P w = .ok (.value v) w) (h : wpHeldG P ops S R oA rest (a.put o.dst v)) : wpHeldG P ops S R oA (o :: rest) a :=
  ⟨v, fun b => .inl ⟨hw, fun w hS => .inl (hr b w hS)⟩, h⟩
theorem g_call {R : Value → Act → Prop} {oA o : Oper} {rest : List Oper} {a : Act} (v : Value) (f : FuncId) (args : Array Value) (hw : Region.wanted o (yielded ops a.tmps) = true) (hr : ∀ w, (execOp a.eval o).run P w = .ok (.enter f args) w)
    (hc : ∀ b w, S b w → Calls P f args w (fun e w' => e = .returned v ∧ S b w')) (h : wpHeldG P ops S R oA rest (a.put o.dst v)) : wpHeldG P ops S R oA (o :: rest) a :=
  ⟨v, fun b => .inl ⟨hw, fun w hS => .inr ⟨f, args, hr w, hc b w hS⟩⟩, h⟩
/-- What holds, and beside it the block that is made. -/
def MadeS (w0 : World) (A : HP) (c : Array Value) (t : TypeId) : Option Value → World → Prop
  | none, w => At w0 A w
  | some v, w => ∃ g, v = .pointer (some ⟨g, 0, none⟩) ∧ At w0 (cel g c t * A) w
theorem MadeS.at {w0 : World} {A : HP} {c : Array Value} {t : TypeId} {b : Option Value} {w : World} (h : MadeS w0 A c t b w) : At w0 A w := by
  cases b with
  | none => exact h
  | some v => obtain ⟨g, _, h⟩ := h; exact h.r
theorem makes_alloc' {w0 : World} {A : HP} {t : TypeId} {o : Oper} (hg : o.guard = none) (ho : o.op = .alloc t) {c : Array Value} (hr : ∀ w, (zeroValue t).run P w = .ok (.agg c) w) : MakesAt P ops (MadeS w0 A c t) o := by
  refine ⟨hg, fun a w hS => ⟨_, _, ?_, w.heap.size, rfl, At.alloc (o := .cells c t) hS⟩⟩
  unfold execOp
  simp only [ho, Instr.alloc, newVar, newRow, Sem.run_bind, hr, Result.andThen_ok, Value.cells]
  rfl
/-- A contract that leaves all there is. -/
theorem MadeS.call {w0 : World} {A : HP} {c : Array Value} {t : TypeId} {f : FuncId} {args : Array Value} {v : Value} (h : ∀ (X : HP) (w : World), At w0 (X * A) w → Calls P f args w fun e w' => e = .returned v ∧ At w0 (X * A) w') (b : Option Value) (w : World) (hS : MadeS w0 A c t b w) :
    Calls P f args w fun e w' => e = .returned v ∧ MadeS w0 A c t b w' := by
  cases b with
  | none =>
    have := h 1 w (hS.cast (HP.one_mul A).symm)
    exact this.mono fun e w' ⟨he, h1⟩ => ⟨he, h1.cast (HP.one_mul A)⟩
  | some u =>
    obtain ⟨g, hu, hS⟩ := hS
    exact (h (cel g c t) w hS).mono fun e w' ⟨he, h1⟩ => ⟨he, g, hu, h1⟩
end

end Go.Proofs.Ytgkibjjcdcpkfaa
