/-
  A region that draws its order and begins with operations that leave the world alone (calls among them); the rest is walked in one order. No program of Go's is spoken of.
-/
import Derived.StillTail
import Derived.StillTactics
import Derived.Test.YtgkibjjcdcpkfaaRg
namespace Go.Proofs.Ytgkibjjcdcpkfaa
open Go Go.RowKit

section
variable {P : Program} {ops : Array Oper} {Q : Exit → Act → World → Prop} {w : World}

theorem Closed.set {listed : Array Bool} {i : Nat} (hc : Closed ops listed) (hi : i ∈ Region.ready .any ops listed) : Closed ops (listed.setIfInBounds i true) := by
  obtain ⟨_, oi, ho, hall⟩ := mem_ready.1 hi
  intro k o hk hkl e he hb
  by_cases hik : i = k
  · subst hik
    rw [ho] at hk; cases hk
    exact getD_set_true (hall e he hb)
  · rw [getD_set_ne false hik] at hkl
    exact getD_set_true (hc k o hk hkl e he hb)

/-- As long as one of the first n has not come up, none behind them may. -/
def aheadB (ops : Array Oper) (n : Nat) : Bool :=
  let ms := masks ops.toList
  (List.range n).all fun i => (List.range ops.size).all fun t => decide (t < n) || (ms.getD t 0).testBit i
theorem ahead_of {n : Nat} (h : aheadB ops n = true) {listed : Array Bool} (hc : Closed ops listed) {i : Nat} (hi : i < n) (hl : listed.getD i false = false) {t : Nat}
    (ht : t ∈ Region.ready .any ops listed) : t < n := by
  unfold aheadB at h
  simp only [List.all_eq_true, List.mem_range, Bool.or_eq_true, decide_eq_true_eq] at h
  obtain ⟨_, ot, hot, _⟩ := mem_ready.1 ht
  rcases h i hi t (Array.getElem?_eq_some_iff.1 hot).1 with h1 | h1
  · exact h1
  · have := hc.ready ht (masks_waits ops t i h1)
    rw [hl] at this; cases this

/-- The first n have nothing to do with one another, but where one waits for the other. -/
def headB (ops : Array Oper) (n : Nat) : Bool :=
  let ms := masks ops.toList
  (List.range n).all fun i => match ops[i]? with
    | some oi => (oi.after.all fun e => !Region.binds .any e || decide (e.on < i)) &&
        (List.range n).all fun j => match ops[j]? with
          | some oj => i == j || oi.apart ops oj || (ms.getD j 0).testBit i || (ms.getD i 0).testBit j
          | none => false
    | none => false
theorem headB_apart {n i j : Nat} {oi oj : Oper} (h : headB ops n = true) (hi : i < n) (hj : j < n) (hne : j ≠ i) (hoi : ops[i]? = some oi) (hoj : ops[j]? = some oj) :
    oi.apart ops oj = true ∨ Waits ops j i ∨ Waits ops i j := by
  unfold headB at h
  simp only [List.all_eq_true, List.mem_range] at h
  have h1 := h i hi
  rw [hoi] at h1
  simp only [Bool.and_eq_true, List.all_eq_true, List.mem_range] at h1
  have h2 := h1.2 j hj
  rw [hoj] at h2
  simp only [Bool.or_eq_true, beq_iff_eq] at h2
  rcases h2 with ((h2 | h2) | h2) | h2
  · exact absurd h2.symm hne
  · exact .inl h2
  · exact .inr (.inl (masks_waits _ _ _ h2))
  · exact .inr (.inr (masks_waits _ _ _ h2))
theorem headB_edge {n i : Nat} {oi : Oper} (h : headB ops n = true) (hi : i < n) (hoi : ops[i]? = some oi) : ∀ e ∈ oi.after, Region.binds .any e = true → e.on < i := by
  unfold headB at h
  simp only [List.all_eq_true, List.mem_range] at h
  have h1 := h i hi
  rw [hoi] at h1
  simp only [Bool.and_eq_true, Array.all_eq_true_iff_forall_mem, Bool.or_eq_true, Bool.not_eq_true', decide_eq_true_eq] at h1
  intro e he hb
  rcases h1.1 e he with h2 | h2
  · rw [hb] at h2; cases h2
  · exact h2

theorem stills_first {n i : Nat} {oi : Oper} {v : Value} {Lq : Array Bool → Act → Prop} (hA : aheadB ops n = true) (hH : headB ops n = true) (hi : ops[i]? = some oi) (hin : i < n)
    (hsel : ∀ (j : Nat) (o : Oper) cs b, ops[j]? = some o → o.op ≠ .select cs b)
    (hend : ∀ listed a, Lq listed a → ∀ j ∈ Region.ready .any ops listed, n ≤ j) :
    ∀ (f : Nat) (listed : Array Bool) (a : Act), Closed ops listed → i ∈ Region.ready .any ops listed → YieldsAt P ops w oi v a →
      wpAnyL P .any ops w n Lq f (listed.setIfInBounds i true) (a.put oi.dst v) → wpAnyL P .any ops w n Lq (f + 1) listed a := by
  intro f
  induction f with
  | zero =>
    intro listed a hc hr hy H
    refine ⟨fun h => (by rw [h] at hr; cases hr), fun j hj => ?_⟩
    have hjn := ahead_of hA hc hin (getD_both (mem_ready.1 hr).1) hj
    refine ⟨hjn, ?_⟩
    by_cases hji : j = i
    · subst hji; exact hy.stOp hi H
    · exact absurd (hend _ _ H j (ready_mono hj hji)) (by omega)
  | succ f ih =>
    intro listed a hc hr hy H
    have hiu := (mem_ready.1 hr).1
    refine ⟨fun h => (by rw [h] at hr; cases hr), fun j hj => ?_⟩
    have hjn := ahead_of hA hc hin (getD_both hiu) hj
    refine ⟨hjn, ?_⟩
    by_cases hji : j = i
    · subst hji; exact hy.stOp hi H
    · obtain ⟨hju, oj, hoj, _⟩ := mem_ready.1 hj
      have hap : oi.apart ops oj = true := by
        rcases headB_apart hH hin hjn hji hi hoj with h | h | h
        · exact h
        · have := hc.ready hj h
          rw [getD_both hiu] at this; cases this
        · have := hc.ready hr h
          rw [getD_both hju] at this; cases this
      have h2 := stOp_put hoj hap (fun cs b => hsel i oi cs b hi) (fun cs b => hsel j oj cs b hoj) hy (H.2 j (ready_mono hj hji)).2
      refine stOp_mono (fun a' h3 => ih (listed.setIfInBounds j true) a' (hc.set hj) (ready_mono hr (Ne.symm hji)) h3.1 ?_) h2
      rw [Array.setIfInBounds_comm _ _ hji]
      exact h3.2

/-- Just the first k have come up. -/
def UpTo (ops : Array Oper) (k : Nat) (listed : Array Bool) : Prop := Closed ops listed ∧ listed.size = ops.size ∧ ∀ j, j < ops.size → listed.getD j false = decide (j < k)
theorem UpTo.un {k j : Nat} {listed : Array Bool} (h : UpTo ops k listed) (hj : j < ops.size) : listed.getD j true = decide (j < k) := by
  rw [← h.2.2 j hj]
  have : j < listed.size := by rw [h.2.1]; exact hj
  simp [this]
theorem UpTo.next {n k : Nat} {ok : Oper} {listed : Array Bool} (h : UpTo ops k listed) (hH : headB ops n = true) (hk : k < n) (hok : ops[k]? = some ok) :
    k ∈ Region.ready .any ops listed ∧ UpTo ops (k + 1) (listed.setIfInBounds k true) := by
  have hks := (Array.getElem?_eq_some_iff.1 hok).1
  have hr : k ∈ Region.ready .any ops listed := by
    refine mem_ready.2 ⟨by rw [h.un hks]; simp, ok, hok, fun e he hb => ?_⟩
    have he' := headB_edge hH hk hok e he hb
    rw [h.2.2 e.on (by omega)]
    simpa using he'
  refine ⟨hr, h.1.set hr, by simp [h.2.1], fun j hj => ?_⟩
  by_cases hjk : k = j
  · subst hjk
    have : k < listed.size := by rw [h.2.1]; exact hks
    simp [this]
  · rw [getD_set_ne false hjk, h.2.2 j hj]
    rw [Bool.eq_iff_iff]
    simp only [decide_eq_true_eq]
    omega

theorem stills_lex {n : Nat} {Lq : Act → Prop} (hA : aheadB ops n = true) (hH : headB ops n = true) (hsel : ∀ (j : Nat) (o : Oper) cs b, ops[j]? = some o → o.op ≠ .select cs b) :
    ∀ (l : List Oper) (k : Nat) (listed : Array Bool) (a : Act), (∀ j, j < l.length → l[j]? = ops[k + j]?) → k + l.length = n → UpTo ops k listed →
      wpStill P ops w Lq l a → wpAnyL P .any ops w n (fun listed' a' => UpTo ops n listed' ∧ Lq a') l.length listed a
  | [], k, listed, a, _, hk, hu, h => by
    obtain rfl : k = n := by simpa using hk
    exact ⟨hu, h⟩
  | o :: l, k, listed, a, hl, hk, hu, h => by
    have h0 : ops[k]? = some o := by simpa using (hl 0 (by simp)).symm
    have hkn : k < n := by simp only [List.length_cons] at hk; omega
    obtain ⟨hr, hu'⟩ := hu.next hH hkn h0
    have hst : stOp P ops w k (wpStill P ops w Lq l) a := by unfold stOp; simp only [h0]; exact h
    obtain ⟨v, hy, hK⟩ := yieldsAt_of_stOp h0 hst
    refine stills_first hA hH h0 hkn hsel (fun listed' a' hL j hj => ?_) l.length listed a hu.1 hr hy
      (stills_lex hA hH hsel l (k + 1) _ _ (fun j hj => by have := hl (j + 1) (by simp; omega); simpa [Nat.add_assoc, Nat.add_comm 1 j] using this) (by simp only [List.length_cons] at hk; omega) hu' hK)
    obtain ⟨hj0, oj, hoj, _⟩ := mem_ready.1 hj
    rw [hL.1.un (Array.getElem?_eq_some_iff.1 hoj).1] at hj0
    simpa using hj0

theorem wpOps_picks {l : List Oper} {R : Exit → Act → World → Prop} : ∀ (M : List Nat) (a : Act) (w : World), (∀ k ∈ M, k < l.length) → wpList P l.toArray R (picks l M) a w → wpOps P l.toArray R M a w := by
  intro M
  induction M with
  | nil => intro a w _ h; exact h
  | cons i M ih =>
    intro a w hM h
    have hi := hM i List.mem_cons_self
    have hM' := fun k hk => hM k (List.mem_cons_of_mem _ hk)
    have ho : l.toArray[i]? = some (l.getD i default) := by simp [List.getD_eq_getElem?_getD, hi]
    rw [picks_cons] at h
    rw [wpOps_cons]
    unfold wpOp
    simp only [ho]
    unfold wpList at h
    split
    · rename_i hw
      rw [if_pos hw] at h
      exact h.imp (Oper.wp_mono fun a w h => ih a w hM' h) (fun h => h)
    · rename_i hw
      rw [if_neg hw] at h
      exact ih _ _ hM' h

def stillLineB (P : Program) (ops : Array Oper) (n : Nat) (L : List Nat) : Bool :=
  Region.noSelect ops && decide (n ≤ ops.size) && aheadB ops n && headB ops n &&
  (L.all fun k => selfOk ops k && decide (n ≤ k)) && ((List.range ops.size).all fun k => decide (k < n) || L.contains k) && pairsOk (pairOk P ops (masks ops.toList)) L && decide (L.length ≤ ops.size - n)

/-- **The first n leave the world alone; the others are walked in the order L.** -/
theorem wp_region_still_line {id : Nat} {a : Act} {l : List Oper} (n : Nat) (L : List Nat) (hm : P.follows .mixedOrders = true) (hB : stillLineB P l.toArray n L = true)
    (h : wpStill P l.toArray w.drew (fun a' => wpList P l.toArray (Shaped P l.toArray Q) (picks l L) a' w.drew) (l.take n) a) : (Code.region id l.toArray true).wp P Q a w := by
  unfold stillLineB at hB
  simp only [Bool.and_eq_true, List.all_eq_true, decide_eq_true_eq, List.mem_range, Bool.or_eq_true, List.contains_iff_mem] at hB
  obtain ⟨⟨⟨⟨⟨⟨⟨hsel, hn⟩, hA⟩, hH⟩, hself⟩, hall⟩, hpairs⟩, hlen⟩ := hB
  have hn' : n ≤ l.length := by simpa using hn
  have htl : (l.take n).length = n := by simp; omega
  have hlt : ∀ k ∈ L, k < l.length := fun k hk => by
    have := (hself k hk).1
    unfold selfOk at this
    split at this
    · rename_i o ho; simpa using (Array.getElem?_eq_some_iff.1 ho).1
    · cases this
  have hu : UpTo l.toArray 0 (Array.replicate l.toArray.size false) := by
    refine ⟨fun i o _ hl => ?_, by simp, fun j hj => ?_⟩
    · rw [getD_replicate_false] at hl; cases hl
    · rw [getD_replicate_false]; simp
  have H := stills_lex (P := P) (w := w.drew) hA hH (Region.noSelect_spec hsel) (l.take n) 0 _ a (fun j hj => by
    have hj' : j < n := by rw [htl] at hj; exact hj
    simp [hj']) (by simpa using htl) hu h
  refine Code.wp_mono (Q := Strict Q) (fun e a w hq => by cases e <;> first | exact hq | exact hq.elim) (wp_region_any hm ?_)
  have := wpAny_of_head (Q' := Strict Q) (g := l.toArray.size - n) (fun listed a' hL => by
    refine wpAny_of_order hsel (l.toArray.size - n) listed L a' _ (fun k => ?_) hL.1.2.1 hL.1.1 hlen (fun k hk => (hself k hk).1) hpairs (wpOps_picks L _ _ hlt hL.2)
    constructor
    · intro hk
      have h1 := hlt k hk
      refine ⟨by simpa using h1, ?_⟩
      rw [hL.1.un (by simpa using h1)]
      simpa using (hself k hk).2
    · rintro ⟨hk, hk0⟩
      rw [hL.1.un hk] at hk0
      rcases hall k hk with h1 | h1
      · simp [h1] at hk0
      · exact h1) _ _ _ H
  rw [htl, show n + (l.toArray.size - n) = l.toArray.size by simp at hn ⊢; omega] at this
  exact this
end

end Go.Proofs.Ytgkibjjcdcpkfaa
