/-
  A region that draws its order: a head of operations that leave the world alone (calls among them), a tail that is walked in one order; what only reads in the tail may come up ahead of the head's end. No program of Go's is spoken of.
-/
import Derived.Test.YtgkibjjcdcpkfaaRs
namespace Go.Proofs.Ytgkibjjcdcpkfaa
open Go Go.RowKit

section
variable {P : Program} {ops : Array Oper} {Q : Exit → Act → World → Prop} {w : World}

def mix (P : Program) (ops : Array Oper) (Q : Exit → Act → World → Prop) (w : World) : List Nat → List Nat → Act → Prop
  | [], T, a => wpOps P ops (Shaped P ops Q) T a w
  | j :: H, T, a => stOp P ops w j (mix P ops Q w H T) a

theorem stOp_swap {i j : Nat} {oi oj : Oper} (hi : ops[i]? = some oi) (hj : ops[j]? = some oj) (hap : oj.apart ops oi = true) (hsel : ∀ (j : Nat) (o : Oper) cs b, ops[j]? = some o → o.op ≠ .select cs b)
    {K : Act → Prop} {a : Act} (h : stOp P ops w j (stOp P ops w i K) a) : stOp P ops w i (stOp P ops w j K) a := by
  obtain ⟨v, hy, hK⟩ := yieldsAt_of_stOp hj h
  exact stOp_mono (fun a' h' => h'.1.stOp hj h'.2) (stOp_put hi hap (fun cs b => hsel j oj cs b hj) (fun cs b => hsel i oi cs b hi) hy hK)

theorem mix_head {i : Nat} {oi : Oper} {post T : List Nat} (hi : ops[i]? = some oi) (hsel : ∀ (j : Nat) (o : Oper) cs b, ops[j]? = some o → o.op ≠ .select cs b) :
    ∀ (pre : List Nat) (a : Act), (∀ j ∈ pre, ∃ oj, ops[j]? = some oj ∧ oj.apart ops oi = true) → mix P ops Q w (pre ++ i :: post) T a → stOp P ops w i (mix P ops Q w (pre ++ post) T) a
  | [], a, _, h => h
  | j :: pre, a, hp, h => by
    obtain ⟨oj, hj, hap⟩ := hp j List.mem_cons_self
    exact stOp_swap hi hj hap hsel (stOp_mono (fun a' h' => mix_head hi hsel pre a' (fun k hk => hp k (List.mem_cons_of_mem _ hk)) h') h)

theorem mix_tail {i : Nat} {oi : Oper} {T T' : List Nat} (hi : ops[i]? = some oi) (hsel : ∀ (j : Nat) (o : Oper) cs b, ops[j]? = some o → o.op ≠ .select cs b) (hk : kindOf P oi ≤ 1)
    (hf : ∀ a, wpOps P ops (Shaped P ops Q) T a w → wpOps P ops (Shaped P ops Q) (i :: T') a w)
    (hs : ∀ k ∈ i :: T', ∀ o, ops[k]? = some o → needShape oi = true → dstIn ops o.dst oi = false) :
    ∀ (H : List Nat) (a : Act), (∀ j ∈ H, ∃ oj, ops[j]? = some oj ∧ oj.apart ops oi = true) → mix P ops Q w H T a → stOp P ops w i (mix P ops Q w H T') a
  | [], a, _, h => by
    have h1 := hf a h
    have hsh := shape_at hi h1 hs
    rw [wpOps_cons] at h1
    unfold wpOp at h1
    simp only [hi] at h1
    by_cases hw : Region.wanted oi (yielded ops a.tmps) = true
    · rw [if_pos hw] at h1
      rcases h1 with h1 | ⟨_, _, _, hx⟩
      · unfold Oper.wp at h1
        rcases reads_of hk (hsh hw) w with ⟨x, hx, _⟩ | ⟨g, w', e⟩
        · obtain ⟨v, rfl⟩ := value_of (by omega) (hsh hw) hx
          rw [hx] at h1
          exact YieldsAt.stOp hi (.inl ⟨hw, .inl hx⟩) h1
        · rw [e] at h1
          cases g <;> exact h1.elim
      · exact hx.elim
    · rw [if_neg hw] at h1
      exact YieldsAt.stOp hi (.inr ⟨by simpa using hw, rfl⟩) h1
  | j :: H, a, hp, h => by
    obtain ⟨oj, hj, hap⟩ := hp j List.mem_cons_self
    exact stOp_swap hi hj hap hsel (stOp_mono (fun a' h' => mix_tail hi hsel hk hf hs H a' (fun k hk => hp k (List.mem_cons_of_mem _ hk)) h') h)

def headOk (ops : Array Oper) (ms : List Nat) (j i : Nat) : Bool :=
  match ops[j]?, ops[i]? with
  | some oj, some oi => j != i && !(oj.after.any fun e => Region.binds .any e && e.on == i) && ((ms.getD i 0).testBit j || oj.apart ops oi)
  | _, _ => false
def crossOk (P : Program) (ops : Array Oper) (ms : List Nat) (j t : Nat) : Bool :=
  match ops[j]?, ops[t]? with
  | some oj, some ot => j != t && !(oj.after.any fun e => Region.binds .any e && e.on == t) && ((ms.getD t 0).testBit j || (oj.apart ops ot && decide (kindOf P ot ≤ 1)))
  | _, _ => false
theorem no_edge {o : Oper} {i : Nat} (h : (!(o.after.any fun e => Region.binds .any e && e.on == i)) = true) : ∀ e ∈ o.after, Region.binds .any e = true → e.on ≠ i := by
  intro e he hb heq
  have : o.after.any (fun e => Region.binds .any e && e.on == i) = true := Array.any_eq_true'.2 ⟨e, he, by simp [hb, heq]⟩
  rw [this] at h; cases h
theorem headOk_spec {ms : List Nat} {j i : Nat} (h : headOk ops ms j i = true) : ∃ oj oi, ops[j]? = some oj ∧ ops[i]? = some oi ∧ j ≠ i ∧
    (∀ e ∈ oj.after, Region.binds .any e = true → e.on ≠ i) ∧ ((ms.getD i 0).testBit j = true ∨ oj.apart ops oi = true) := by
  unfold headOk at h
  cases hj : ops[j]? with
  | none => rw [hj] at h; cases h
  | some oj =>
    cases hi : ops[i]? with
    | none => rw [hj, hi] at h; cases h
    | some oi =>
      rw [hj, hi] at h
      simp only [Bool.and_eq_true, Bool.or_eq_true, bne_iff_ne, ne_eq] at h
      exact ⟨oj, oi, rfl, rfl, h.1.1, no_edge h.1.2, h.2⟩
theorem crossOk_spec {ms : List Nat} {j i : Nat} (h : crossOk P ops ms j i = true) : ∃ oj oi, ops[j]? = some oj ∧ ops[i]? = some oi ∧ j ≠ i ∧
    (∀ e ∈ oj.after, Region.binds .any e = true → e.on ≠ i) ∧ ((ms.getD i 0).testBit j = true ∨ (oj.apart ops oi = true ∧ kindOf P oi ≤ 1)) := by
  unfold crossOk at h
  cases hj : ops[j]? with
  | none => rw [hj] at h; cases h
  | some oj =>
    cases hi : ops[i]? with
    | none => rw [hj, hi] at h; cases h
    | some oi =>
      rw [hj, hi] at h
      simp only [Bool.and_eq_true, Bool.or_eq_true, bne_iff_ne, ne_eq, decide_eq_true_eq] at h
      exact ⟨oj, oi, rfl, rfl, h.1.1, no_edge h.1.2, h.2⟩

theorem rem_step {R R' : List Nat} {i : Nat} {listed : Array Bool} (hsz : listed.size = ops.size) (hi : i < ops.size) (hR : ∀ k, k ∈ R ↔ (k < ops.size ∧ listed.getD k true = false)) (hR' : ∀ k, k ∈ R' ↔ (k ∈ R ∧ k ≠ i)) :
    ∀ k, k ∈ R' ↔ (k < ops.size ∧ (listed.setIfInBounds i true).getD k true = false) := by
  intro k
  rw [hR', hR]
  by_cases hki : i = k
  · subst hki
    have : i < listed.size := by omega
    simp [this]
  · rw [getD_set_ne true hki]
    constructor
    · rintro ⟨h, _⟩; exact h
    · intro h; exact ⟨h, fun e => hki e.symm⟩

theorem wpAny_of_mix (hsel : Region.noSelect ops = true) : ∀ (fuel : Nat) (listed : Array Bool) (H T : List Nat) (a : Act),
    (∀ k, k ∈ H ++ T ↔ (k < ops.size ∧ listed.getD k true = false)) → listed.size = ops.size → Closed ops listed → (H ++ T).length ≤ fuel →
    (∀ k ∈ H ++ T, selfOk ops k = true) → pairsOk (headOk ops (masks ops.toList)) H = true → (∀ j ∈ H, ∀ t ∈ T, crossOk P ops (masks ops.toList) j t = true) →
    pairsOk (pairOk P ops (masks ops.toList)) T = true → mix P ops Q w H T a → wpAny P .any ops (Strict Q) fuel listed a w := by
  intro fuel
  induction fuel with
  | zero =>
    intro listed H T a hrem hsz hcl hlen hself hHH hHT hTT h
    obtain rfl : H = [] := List.eq_nil_of_length_eq_zero (by rw [List.length_append] at hlen; omega)
    exact wpAny_of_order hsel 0 listed T a w (by simpa using hrem) hsz hcl (by simpa using hlen) (by simpa using hself) hTT h
  | succ fuel ih =>
    intro listed H T a hrem hsz hcl hlen hself hHH hHT hTT h
    cases H with
    | nil => exact wpAny_of_order hsel _ listed T a w (by simpa using hrem) hsz hcl (by simpa using hlen) (by simpa using hself) hTT h
    | cons r H' =>
    have nsel := Region.noSelect_spec hsel
    have hunl : ∀ k, k < ops.size → listed.getD k true = listed.getD k false := fun k hk => by
      have hk' : k < listed.size := by omega
      simp [hk']
    refine ⟨fun hnil => ?_, fun i hi => ?_⟩
    · exfalso
      obtain ⟨hr, hr0⟩ := (hrem r).1 (by simp)
      have ho : ops[r]? = some ops[r] := Array.getElem?_eq_getElem hr
      have hs := hself r (by simp)
      unfold selfOk at hs
      rw [ho] at hs
      simp only [Bool.and_eq_true, Array.all_eq_true_iff_forall_mem, Bool.or_eq_true, Bool.not_eq_true', bne_iff_ne, ne_eq, decide_eq_true_eq] at hs
      have : r ∈ Region.ready .any ops listed := by
        refine mem_ready.2 ⟨hr0, ops[r], ho, fun e he hb => ?_⟩
        rcases hs.2 e he with hb' | ⟨hne, hlt⟩
        · rw [hb] at hb'; cases hb'
        · cases hl : listed.getD e.on false with
          | true => rfl
          | false =>
            have hmem : e.on ∈ (r :: H') ++ T := (hrem e.on).2 ⟨hlt, by rw [hunl _ hlt]; exact hl⟩
            rcases List.mem_append.1 hmem with hm | hm
            · rcases List.mem_cons.1 hm with heq | hm
              · exact absurd heq hne
              · simp only [pairsOk, Bool.and_eq_true, List.all_eq_true] at hHH
                obtain ⟨oj, oi, hoj, hoi, _, hno, _⟩ := headOk_spec (hHH.1 _ hm)
                rw [ho] at hoj; cases hoj
                exact absurd rfl (hno e he hb)
            · obtain ⟨oj, oi, hoj, hoi, _, hno, _⟩ := crossOk_spec (hHT r List.mem_cons_self _ hm)
              rw [ho] at hoj; cases hoj
              exact absurd rfl (hno e he hb)
      rw [hnil] at this
      cases this
    · obtain ⟨hi0, oi, ho, hall⟩ := mem_ready.1 hi
      have hisz : i < ops.size := (Array.getElem?_eq_some_iff.1 ho).1
      have himem : i ∈ (r :: H') ++ T := (hrem i).2 ⟨hisz, hi0⟩
      have nowait : ∀ j, j ∈ (r :: H') ++ T → ((masks ops.toList).getD i 0).testBit j = true → False := fun j hj hw => by
        have hjl := hcl.ready hi (masks_waits ops i j hw)
        have hj0 := (hrem j).1 hj
        rw [hunl j hj0.1, hjl] at hj0
        cases hj0.2
      generalize hHe : r :: H' = H at *
      clear hHe
      rcases List.mem_append.1 himem with hm | hm
      · obtain ⟨pre, post, rfl⟩ := List.append_of_mem hm
        obtain ⟨_, hp2, hp3⟩ := pairsOk_append hHH
        have hp2' := hp2
        simp only [pairsOk, Bool.and_eq_true, List.all_eq_true] at hp2'
        have hmv := mix_head (Q := Q) (w := w) (T := T) ho nsel pre a (fun j hj => by
          obtain ⟨oj, oi', hoj, hoi, _, _, hor⟩ := headOk_spec (hp3 j hj i List.mem_cons_self)
          rw [ho] at hoi; cases hoi
          rcases hor with hw | hap
          · exact (nowait j (by simp [hj]) hw).elim
          · exact ⟨oj, hoj, hap⟩) h
        refine wpOp_of_stOp (fun a' h' => ?_) hmv
        refine ih (listed.setIfInBounds i true) (pre ++ post) T a' (rem_step hsz hisz hrem fun k => ?_) (by simpa using hsz) (hcl.set hi) (by simp at hlen ⊢; omega) (fun k hk => hself k (by
          simp only [List.mem_append, List.mem_cons] at hk ⊢; rcases hk with (h | h) | h <;> simp [h])) (pairsOk_erase hHH) (fun j hj t ht => hHT j (by
          simp only [List.mem_append, List.mem_cons] at hj ⊢; rcases hj with h | h <;> simp [h]) t ht) hTT h'
        have e1 : ∀ k ∈ pre, k ≠ i := fun k hk => by obtain ⟨_, _, _, _, hne, _⟩ := headOk_spec (hp3 k hk i List.mem_cons_self); exact hne
        have e2 : ∀ k ∈ post, k ≠ i := fun k hk => by obtain ⟨_, _, _, _, hne, _⟩ := headOk_spec (hp2'.1 k hk); exact fun e => hne e.symm
        have e3 : ∀ k ∈ T, k ≠ i := fun k hk => by obtain ⟨_, _, _, _, hne, _⟩ := crossOk_spec (hHT i (by simp) k hk); exact fun e => hne e.symm
        simp only [List.mem_append, List.mem_cons]
        constructor
        · rintro ((h | h) | h)
          · exact ⟨.inl (.inl h), e1 k h⟩
          · exact ⟨.inl (.inr (.inr h)), e2 k h⟩
          · exact ⟨.inr h, e3 k h⟩
        · rintro ⟨(h | h | h) | h, hne⟩
          · exact .inl (.inl h)
          · exact absurd h hne
          · exact .inl (.inr h)
          · exact .inr h
      · obtain ⟨pre, post, rfl⟩ := List.append_of_mem hm
        obtain ⟨_, hp2, hp3⟩ := pairsOk_append hTT
        have hp2' := hp2
        simp only [pairsOk, Bool.and_eq_true, List.all_eq_true] at hp2'
        have selfof : ∀ k ∈ H ++ (pre ++ i :: post), ∀ o, ops[k]? = some o → needShape o = true → dstIn ops o.dst o = false := fun k hk o hok hn => by
          have hs := hself k hk
          unfold selfOk at hs
          rw [hok] at hs
          simp only [Bool.and_eq_true] at hs
          have := hs.1
          rw [hn] at this
          simpa using this
        have hcross : ∀ j ∈ H, ∃ oj, ops[j]? = some oj ∧ oj.apart ops oi = true ∧ kindOf P oi ≤ 1 := fun j hj => by
          obtain ⟨oj, oi', hoj, hoi, _, _, hor⟩ := crossOk_spec (hHT j hj i (by simp))
          rw [ho] at hoi; cases hoi
          rcases hor with hw | hap
          · exact (nowait j (by simp [hj]) hw).elim
          · exact ⟨oj, hoj, hap⟩
        have hpreA : ∀ j ∈ pre, ∃ oj, ops[j]? = some oj ∧ oj.apart ops oi = true ∧ (kindOf P oj = 0 ∨ (kindOf P oj = 1 ∧ kindOf P oi ≤ 2)) ∧ (needShape oj = true → dstIn ops oj.dst oj = false) := fun j hj => by
          obtain ⟨oj, oi', hoj, hoi, _, _, _, hor⟩ := pairOk_spec (hp3 j hj i List.mem_cons_self)
          rw [ho] at hoi; cases hoi
          refine ⟨oj, hoj, ?_⟩
          rcases hor with hw | ⟨hap, hk⟩
          · exact (nowait j (by simp [hj]) hw).elim
          · exact ⟨hap, hk, fun hn => selfof j (by simp [hj]) oj hoj hn⟩
        have hpost : ∀ k ∈ post, ∀ o, ops[k]? = some o → needShape oi = true → dstIn ops o.dst oi = false := fun k hk o hok hn => by
          obtain ⟨oj, oi', hoj, hoi, _, _, hd, _⟩ := pairOk_spec (hp2'.1 k hk)
          rw [ho] at hoj; cases hoj
          rw [hok] at hoi; cases hoi
          exact hd hn
        have hf : ∀ a, wpOps P ops (Shaped P ops Q) (pre ++ i :: post) a w → wpOps P ops (Shaped P ops Q) (i :: (pre ++ post)) a w := fun a h => by
          rw [wpOps_cons]
          exact toFront (P := P) (Q := Q) ho hsel (fun hn => selfof i (by simp) oi ho hn) hpost pre a w hpreA
            (pairsOk_imp (fun j k hjk => by
              obtain ⟨oj, ok, hoj, hok, _, _, hd, _⟩ := pairOk_spec hjk
              simp only [hoj, hok]
              cases hn : needShape oj with
              | false => rfl
              | true => simp [hd hn]) hTT) h
        by_cases hHn : H = []
        · subst hHn
          have h2 : wpAny P .any ops (Strict Q) (fuel + 1) listed a w := wpAny_of_order hsel _ listed _ a w (by simpa using hrem) hsz hcl (by simpa using hlen) (by simpa using hself) hTT h
          exact h2.2 i hi
        have hki : kindOf P oi ≤ 1 := by
          cases H with
          | nil => exact absurd rfl hHn
          | cons j _ => exact (hcross j List.mem_cons_self).choose_spec.2.2
        have hmv := mix_tail (Q := Q) (w := w) (T' := pre ++ post) ho nsel hki hf (fun k hk o hok hn => by
          rcases List.mem_cons.1 hk with rfl | hk
          · rw [ho] at hok; cases hok
            exact selfof k (by simp) oi ho hn
          · rcases List.mem_append.1 hk with hk | hk
            · obtain ⟨ok, hok', hapk, _⟩ := hpreA k hk
              rw [hok] at hok'; cases hok'
              exact (dstIn_of_apart hapk).1
            · exact hpost k hk o hok hn) H a (fun j hj => by obtain ⟨oj, h1, h2, _⟩ := hcross j hj; exact ⟨oj, h1, h2⟩) h
        refine wpOp_of_stOp (fun a' h' => ?_) hmv
        refine ih (listed.setIfInBounds i true) H (pre ++ post) a' (rem_step hsz hisz hrem fun k => ?_) (by simpa using hsz) (hcl.set hi) (by simp at hlen ⊢; omega) (fun k hk => hself k (by
          simp only [List.mem_append, List.mem_cons] at hk ⊢; rcases hk with h | h | h <;> simp [h])) hHH (fun j hj t ht => hHT j hj t (by
          simp only [List.mem_append, List.mem_cons] at ht ⊢; rcases ht with h | h <;> simp [h])) (pairsOk_erase hTT) h'
        have e1 : ∀ k ∈ pre, k ≠ i := fun k hk => by obtain ⟨_, _, _, _, hne, _⟩ := pairOk_spec (hp3 k hk i List.mem_cons_self); exact hne
        have e2 : ∀ k ∈ post, k ≠ i := fun k hk => by obtain ⟨_, _, _, _, hne, _⟩ := pairOk_spec (hp2'.1 k hk); exact fun e => hne e.symm
        have e3 : ∀ k ∈ H, k ≠ i := fun k hk => by obtain ⟨_, _, _, _, hne, _⟩ := crossOk_spec (hHT k hk i (by simp)); exact hne
        simp only [List.mem_append, List.mem_cons]
        constructor
        · rintro (h | h | h)
          · exact ⟨.inl h, e3 k h⟩
          · exact ⟨.inr (.inl h), e1 k h⟩
          · exact ⟨.inr (.inr (.inr h)), e2 k h⟩
        · rintro ⟨h | h | h | h, hne⟩
          · exact .inl h
          · exact .inr (.inl h)
          · exact absurd h hne
          · exact .inr (.inr h)

theorem still_imp {K K' : Act → Prop} (hK : ∀ a, K a → K' a) : ∀ (l : List Oper) (a : Act), wpStill P ops w K l a → wpStill P ops w K' l a
  | [], a, h => hK a h
  | o :: l, a, h => by
    unfold wpStill at h ⊢
    split
    · rename_i hw; rw [if_pos hw] at h; exact Oper.still_mono (fun a' h' => still_imp hK l a' h') h
    · rename_i hw; rw [if_neg hw] at h; exact still_imp hK l _ h
theorem mix_of_still {T : List Nat} : ∀ (l : List Oper) (k : Nat) (a : Act), (∀ j, j < l.length → l[j]? = ops[k + j]?) → wpStill P ops w (fun a' => wpOps P ops (Shaped P ops Q) T a' w) l a → mix P ops Q w (List.range' k l.length) T a
  | [], _, _, _, h => h
  | o :: l, k, a, hl, h => by
    have h0 : ops[k]? = some o := by simpa using (hl 0 (by simp)).symm
    have hst : stOp P ops w k (wpStill P ops w (fun a' => wpOps P ops (Shaped P ops Q) T a' w) l) a := by unfold stOp; simp only [h0]; exact h
    show stOp P ops w k (mix P ops Q w (List.range' (k + 1) l.length) T) a
    exact stOp_mono (fun a' h' => mix_of_still l (k + 1) a' (fun j hj => by have := hl (j + 1) (by simp; omega); simpa [Nat.add_assoc, Nat.add_comm 1 j] using this) h') hst

def mixB (P : Program) (ops : Array Oper) (n : Nat) (L : List Nat) : Bool :=
  Region.noSelect ops && decide (n ≤ ops.size) && ((List.range' 0 n ++ L).all (selfOk ops)) && (L.all fun k => decide (k < ops.size) && decide (n ≤ k)) && ((List.range ops.size).all fun k => decide (k < n) || L.contains k) &&
  pairsOk (headOk ops (masks ops.toList)) (List.range' 0 n) && ((List.range' 0 n).all fun j => L.all fun t => crossOk P ops (masks ops.toList) j t) && pairsOk (pairOk P ops (masks ops.toList)) L && decide (n + L.length ≤ ops.size)

/-- **The first n leave the world alone; the others are walked in the order L; those of them that only read may come up ahead of the first n's end.** -/
theorem wp_region_mix_line {id : Nat} {a : Act} {l : List Oper} (n : Nat) (L : List Nat) (hm : P.follows .mixedOrders = true) (hB : mixB P l.toArray n L = true)
    (h : wpStill P l.toArray w.drew (fun a' => wpList P l.toArray (Shaped P l.toArray Q) (picks l L) a' w.drew) (l.take n) a) : (Code.region id l.toArray true).wp P Q a w := by
  unfold mixB at hB
  simp only [Bool.and_eq_true, List.all_eq_true, decide_eq_true_eq, List.mem_range, Bool.or_eq_true, List.contains_iff_mem] at hB
  obtain ⟨⟨⟨⟨⟨⟨⟨⟨hsel, hn⟩, hself⟩, hL⟩, hall⟩, hHH⟩, hHT⟩, hTT⟩, hlen⟩ := hB
  have hn' : n ≤ l.length := by simpa using hn
  have htl : (l.take n).length = n := by simp; omega
  have h2 := mix_of_still (P := P) (Q := Q) (w := w.drew) (ops := l.toArray) (T := L) (l.take n) 0 a (fun j hj => by
    have hj' : j < n := by rw [htl] at hj; exact hj
    simp [hj']) (still_imp (fun a' h' => wpOps_picks L a' _ (fun k hk => by simpa using (hL k hk).1) h') _ _ h)
  rw [htl] at h2
  refine Code.wp_mono (Q := Strict Q) (fun e a w hq => by cases e <;> first | exact hq | exact hq.elim) (wp_region_any hm ?_)
  refine wpAny_of_mix hsel l.toArray.size _ (List.range' 0 n) L a (fun k => ?_) (by simp) ?_ (by simpa using hlen) hself hHH hHT hTT h2
  · rw [List.mem_append, List.mem_range'_1]
    constructor
    · rintro (hk | hk)
      · have hkn : k < l.toArray.size := by omega
        exact ⟨hkn, by simp at hkn ⊢; simp [hkn]⟩
      · have := (hL k hk).1
        exact ⟨this, by simp at this ⊢; simp [this]⟩
    · rintro ⟨hk, _⟩
      rcases hall k hk with h1 | h1
      · exact .inl ⟨by omega, by omega⟩
      · exact .inr h1
  · intro i o _ hl
    rw [getD_replicate_false] at hl; cases hl
end
end Go.Proofs.Ytgkibjjcdcpkfaa
