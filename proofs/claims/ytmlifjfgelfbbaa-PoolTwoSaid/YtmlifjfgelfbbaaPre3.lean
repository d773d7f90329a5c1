/-
  As Pre2, but twice: a chain, two beside one another, a chain, two beside one another, a chain. No program of Go's is spoken of.
-/
import Derived.Test.YtmlifjfgelfbbaaPre2
namespace Go.Proofs.Ytmlifjfgelfbbaa
open Go Go.RowKit

section
variable {P : Program} {ops : Array Oper} {Q : Exit → Act → World → Prop} {S : World → Prop}

theorem wpAny_of_mid3 {R : Act → World → Prop} {T : List Nat} {g : Nat} (hsel : Region.noSelect ops = true)
    (hfin : ∀ (listed : Array Bool) (a : Act) (w : World), (∀ k, k ∈ T ↔ (k < ops.size ∧ listed.getD k true = false)) → listed.size = ops.size → Closed ops listed → S w → R a w → wpAny P .any ops (Strict Q) g listed a w) :
    ∀ (f : Nat) (H L1 : List Nat) (listed : Array Bool) (a : Act) (w : World), H.length + L1.length = f → (∀ k, k ∈ H ++ (L1 ++ T) ↔ (k < ops.size ∧ listed.getD k true = false)) → listed.size = ops.size → Closed ops listed →
    (∀ k ∈ H ++ (L1 ++ T), selfOk ops k = true) → (H ++ (L1 ++ T)).Nodup → pairsOk (noEdge ops) (H ++ (L1 ++ T)) = true →
    pairsOk (fun x y => ((masks ops.toList).getD y 0).testBit x) H = true → pairsOk (fun x y => ((masks ops.toList).getD y 0).testBit x) L1 = true →
    (∀ t ∈ T, ∀ j ∈ H ++ L1, ((masks ops.toList).getD t 0).testBit j = true) → (∀ h ∈ H, ∀ l ∈ L1, apartB ops h l = true) →
    S w → wpHX P ops S (fun a' => LV P ops S R L1 a' w) H a → wpAny P .any ops (Strict Q) (f + g) listed a w := by
  have nsel := Region.noSelect_spec hsel
  intro f
  induction f with
  | zero =>
    intro H L1 listed a w hf hrem hsz hcl hself hnd hne hH hL hLL hap hS h
    obtain rfl : H = [] := List.eq_nil_of_length_eq_zero (by omega)
    obtain rfl : L1 = [] := List.eq_nil_of_length_eq_zero (by omega)
    rw [Nat.zero_add]
    exact hfin listed a w (by simpa using hrem) hsz hcl hS h
  | succ f ih =>
    intro H L1 listed a w hf hrem hsz hcl hself hnd hne hH hL hLL hap hS h
    rw [show f + 1 + g = (f + g) + 1 by omega]
    have hunl : ∀ k, k < ops.size → listed.getD k true = listed.getD k false := fun k hk => by
      have hk' : k < listed.size := by omega
      simp [hk']
    have inrem : ∀ k ∈ H ++ (L1 ++ T), listed.getD k false = false := fun k hk => by
      obtain ⟨h1, h2⟩ := (hrem k).1 hk
      rw [← hunl k h1]; exact h2
    have nrem : ∀ {i : Nat} {rem' : List Nat}, i ∈ H ++ (L1 ++ T) → (∀ k, k ∈ rem' ↔ (k ∈ H ++ (L1 ++ T) ∧ k ≠ i)) → ∀ k, k ∈ rem' ↔ (k < ops.size ∧ (listed.setIfInBounds i true).getD k true = false) := fun {i rem'} hi hr k => by
      have hi' : i < listed.size := by rw [hsz]; exact ((hrem i).1 hi).1
      rw [hr, hrem]
      by_cases hki : i = k
      · subst hki
        simp [hi']
      · rw [getD_set_ne true hki]
        constructor
        · rintro ⟨h, _⟩; exact h
        · intro h; exact ⟨h, fun e => hki e.symm⟩
    refine ⟨fun hnil => ?_, fun i hi => ?_⟩
    · exfalso
      -- the first of what is left is ready
      obtain ⟨x, l, hxl⟩ : ∃ x l, H ++ (L1 ++ T) = x :: l := by
        cases hO : H ++ (L1 ++ T) with
        | nil =>
          have := congrArg List.length hO
          simp only [List.length_append, List.length_nil] at this
          omega
        | cons x l => exact ⟨x, l, rfl⟩
      have hx : x ∈ H ++ (L1 ++ T) := by rw [hxl]; exact List.mem_cons_self
      obtain ⟨hxs, hx0⟩ := (hrem x).1 hx
      have ho : ops[x]? = some ops[x] := Array.getElem?_eq_getElem hxs
      have hs := hself x hx
      rw [hxl] at hne
      obtain ⟨hne1, _⟩ := pairs_cons hne
      unfold selfOk at hs
      rw [ho] at hs
      simp only [Bool.and_eq_true, Array.all_eq_true_iff_forall_mem, Bool.or_eq_true, Bool.not_eq_true', bne_iff_ne, ne_eq, decide_eq_true_eq] at hs
      have : x ∈ Region.ready .any ops listed := by
        refine mem_ready.2 ⟨hx0, ops[x], ho, fun e he hb => ?_⟩
        rcases hs.2 e he with hb' | ⟨hne', hlt⟩
        · rw [hb] at hb'; cases hb'
        · cases hl : listed.getD e.on false with
          | true => rfl
          | false =>
            have hmem : e.on ∈ H ++ (L1 ++ T) := (hrem e.on).2 ⟨hlt, by rw [hunl _ hlt]; exact hl⟩
            rw [hxl] at hmem
            rcases List.mem_cons.1 hmem with heq | hm
            · exact absurd heq hne'
            · have := hne1 _ hm
              unfold noEdge at this
              rw [ho] at this
              simp only [Array.all_eq_true_iff_forall_mem, Bool.or_eq_true, Bool.not_eq_true', bne_iff_ne, ne_eq] at this
              rcases this e he with hb' | h'
              · rw [hb] at hb'; cases hb'
              · exact absurd rfl h'
      rw [hnil] at this
      cases this
    · obtain ⟨hi0, oi, hoi, _⟩ := mem_ready.1 hi
      have hiR : i ∈ H ++ (L1 ++ T) := (hrem i).2 ⟨(Array.getElem?_eq_some_iff.1 hoi).1, hi0⟩
      have waitless : ∀ j ∈ H ++ (L1 ++ T), ((masks ops.toList).getD i 0).testBit j = true → False := fun j hj hb => by
        have := hcl.ready hi (masks_waits _ _ _ hb)
        rw [inrem j hj] at this; cases this
      have hcl' := hcl.set hi
      have hsz' : (listed.setIfInBounds i true).size = ops.size := by simp [hsz]
      rcases List.mem_append.1 hiR with hiH | hiL
      · -- a head
        cases H with
        | nil => cases hiH
        | cons x H' =>
          obtain rfl : i = x := by
            rcases List.mem_cons.1 hiH with rfl | hm
            · rfl
            · exact (waitless x (by simp) ((pairs_cons hH).1 i hm)).elim
          obtain ⟨o, v, ho, hgd, hr, hK⟩ := h
          rw [hoi] at ho; cases ho
          unfold wpOp
          simp only [hoi]
          rw [if_pos hgd]
          left
          have hnd' := List.nodup_cons.1 hnd
          have nx : wpAny P .any ops (Strict Q) (f + g) (listed.setIfInBounds i true) (a.put oi.dst v) w := by
           refine ih H' L1 _ _ w (by simp only [List.length_cons] at hf; omega) (nrem hiR fun k => ?_) hsz' hcl' (fun k hk => hself k (List.mem_cons_of_mem _ hk)) hnd'.2 (pairs_cons hne).2 (pairs_cons hH).2 hL (fun t ht j hj => hLL t ht j (List.mem_cons_of_mem _ hj)) (fun h hh => hap h (List.mem_cons_of_mem _ hh)) hS hK
           constructor
           · intro hk
             exact ⟨List.mem_cons_of_mem _ hk, fun e => hnd'.1 (e ▸ hk)⟩
           · rintro ⟨hk, hne⟩
             rcases List.mem_cons.1 hk with h1 | h1
             · exact absurd h1 hne
             · exact h1
          unfold Oper.wp
          rcases hr w hS with hr1 | ⟨f1, args1, hr1, hc1⟩
          · rw [hr1]
            exact nx
          · rw [hr1]
            exact hc1.mono fun e w' ⟨he, hw⟩ => by subst he; subst hw; exact nx
      · rcases List.mem_append.1 hiL with hi1 | hi2
        · cases L1 with
          | nil => cases hi1
          | cons x L1' =>
            obtain rfl : i = x := by
              rcases List.mem_cons.1 hi1 with rfl | hm
              · rfl
              · exact (waitless x (by simp) ((pairs_cons hL).1 i hm)).elim
            obtain ⟨o, ho, hgd, hs⟩ := four_swap nsel H a (fun h0 hh0 oh o hoh ho => by
              have := hap h0 hh0 i List.mem_cons_self
              unfold apartB at this
              rw [hoh, ho] at this
              exact this) h
            rw [hoi] at ho; cases ho
            unfold wpOp
            simp only [hoi]
            rw [if_pos hgd]
            left
            have hmid := (List.nodup_append.1 hnd)
            have hnd1 : i ∉ H ∧ i ∉ L1' ++ T := by
              refine ⟨fun hh => hmid.2.2 i hh i (by simp) rfl, ?_⟩
              exact (List.nodup_cons.1 hmid.2.1).1
            have hnd' : (H ++ (L1' ++ T)).Nodup := List.nodup_append.2 ⟨hmid.1, (List.nodup_cons.1 hmid.2.1).2, fun x hx y hy => hmid.2.2 x hx y (List.mem_cons_of_mem _ hy)⟩
            have hne' : pairsOk (noEdge ops) (H ++ (L1' ++ T)) = true := by
              clear ih h hs hf hrem hself hnd hH hL hLL hap inrem nrem hiR waitless hmid hnd1 hnd' hiL hi1
              induction H with
              | nil => exact (pairs_cons hne).2
              | cons y H' ih' =>
                obtain ⟨p1, p2⟩ := pairs_cons (l := H' ++ (i :: L1' ++ T)) hne
                show pairsOk (noEdge ops) (y :: (H' ++ (L1' ++ T))) = true
                simp only [pairsOk, Bool.and_eq_true, List.all_eq_true]
                refine ⟨fun z hz => p1 z ?_, ih' p2⟩
                rcases List.mem_append.1 hz with hz | hz
                · exact List.mem_append_left _ hz
                · exact List.mem_append_right _ (List.mem_cons_of_mem _ hz)
            have next : ∀ (v : Value) (w' : World), S w' → wpHX P ops S (fun a' => LV P ops S R L1' a' w') H (a.put oi.dst v) → wpAny P .any ops (Strict Q) (f + g) (listed.setIfInBounds i true) (a.put oi.dst v) w' := fun v w' hS' hh => by
              refine ih H L1' _ _ w' (by simp only [List.length_cons] at hf; omega) (nrem hiR fun k => ?_) hsz' hcl' (fun k hk => hself k ?_) hnd' hne' hH (pairs_cons hL).2 (fun t ht j hj => hLL t ht j ?_) (fun h hh l hl => hap h hh l (List.mem_cons_of_mem _ hl)) hS' hh
              · constructor
                · intro hk
                  rcases List.mem_append.1 hk with h1 | h1
                  · exact ⟨List.mem_append_left _ h1, fun e => hnd1.1 (e ▸ h1)⟩
                  · exact ⟨List.mem_append_right _ (List.mem_cons_of_mem _ h1), fun e => hnd1.2 (e ▸ h1)⟩
                · rintro ⟨hk, hne⟩
                  rcases List.mem_append.1 hk with h1 | h1
                  · exact List.mem_append_left _ h1
                  · rcases List.mem_cons.1 h1 with h2 | h2
                    · exact absurd h2 hne
                    · exact List.mem_append_right _ h2
              · rcases List.mem_append.1 hk with h1 | h1
                · exact List.mem_append_left _ h1
                · exact List.mem_append_right _ (List.mem_cons_of_mem _ h1)
              · rcases List.mem_append.1 hj with h1 | h1
                · exact List.mem_append_left _ h1
                · exact List.mem_append_right _ (List.mem_cons_of_mem _ h1)
            unfold Oper.wp
            rcases hs with ⟨v, hrun, hh⟩ | ⟨f', args, hrun, hc⟩
            · rw [hrun]
              exact next v w hS hh
            · rw [hrun]
              exact hc.mono fun e w' ⟨v, he, hS', hh⟩ => by subst he; exact next v w' hS' hh
        · exfalso
          obtain ⟨j, hj⟩ : ∃ j, j ∈ H ++ L1 := by
            cases hO : H ++ L1 with
            | nil =>
              have := congrArg List.length hO
              simp only [List.length_append, List.length_nil] at this
              omega
            | cons x l => exact ⟨x, List.mem_cons_self⟩
          refine waitless j ?_ (hLL i hi2 j hj)
          rw [← List.append_assoc]
          exact List.mem_append_left _ hj


def waitB (ms : List Nat) (A B : List Nat) : Bool := B.all fun t => A.all fun j => (ms.getD t 0).testBit j
def seqB (ops : Array Oper) (L0 H L1 L2 H' L1' L3 : List Nat) : Bool :=
  let ms := masks ops.toList
  let T3 := H' ++ (L1' ++ L3)
  let T2 := L2 ++ T3
  let T1 := H ++ (L1 ++ T2)
  Region.noSelect ops && (L0 ++ T1).all (selfOk ops) && decide (L0 ++ T1).Nodup && ((List.range ops.size).all fun k => (L0 ++ T1).contains k) && pairsOk (noEdge ops) (L0 ++ T1) &&
  pairsOk (fun x y => (ms.getD y 0).testBit x) L0 && pairsOk (fun x y => (ms.getD y 0).testBit x) H && pairsOk (fun x y => (ms.getD y 0).testBit x) L1 && pairsOk (fun x y => (ms.getD y 0).testBit x) L2 &&
  pairsOk (fun x y => (ms.getD y 0).testBit x) H' && pairsOk (fun x y => (ms.getD y 0).testBit x) L1' && pairsOk (fun x y => (ms.getD y 0).testBit x) L3 &&
  waitB ms L0 T1 && waitB ms (H ++ L1) T2 && waitB ms L2 T3 && waitB ms (H' ++ L1') L3 &&
  (H.all fun h => L1.all fun l => apartB ops h l) && (H'.all fun h => L1'.all fun l => apartB ops h l) && decide ((L0 ++ T1).length ≤ ops.size)
theorem waitB_spec {ms A B : List Nat} (h : waitB ms A B = true) : ∀ t ∈ B, ∀ j ∈ A, (ms.getD t 0).testBit j = true := by
  unfold waitB at h
  simpa [List.all_eq_true] using h
theorem nodup_r {a b : List Nat} (h : (a ++ b).Nodup) : b.Nodup := (List.nodup_append.1 h).2.1

/-- **A chain, two beside one another, a chain, two beside one another, a chain.** -/
theorem wp_region_seq {id : Nat} {a : Act} {w : World} {l : List Oper} (L0 H L1 L2 H' L1' L3 : List Nat) (S : World → Prop) (hm : P.follows .mixedOrders = true) (hB : seqB l.toArray L0 H L1 L2 H' L1' L3 = true) (hS : S w.drew)
    (h : LV P l.toArray S (fun a0 w0 => wpHX P l.toArray S (fun a1 => LV P l.toArray S (fun a2 w2 => LV P l.toArray S (fun a3 w3 => wpHX P l.toArray S (fun a4 => LV P l.toArray S (fun a5 w5 => LV P l.toArray S (fun a6 w6 => Q .normal a6 w6) L3 a5 w5) L1' a4 w3) H' a3) L2 a2 w2) L1 a1 w0) H a0) L0 a w.drew) :
    (Code.region id l.toArray true).wp P Q a w := by
  unfold seqB at hB
  simp only [Bool.and_eq_true, decide_eq_true_eq] at hB
  obtain ⟨⟨⟨⟨⟨⟨⟨⟨⟨⟨⟨⟨⟨⟨⟨⟨⟨⟨hsel, hself⟩, hnd⟩, hall⟩, hne⟩, c0⟩, c1⟩, c2⟩, c3⟩, c4⟩, c5⟩, c6⟩, w1⟩, w2⟩, w3⟩, w4⟩, ap1⟩, ap2⟩, hlen⟩ := hB
  simp only [List.all_eq_true, List.mem_range, List.contains_iff_mem] at hself hall ap1 ap2
  have hlt : ∀ k ∈ L0 ++ (H ++ (L1 ++ (L2 ++ (H' ++ (L1' ++ L3))))), k < l.length := fun k hk => by
    have := hself k hk
    unfold selfOk at this
    split at this
    · rename_i o ho; simpa using (Array.getElem?_eq_some_iff.1 ho).1
    · cases this
  have w1 := waitB_spec w1
  have w2 := waitB_spec w2
  have w3 := waitB_spec w3
  have w4 := waitB_spec w4
  have n1 := nodup_r hnd
  have n2 := nodup_r (nodup_r n1)
  have n3 := nodup_r n2
  have n4 := nodup_r (nodup_r n3)
  have e1 := pairs_app hne
  have e2 := pairs_app (pairs_app e1)
  have e3 := pairs_app e2
  have e4 := pairs_app (pairs_app e3)
  have s1 : ∀ k ∈ H ++ (L1 ++ (L2 ++ (H' ++ (L1' ++ L3)))), selfOk l.toArray k = true := fun k hk => hself k (List.mem_append_right _ hk)
  have s2 : ∀ k ∈ L2 ++ (H' ++ (L1' ++ L3)), selfOk l.toArray k = true := fun k hk => s1 k (List.mem_append_right _ (List.mem_append_right _ hk))
  have s3 : ∀ k ∈ H' ++ (L1' ++ L3), selfOk l.toArray k = true := fun k hk => s2 k (List.mem_append_right _ hk)
  have s4 : ∀ k ∈ L3, selfOk l.toArray k = true := fun k hk => s3 k (List.mem_append_right _ (List.mem_append_right _ hk))
  obtain ⟨g0, hg0⟩ : ∃ g0, l.toArray.size - (L0 ++ (H ++ (L1 ++ (L2 ++ (H' ++ (L1' ++ L3)))))).length = g0 := ⟨_, rfl⟩
  refine Code.wp_mono (Q := Strict Q) (fun e a w hq => by cases e <;> first | exact hq | exact hq.elim) (wp_region_any hm ?_)
  have f6 : ∀ (listed : Array Bool) (a : Act) (w : World), (∀ k, k ∈ ([] : List Nat) ↔ (k < l.toArray.size ∧ listed.getD k true = false)) → listed.size = l.toArray.size → Closed l.toArray listed → S w → Q .normal a w → wpAny P .any l.toArray (Strict Q) g0 listed a w :=
    fun listed a w h1 h2 h3 _ h5 => wpAny_of_chain g0 [] listed a w (by simp) h1 h2 h3 (fun k hk => by cases hk) List.nodup_nil rfl rfl h5
  have f5 := fun (listed : Array Bool) (a : Act) (w : World) (h1 : ∀ k, k ∈ L3 ↔ (k < l.toArray.size ∧ listed.getD k true = false)) h2 h3 h4 h5 => wpAny_of_pre (P := P) (ops := l.toArray) (Q := Q) (S := S) f6 L3 listed a w (by rw [List.append_nil]; exact h1) h2 h3 (by rw [List.append_nil]; exact s4) (by rw [List.append_nil]; exact n4) (by rw [List.append_nil]; exact e4) c6 (fun t ht => by cases ht) h4 h5
  have f4 := fun (listed : Array Bool) (a : Act) (w : World) h1 h2 h3 h4 h5 => wpAny_of_mid3 (P := P) (Q := Q) (S := S) (T := L3) hsel f5 (H'.length + L1'.length) H' L1' listed a w rfl h1 h2 h3 s3 n3 e3 c4 c5 w4 ap2 h4 h5
  have f3 := fun (listed : Array Bool) (a : Act) (w : World) h1 h2 h3 h4 h5 => wpAny_of_pre (P := P) (Q := Q) (S := S) f4 L2 listed a w h1 h2 h3 s2 n2 e2 c3 w3 h4 h5
  have f2 := fun (listed : Array Bool) (a : Act) (w : World) h1 h2 h3 h4 h5 => wpAny_of_mid3 (P := P) (Q := Q) (S := S) (T := L2 ++ (H' ++ (L1' ++ L3))) hsel f3 (H.length + L1.length) H L1 listed a w rfl h1 h2 h3 s1 n1 e1 c1 c2 w2 ap1 h4 h5
  have f1 := wpAny_of_pre (P := P) (Q := Q) (S := S) f2 L0 (Array.replicate l.toArray.size false) a w.drew (fun k => by
    constructor
    · intro hk
      have h1 := hlt k hk
      exact ⟨by simpa using h1, by simp [h1]⟩
    · rintro ⟨hk, _⟩
      exact hall k hk) (by simp) (fun i o _ hl => by rw [getD_replicate_false] at hl; cases hl) hself hnd hne c0 w1 hS h
  have hsum : (L0 ++ (H ++ (L1 ++ (L2 ++ (H' ++ (L1' ++ L3)))))).length = L0.length + (H.length + L1.length + (L2.length + (H'.length + L1'.length + L3.length))) := by simp only [List.length_append]; omega
  rwa [show L0.length + (H.length + L1.length + (L2.length + (H'.length + L1'.length + (L3.length + g0)))) = l.toArray.size by omega] at f1
end

theorem lv_read_d {P : Program} {ops : Array Oper} {S : World → Prop} {R : Act → World → Prop} {i : Nat} {r : List Nat} {a : Act} {w : World} {o : Oper} (v : Value) (d : Nat) (ho : ops[i]? = some o) (hg : Region.wanted o (yielded ops a.tmps) = true) (hd : o.dst = some d) (hr : (execOp a.eval o).run P w = .ok (.value v) w)
    (h : LV P ops S R r { a with tmps := a.tmps.setIfInBounds d v } w) : LV P ops S R (i :: r) a w :=
  lv_read v ho hg hr (by unfold Act.put; rw [hd]; exact h)
theorem lv_end {P : Program} {ops : Array Oper} {S : World → Prop} {R : Act → World → Prop} {a : Act} {w : World} (h : R a w) : LV P ops S R [] a w := h
end Go.Proofs.Ytmlifjfgelfbbaa
