/-
  A region that draws its order: a chain first, then operations that find the same in whatever world of S's beside a chain of others, guarded ones among them; what waits for both is walked in one order. No program of Go's is spoken of.
-/
import Derived.Test.YtmlifjfgelfbbaaPre
namespace Go.Proofs.Ytmlifjfgelfbbaa
open Go Go.RowKit

section
variable {P : Program} {ops : Array Oper} {Q : Exit → Act → World → Prop} {S : World → Prop}

def wpHX (P : Program) (ops : Array Oper) (S : World → Prop) (Rr : Act → Prop) : List Nat → Act → Prop
  | [], a => Rr a
  | i :: l, a => ∃ o v, ops[i]? = some o ∧ Region.wanted o (yielded ops a.tmps) = true ∧ (∀ w, S w → (execOp a.eval o).run P w = .ok (.value v) w ∨ ∃ f args, (execOp a.eval o).run P w = .ok (.enter f args) w ∧ Calls P f args w fun e w' => e = .returned v ∧ w = w') ∧ wpHX P ops S Rr l (a.put o.dst v)
theorem four_swap {R : Act → World → Prop} {i : Nat} {l : List Nat} {w : World} (hsel : ∀ (j : Nat) (o : Oper) cs b, ops[j]? = some o → o.op ≠ .select cs b) :
    ∀ (Hs : List Nat) (a : Act), (∀ h ∈ Hs, ∀ oh o, ops[h]? = some oh → ops[i]? = some o → oh.apart ops o = true) → wpHX P ops S (fun a' => LV P ops S R (i :: l) a' w) Hs a →
      ∃ o, ops[i]? = some o ∧ Region.wanted o (yielded ops a.tmps) = true ∧ ((∃ v, (execOp a.eval o).run P w = .ok (.value v) w ∧ wpHX P ops S (fun a' => LV P ops S R l a' w) Hs (a.put o.dst v)) ∨
        ∃ f args, (execOp a.eval o).run P w = .ok (.enter f args) w ∧ Calls P f args w fun e w' => ∃ v, e = .returned v ∧ S w' ∧ wpHX P ops S (fun a' => LV P ops S R l a' w') Hs (a.put o.dst v))
  | [], a, _, h => h
  | h0 :: Hs, a, hap, h => by
    obtain ⟨oh, vh, hoh, hgd, hr, hK⟩ := h
    obtain ⟨o, ho, hgo, hs⟩ := four_swap hsel Hs (a.put oh.dst vh) (fun k hk => hap k (List.mem_cons_of_mem _ hk)) hK
    obtain ⟨x1, x2, x3⟩ := Oper.apart_spec (hap h0 List.mem_cons_self oh o hoh ho)
    rw [execOp_put o (fun cs b => hsel i o cs b ho) a oh.dst vh x1] at hs
    rw [wanted_put o a oh.dst vh x1] at hgo
    have back : ∀ (v : Value) (w' : World), wpHX P ops S (fun a' => LV P ops S R l a' w') Hs ((a.put oh.dst vh).put o.dst v) → wpHX P ops S (fun a' => LV P ops S R l a' w') (h0 :: Hs) (a.put o.dst v) := fun v w' hh => by
      refine ⟨oh, vh, hoh, by rw [wanted_put oh a o.dst v x3]; exact hgd, fun w2 hw2 => ?_, ?_⟩
      · rw [execOp_put oh (fun cs b => hsel h0 oh cs b hoh) a o.dst v x3]
        exact hr w2 hw2
      · rw [← Act.put_comm a vh v (fun d hd hd' => x2 d hd hd')]
        exact hh
    refine ⟨o, ho, hgo, ?_⟩
    rcases hs with ⟨v, hrun, hh⟩ | ⟨f, args, hrun, hc⟩
    · exact .inl ⟨v, hrun, back v w hh⟩
    · exact .inr ⟨f, args, hrun, hc.mono fun e w' ⟨v, he, hS, hh⟩ => ⟨v, he, hS, back v w' hh⟩⟩

theorem wpAny_of_mid2 {R : Act → World → Prop} {L2 : List Nat} {g : Nat} (hsel : Region.noSelect ops = true) (hg : L2.length ≤ g) (hTT : pairsOk (pairOk P ops (masks ops.toList)) L2 = true) (hself2 : ∀ k ∈ L2, selfOk ops k = true)
    (hR : R = fun a w => wpOps P ops (Shaped P ops Q) L2 a w) :
    ∀ (f : Nat) (H L1 : List Nat) (listed : Array Bool) (a : Act) (w : World), H.length + L1.length = f → (∀ k, k ∈ H ++ (L1 ++ L2) ↔ (k < ops.size ∧ listed.getD k true = false)) → listed.size = ops.size → Closed ops listed →
    (∀ k ∈ H ++ (L1 ++ L2), selfOk ops k = true) → (H ++ (L1 ++ L2)).Nodup → pairsOk (noEdge ops) (H ++ (L1 ++ L2)) = true →
    pairsOk (fun x y => ((masks ops.toList).getD y 0).testBit x) H = true → pairsOk (fun x y => ((masks ops.toList).getD y 0).testBit x) L1 = true →
    (∀ t ∈ L2, ∀ j ∈ H ++ L1, ((masks ops.toList).getD t 0).testBit j = true) → (∀ h ∈ H, ∀ l ∈ L1, apartB ops h l = true) →
    S w → wpHX P ops S (fun a' => LV P ops S R L1 a' w) H a → wpAny P .any ops (Strict Q) (f + g) listed a w := by
  have nsel := Region.noSelect_spec hsel
  intro f
  induction f with
  | zero =>
    intro H L1 listed a w hf hrem hsz hcl hself hnd hne hH hL hLL hap hS h
    obtain rfl : H = [] := List.eq_nil_of_length_eq_zero (by omega)
    obtain rfl : L1 = [] := List.eq_nil_of_length_eq_zero (by omega)
    subst hR
    rw [Nat.zero_add]
    exact wpAny_of_order hsel g listed L2 a w (by simpa using hrem) hsz hcl hg hself2 hTT h
  | succ f ih =>
    intro H L1 listed a w hf hrem hsz hcl hself hnd hne hH hL hLL hap hS h
    rw [show f + 1 + g = (f + g) + 1 by omega]
    have hunl : ∀ k, k < ops.size → listed.getD k true = listed.getD k false := fun k hk => by
      have hk' : k < listed.size := by omega
      simp [hk']
    have inrem : ∀ k ∈ H ++ (L1 ++ L2), listed.getD k false = false := fun k hk => by
      obtain ⟨h1, h2⟩ := (hrem k).1 hk
      rw [← hunl k h1]; exact h2
    have nrem : ∀ {i : Nat} {rem' : List Nat}, i ∈ H ++ (L1 ++ L2) → (∀ k, k ∈ rem' ↔ (k ∈ H ++ (L1 ++ L2) ∧ k ≠ i)) → ∀ k, k ∈ rem' ↔ (k < ops.size ∧ (listed.setIfInBounds i true).getD k true = false) := fun {i rem'} hi hr k => by
      have hi' : i < listed.size := by rw [hsz]; exact ((hrem i).1 hi).1
      rw [hr, hrem]
      by_cases hki : i = k
      · subst hki
        simp [hi']
      · rw [getD_set_ne true hki]
        constructor
        · rintro ⟨h, _⟩; exact h
        · intro h; exact ⟨h, fun e => hki e.symm⟩
    refine ⟨fun hnil => ?_, fun i hi => ?_⟩
    · exfalso
      -- the first of what is left is ready
      obtain ⟨x, l, hxl⟩ : ∃ x l, H ++ (L1 ++ L2) = x :: l := by
        cases hO : H ++ (L1 ++ L2) with
        | nil =>
          have := congrArg List.length hO
          simp only [List.length_append, List.length_nil] at this
          omega
        | cons x l => exact ⟨x, l, rfl⟩
      have hx : x ∈ H ++ (L1 ++ L2) := by rw [hxl]; exact List.mem_cons_self
      obtain ⟨hxs, hx0⟩ := (hrem x).1 hx
      have ho : ops[x]? = some ops[x] := Array.getElem?_eq_getElem hxs
      have hs := hself x hx
      rw [hxl] at hne
      obtain ⟨hne1, _⟩ := pairs_cons hne
      unfold selfOk at hs
      rw [ho] at hs
      simp only [Bool.and_eq_true, Array.all_eq_true_iff_forall_mem, Bool.or_eq_true, Bool.not_eq_true', bne_iff_ne, ne_eq, decide_eq_true_eq] at hs
      have : x ∈ Region.ready .any ops listed := by
        refine mem_ready.2 ⟨hx0, ops[x], ho, fun e he hb => ?_⟩
        rcases hs.2 e he with hb' | ⟨hne', hlt⟩
        · rw [hb] at hb'; cases hb'
        · cases hl : listed.getD e.on false with
          | true => rfl
          | false =>
            have hmem : e.on ∈ H ++ (L1 ++ L2) := (hrem e.on).2 ⟨hlt, by rw [hunl _ hlt]; exact hl⟩
            rw [hxl] at hmem
            rcases List.mem_cons.1 hmem with heq | hm
            · exact absurd heq hne'
            · have := hne1 _ hm
              unfold noEdge at this
              rw [ho] at this
              simp only [Array.all_eq_true_iff_forall_mem, Bool.or_eq_true, Bool.not_eq_true', bne_iff_ne, ne_eq] at this
              rcases this e he with hb' | h'
              · rw [hb] at hb'; cases hb'
              · exact absurd rfl h'
      rw [hnil] at this
      cases this
    · obtain ⟨hi0, oi, hoi, _⟩ := mem_ready.1 hi
      have hiR : i ∈ H ++ (L1 ++ L2) := (hrem i).2 ⟨(Array.getElem?_eq_some_iff.1 hoi).1, hi0⟩
      have waitless : ∀ j ∈ H ++ (L1 ++ L2), ((masks ops.toList).getD i 0).testBit j = true → False := fun j hj hb => by
        have := hcl.ready hi (masks_waits _ _ _ hb)
        rw [inrem j hj] at this; cases this
      have hcl' := hcl.set hi
      have hsz' : (listed.setIfInBounds i true).size = ops.size := by simp [hsz]
      rcases List.mem_append.1 hiR with hiH | hiL
      · -- a head
        cases H with
        | nil => cases hiH
        | cons x H' =>
          obtain rfl : i = x := by
            rcases List.mem_cons.1 hiH with rfl | hm
            · rfl
            · exact (waitless x (by simp) ((pairs_cons hH).1 i hm)).elim
          obtain ⟨o, v, ho, hgd, hr, hK⟩ := h
          rw [hoi] at ho; cases ho
          unfold wpOp
          simp only [hoi]
          rw [if_pos hgd]
          left
          have hnd' := List.nodup_cons.1 hnd
          have nx : wpAny P .any ops (Strict Q) (f + g) (listed.setIfInBounds i true) (a.put oi.dst v) w := by
           refine ih H' L1 _ _ w (by simp only [List.length_cons] at hf; omega) (nrem hiR fun k => ?_) hsz' hcl' (fun k hk => hself k (List.mem_cons_of_mem _ hk)) hnd'.2 (pairs_cons hne).2 (pairs_cons hH).2 hL (fun t ht j hj => hLL t ht j (List.mem_cons_of_mem _ hj)) (fun h hh => hap h (List.mem_cons_of_mem _ hh)) hS hK
           constructor
           · intro hk
             exact ⟨List.mem_cons_of_mem _ hk, fun e => hnd'.1 (e ▸ hk)⟩
           · rintro ⟨hk, hne⟩
             rcases List.mem_cons.1 hk with h1 | h1
             · exact absurd h1 hne
             · exact h1
          unfold Oper.wp
          rcases hr w hS with hr1 | ⟨f1, args1, hr1, hc1⟩
          · rw [hr1]
            exact nx
          · rw [hr1]
            exact hc1.mono fun e w' ⟨he, hw⟩ => by subst he; subst hw; exact nx
      · rcases List.mem_append.1 hiL with hi1 | hi2
        · cases L1 with
          | nil => cases hi1
          | cons x L1' =>
            obtain rfl : i = x := by
              rcases List.mem_cons.1 hi1 with rfl | hm
              · rfl
              · exact (waitless x (by simp) ((pairs_cons hL).1 i hm)).elim
            obtain ⟨o, ho, hgd, hs⟩ := four_swap nsel H a (fun h0 hh0 oh o hoh ho => by
              have := hap h0 hh0 i List.mem_cons_self
              unfold apartB at this
              rw [hoh, ho] at this
              exact this) h
            rw [hoi] at ho; cases ho
            unfold wpOp
            simp only [hoi]
            rw [if_pos hgd]
            left
            have hmid := (List.nodup_append.1 hnd)
            have hnd1 : i ∉ H ∧ i ∉ L1' ++ L2 := by
              refine ⟨fun hh => hmid.2.2 i hh i (by simp) rfl, ?_⟩
              exact (List.nodup_cons.1 hmid.2.1).1
            have hnd' : (H ++ (L1' ++ L2)).Nodup := List.nodup_append.2 ⟨hmid.1, (List.nodup_cons.1 hmid.2.1).2, fun x hx y hy => hmid.2.2 x hx y (List.mem_cons_of_mem _ hy)⟩
            have hne' : pairsOk (noEdge ops) (H ++ (L1' ++ L2)) = true := by
              clear ih h hs hf hrem hself hnd hH hL hLL hap inrem nrem hiR waitless hmid hnd1 hnd' hiL hi1
              induction H with
              | nil => exact (pairs_cons hne).2
              | cons y H' ih' =>
                obtain ⟨p1, p2⟩ := pairs_cons (l := H' ++ (i :: L1' ++ L2)) hne
                show pairsOk (noEdge ops) (y :: (H' ++ (L1' ++ L2))) = true
                simp only [pairsOk, Bool.and_eq_true, List.all_eq_true]
                refine ⟨fun z hz => p1 z ?_, ih' p2⟩
                rcases List.mem_append.1 hz with hz | hz
                · exact List.mem_append_left _ hz
                · exact List.mem_append_right _ (List.mem_cons_of_mem _ hz)
            have next : ∀ (v : Value) (w' : World), S w' → wpHX P ops S (fun a' => LV P ops S R L1' a' w') H (a.put oi.dst v) → wpAny P .any ops (Strict Q) (f + g) (listed.setIfInBounds i true) (a.put oi.dst v) w' := fun v w' hS' hh => by
              refine ih H L1' _ _ w' (by simp only [List.length_cons] at hf; omega) (nrem hiR fun k => ?_) hsz' hcl' (fun k hk => hself k ?_) hnd' hne' hH (pairs_cons hL).2 (fun t ht j hj => hLL t ht j ?_) (fun h hh l hl => hap h hh l (List.mem_cons_of_mem _ hl)) hS' hh
              · constructor
                · intro hk
                  rcases List.mem_append.1 hk with h1 | h1
                  · exact ⟨List.mem_append_left _ h1, fun e => hnd1.1 (e ▸ h1)⟩
                  · exact ⟨List.mem_append_right _ (List.mem_cons_of_mem _ h1), fun e => hnd1.2 (e ▸ h1)⟩
                · rintro ⟨hk, hne⟩
                  rcases List.mem_append.1 hk with h1 | h1
                  · exact List.mem_append_left _ h1
                  · rcases List.mem_cons.1 h1 with h2 | h2
                    · exact absurd h2 hne
                    · exact List.mem_append_right _ h2
              · rcases List.mem_append.1 hk with h1 | h1
                · exact List.mem_append_left _ h1
                · exact List.mem_append_right _ (List.mem_cons_of_mem _ h1)
              · rcases List.mem_append.1 hj with h1 | h1
                · exact List.mem_append_left _ h1
                · exact List.mem_append_right _ (List.mem_cons_of_mem _ h1)
            unfold Oper.wp
            rcases hs with ⟨v, hrun, hh⟩ | ⟨f', args, hrun, hc⟩
            · rw [hrun]
              exact next v w hS hh
            · rw [hrun]
              exact hc.mono fun e w' ⟨v, he, hS', hh⟩ => by subst he; exact next v w' hS' hh
        · exfalso
          obtain ⟨j, hj⟩ : ∃ j, j ∈ H ++ L1 := by
            cases hO : H ++ L1 with
            | nil =>
              have := congrArg List.length hO
              simp only [List.length_append, List.length_nil] at this
              omega
            | cons x l => exact ⟨x, List.mem_cons_self⟩
          refine waitless j ?_ (hLL i hi2 j hj)
          rw [← List.append_assoc]
          exact List.mem_append_left _ hj

def preB2 (P : Program) (ops : Array Oper) (L0 H L1 L2 : List Nat) : Bool :=
  let ms := masks ops.toList
  Region.noSelect ops && (L0 ++ (H ++ (L1 ++ L2))).all (selfOk ops) && decide (L0 ++ (H ++ (L1 ++ L2))).Nodup && ((List.range ops.size).all fun k => (L0 ++ (H ++ (L1 ++ L2))).contains k) &&
  pairsOk (noEdge ops) (L0 ++ (H ++ (L1 ++ L2))) && pairsOk (fun x y => (ms.getD y 0).testBit x) L0 && ((H ++ (L1 ++ L2)).all fun t => L0.all fun j => (ms.getD t 0).testBit j) && pairsOk (fun x y => (ms.getD y 0).testBit x) H && pairsOk (fun x y => (ms.getD y 0).testBit x) L1 &&
  (L2.all fun t => (H ++ L1).all fun j => (ms.getD t 0).testBit j) && (H.all fun h => L1.all fun l => apartB ops h l) && pairsOk (pairOk P ops ms) L2 && decide ((L0 ++ (H ++ (L1 ++ L2))).length ≤ ops.size)
/-- **A chain, then operations that find the same in S beside a chain that stays in S, then the others.** -/
theorem wp_region_pre2 {id : Nat} {a : Act} {w : World} {l : List Oper} (L0 H L1 L2 : List Nat) (S : World → Prop) (hm : P.follows .mixedOrders = true) (hB : preB2 P l.toArray L0 H L1 L2 = true) (hS : S w.drew)
    (h : LV P l.toArray S (fun a0 w0 => wpHX P l.toArray S (fun a' => LV P l.toArray S (fun a'' w'' => wpList P l.toArray (Shaped P l.toArray Q) (picks l L2) a'' w'') L1 a' w0) H a0) L0 a w.drew) : (Code.region id l.toArray true).wp P Q a w := by
  unfold preB2 at hB
  simp only [Bool.and_eq_true, List.all_eq_true, decide_eq_true_eq, List.mem_range, List.contains_iff_mem] at hB
  obtain ⟨⟨⟨⟨⟨⟨⟨⟨⟨⟨⟨⟨hsel, hself⟩, hnd⟩, hall⟩, hne⟩, hL0⟩, hT0⟩, hH⟩, hL⟩, hLL⟩, hap⟩, hTT⟩, hlen⟩ := hB
  have hlt : ∀ k ∈ L0 ++ (H ++ (L1 ++ L2)), k < l.length := fun k hk => by
    have := hself k hk
    unfold selfOk at this
    split at this
    · rename_i o ho; simpa using (Array.getElem?_eq_some_iff.1 ho).1
    · cases this
  have hlt2 : ∀ k ∈ L2, k < l.length := fun k hk => hlt k (by simp [hk])
  have lwmono : ∀ {R R' : Act → World → Prop}, (∀ a w, R a w → R' a w) → ∀ (M : List Nat) (a' : Act) (w' : World), LV P l.toArray S R M a' w' → LV P l.toArray S R' M a' w' := by
    intro R R' hR M
    induction M with
    | nil => intro a' w' h'; exact hR _ _ h'
    | cons i M ih =>
      intro a' w' h'
      obtain ⟨o, ho, hgd, h'⟩ := h'
      refine ⟨o, ho, hgd, ?_⟩
      rcases h' with ⟨v, hr, hh⟩ | ⟨f, args, hr, hc⟩
      · exact .inl ⟨v, hr, ih _ _ hh⟩
      · exact .inr ⟨f, args, hr, hc.mono fun e w'' ⟨v, he, hS', hh⟩ => ⟨v, he, hS', ih _ _ hh⟩⟩
  have hrmono : ∀ {Rr Rr' : Act → Prop}, (∀ a, Rr a → Rr' a) → ∀ (M : List Nat) (a' : Act), wpHX P l.toArray S Rr M a' → wpHX P l.toArray S Rr' M a' := by
    intro Rr Rr' hR M
    induction M with
    | nil => intro a' h'; exact hR _ h'
    | cons i M ih =>
      intro a' h'
      obtain ⟨o, v, ho, hgd, hr, h'⟩ := h'
      exact ⟨o, v, ho, hgd, hr, ih _ h'⟩
  refine Code.wp_mono (Q := Strict Q) (fun e a w hq => by cases e <;> first | exact hq | exact hq.elim) (wp_region_any hm ?_)
  have hsum : (L0 ++ (H ++ (L1 ++ L2))).length = L0.length + (H.length + L1.length + L2.length) := by simp only [List.length_append]; omega
  have hmid := List.nodup_append.1 hnd
  have := wpAny_of_pre (P := P) (ops := l.toArray) (Q := Q) (S := S) (T := H ++ (L1 ++ L2)) (g := l.toArray.size - L0.length)
    (R0 := fun a0 w0 => wpHX P l.toArray S (fun a' => LV P l.toArray S (fun a'' w'' => wpOps P l.toArray (Shaped P l.toArray Q) L2 a'' w'') L1 a' w0) H a0)
    (fun listed a' w' h1 h2 h3 h4 h5 => by
      have h6 := wpAny_of_mid2 (P := P) (ops := l.toArray) (Q := Q) (S := S) (L2 := L2) (g := l.toArray.size - L0.length - (H.length + L1.length)) hsel (by omega) hTT (fun k hk => hself k (by simp [hk])) rfl (H.length + L1.length) H L1 listed a' w' rfl h1 h2 h3 (fun k hk => hself k (List.mem_append_right _ hk)) hmid.2.1 (pairs_app hne) hH hL hLL hap h4 h5
      rwa [show H.length + L1.length + (l.toArray.size - L0.length - (H.length + L1.length)) = l.toArray.size - L0.length by omega] at h6)
    L0 (Array.replicate l.toArray.size false) a w.drew (fun k => by
    constructor
    · intro hk
      have h1 := hlt k hk
      exact ⟨by simpa using h1, by simp [h1]⟩
    · rintro ⟨hk, _⟩
      exact hall k hk) (by simp) (fun i o _ hl => by rw [getD_replicate_false] at hl; cases hl) hself hnd hne hL0 hT0 hS
    (lwmono (fun a0 w0 h' => hrmono (fun a' h'' => lwmono (fun a2 w2 h3 => wpOps_picks L2 _ _ hlt2 h3) _ _ _ h'') _ _ h') _ _ _ h)
  rwa [show L0.length + (l.toArray.size - L0.length) = l.toArray.size by omega] at this

theorem hx_read {Rr : Act → Prop} {i : Nat} {l : List Nat} {a : Act} {o : Oper} (v : Value) (ho : ops[i]? = some o) (hg : Region.wanted o (yielded ops a.tmps) = true) (hr : ∀ w, S w → (execOp a.eval o).run P w = .ok (.value v) w) (h : wpHX P ops S Rr l (a.put o.dst v)) : wpHX P ops S Rr (i :: l) a := ⟨o, v, ho, hg, fun w hS => .inl (hr w hS), h⟩
theorem hx_call {Rr : Act → Prop} {i : Nat} {l : List Nat} {a : Act} {o : Oper} (v : Value) (f : FuncId) (args : Array Value) (ho : ops[i]? = some o) (hg : Region.wanted o (yielded ops a.tmps) = true) (hr : ∀ w, (execOp a.eval o).run P w = .ok (.enter f args) w)
    (hc : ∀ w, S w → Calls P f args w fun e w' => e = .returned v ∧ w = w') (h : wpHX P ops S Rr l (a.put o.dst v)) : wpHX P ops S Rr (i :: l) a := ⟨o, v, ho, hg, fun w hS => .inr ⟨f, args, hr w, hc w hS⟩, h⟩
end

end Go.Proofs.Ytmlifjfgelfbbaa
