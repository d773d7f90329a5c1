/-
  A lane and its region: what Append, Flush, Anew, crashes and Open leave: plain lists, no program.
-/
import Derived.Test.YtgkibjjcdcpkfaaLr
namespace Go.Proofs.Ytgkibjjcdcpkfaa
open Go Go.RowKit

/-- What a region's sectors are: b in its bank, but of each sector maybe only what was there as long as b's first 'sure' bytes were. -/
structure PartF (f : Nat → List UInt8) (gen bank : Nat) (b : List UInt8) (sure : Nat) : Prop where
  head : f 1 = pad (be 4 gen ++ be 1 bank)
  secs : ∀ t, t < 256 → f (fst bank + t) = secOf gen b t ∨ f (fst bank + t) = secOf gen (b.take sure) t
def RestF (f : Nat → List UInt8) (gen bank : Nat) (b : List UInt8) : Prop := PartF f gen bank b b.length
theorem RestF.sec {f : Nat → List UInt8} {gen bank : Nat} {b : List UInt8} (h : RestF f gen bank b) {t : Nat} (ht : t < 256) : f (fst bank + t) = secOf gen b t := by
  rcases h.secs t ht with h1 | h1
  · exact h1
  · rw [List.take_length] at h1
    exact h1
theorem RestF.mk' {f : Nat → List UInt8} {gen bank : Nat} {b : List UInt8} (h1 : f 1 = pad (be 4 gen ++ be 1 bank)) (h2 : ∀ t, t < 256 → f (fst bank + t) = secOf gen b t) : RestF f gen bank b := ⟨h1, fun t ht => .inl (h2 t ht)⟩

/-- Whatever a crash leaves of a region, Q holds of it. -/
structure Torn (m : Dk) (r : Nat) (Q : (Nat → List UInt8) → Prop) : Prop where
  wf : m.Wf
  hr : r < m.regs.length
  size : 514 ≤ m.size
  q : ∀ f : Nat → List UInt8, (∀ s, s < m.size → f s = m.dat r s ∨ (s, f s) ∈ m.wts r) → Q f
theorem Torn.imp {m : Dk} {r : Nat} {Q Q' : (Nat → List UInt8) → Prop} (h : Torn m r Q) (hq : ∀ f, Q f → Q' f) : Torn m r Q' := ⟨h.wf, h.hr, h.size, fun f hf => hq f (h.q f hf)⟩
theorem Torn.arm {m : Dk} {r : Nat} {Q : (Nat → List UInt8) → Prop} (h : Torn m r Q) (q : Nat) (hq : q < m.regs.length) (a : Bool) (k : Nat) (hk : k ≤ 9223372036854775807) : Torn (m.setReg q ⟨m.regs[q].waits, a, k⟩) r Q := by
  have hw := h.wf.waits m.regs[q] (List.getElem_mem hq)
  refine ⟨h.wf.setReg hw hk, by simpa [Dk.setReg] using h.hr, h.size, fun f hf => h.q f fun s hs => ?_⟩
  have e : (m.setReg q ⟨m.regs[q].waits, a, k⟩).wts r = m.wts r := by
    unfold Dk.wts
    rw [Dk.set_regs hq]
    by_cases hrq : r = q
    · subst hrq
      rw [if_pos rfl, List.getElem?_eq_getElem hq]
      rfl
    · rw [if_neg hrq]
  have := hf s hs
  rw [e] at this
  exact this
theorem Torn.crash {m : Dk} {r : Nat} {Q : (Nat → List UInt8) → Prop} (h : Torn m r Q) (mask : Nat) : Q ((m.crash mask).dat r) ∧ (m.crash mask).wts r = [] ∧ (m.crash mask).armd r = false := by
  obtain ⟨_, _, _, _, h2⟩ := Dk.crash_at (mask := mask) h.wf
  obtain ⟨h3, h4, h5⟩ := h2 r h.hr
  exact ⟨h.q _ h5, h3, h4⟩

/-- A lane and its region: it has 'all', whose first k are sure. -/
structure LSt (m : Dk) (r : Nat) (L : Ln) (all : List Rec) (k : Nat) : Prop where
  b : L.b = encR all
  kle : k ≤ all.length
  sure : L.sure = (encR (all.take k)).length
  good : ∀ x ∈ all, Good x
  len : (encR all).length ≤ 14336
  rest : LRest m r L.gen L.bank (encR (all.take k))
theorem LPart.partF {m : Dk} {r gen bank : Nat} {b : List UInt8} {sure : Nat} (h : LPart m r gen bank b sure) : PartF (m.dat r) gen bank b sure := ⟨h.head, h.secs⟩
theorem LPart.torn {m : Dk} {r gen bank : Nat} {b : List UInt8} {sure : Nat} (h : LPart m r gen bank b sure) : Torn m r (fun f => PartF f gen bank b sure) := by
  refine ⟨h.wf, h.hr, h.size, fun f hf => ?_⟩
  have e : ∀ s, s < m.size → f s = m.dat r s := fun s hs => by
    rcases hf s hs with h1 | h1
    · exact h1
    · rw [h.wts] at h1
      cases h1
  have hsz := h.size
  have hb := h.bankle
  refine ⟨by rw [e 1 (by omega)]; exact h.head, fun t ht => ?_⟩
  rw [e (fst bank + t) (by unfold fst; omega)]
  exact h.secs t ht
theorem LSt.other {m m' : Dk} {r q : Nat} {L : Ln} {all : List Rec} {k : Nat} (h : LSt m r L all k) (hs : Same m m' q) (hw : m'.Wf) (hq : r ≠ q) : LSt m' r L all k := by
  obtain ⟨h1, h2, h3, h4, h5, h6⟩ := h
  refine ⟨h1, h2, h3, h4, h5, ?_⟩
  obtain ⟨g1, g2, g3, g4, g5, g6, g7, g8, g9, g10, g11⟩ := h6
  have e : ∀ s, s < m.size → m'.dat r s = m.dat r s := fun s h => hs.dat r s hq g2 h
  refine ⟨hw, by rw [hs.regs]; exact g2, by rw [hs.size]; exact g3, (hs.wts r hq).trans g4, g5, g6, g7, g8, g9, by rw [e 1 (by omega)]; exact g10, fun t ht => ?_⟩
  rw [e (fst L.bank + t) (by unfold fst; omega)]
  exact g11 t ht
theorem encR_take_le (l : List Rec) (k : Nat) : (encR (l.take k)).length ≤ (encR l).length := by
  conv => rhs; rw [← List.take_append_drop k l, encR_append, List.length_append]
  omega
theorem encR_take (l : List Rec) (k : Nat) : (encR l).take (encR (l.take k)).length = encR (l.take k) := by
  conv => lhs; arg 2; rw [← List.take_append_drop k l, encR_append]
  exact List.take_left
theorem encR_ge : ∀ l : List Rec, 11 * l.length ≤ (encR l).length
  | [] => by simp
  | r :: l => by
    rw [encR_cons, List.length_append, List.length_cons]
    have := r.enc_pos
    have := encR_ge l
    omega
theorem encR_full {l : List Rec} {k : Nat} (hk : k ≤ l.length) (h : (encR (l.take k)).length = (encR l).length) : k = l.length := by
  have e : encR l = encR (l.take k) ++ encR (l.drop k) := by rw [← encR_append, List.take_append_drop]
  rw [e, List.length_append] at h
  have := encR_ge (l.drop k)
  rw [List.length_drop] at this
  omega

/-! ### Append -/
theorem LSt.append_ok {m : Dk} {r : Nat} {L : Ln} {all : List Rec} {k : Nat} {x : Rec} (h : LSt m r L all k) (hx : Good x) (hf : (encR all).length + x.enc.length ≤ 14336) :
    L.append x = (L.place (encR all).length, 0, { L with b := L.b ++ x.enc }) ∧ LSt m r { L with b := L.b ++ x.enc } (all ++ [x]) k := by
  have hb := h.b
  have hk := h.kle
  refine ⟨?_, ?_⟩
  · unfold Ln.append
    rw [if_neg (by rw [hx.right]; simp), if_neg (by rw [hb]; omega), hb]
  · have e : encR (all ++ [x]) = encR all ++ x.enc := by rw [encR_append]; simp [encR]
    have et : (all ++ [x]).take k = all.take k := List.take_append_of_le_length hk
    refine ⟨by rw [e, ← hb], by rw [List.length_append]; omega, by rw [et]; exact h.sure, fun y hy => ?_, by rw [e, List.length_append]; omega, by rw [et]; exact h.rest⟩
    rcases List.mem_append.1 hy with h1 | h1
    · exact h.good y h1
    · rw [List.mem_singleton.1 h1]
      exact hx
theorem LSt.append_full {m : Dk} {r : Nat} {L : Ln} {all : List Rec} {k : Nat} {x : Rec} (h : LSt m r L all k) (hx : x.right = true) (hf : ¬ (encR all).length + x.enc.length ≤ 14336) : L.append x = (0, 7, L) := by
  have hb := h.b
  have hl := h.len
  unfold Ln.append
  rw [if_neg (by rw [hx]; simp), if_pos (by rw [hb]; omega)]

/-! ### Flush -/
theorem LSt.flush {m : Dk} {r : Nat} {L : Ln} {all : List Rec} {k : Nat} (h : LSt m r L all k) :
    ((L.flush m r).1 = 0 ∨ (L.flush m r).1 = 10) ∧ (m.armd r = false → (L.flush m r).1 = 0) ∧ Same m (L.flush m r).2.2 r ∧ (L.flush m r).2.2.Wf ∧ (L.flush m r).2.2.armd r = m.armd r ∧ (L.flush m r).2.2.writes ≤ m.writes + 256 ∧
    ((L.flush m r).1 = 0 → LSt (L.flush m r).2.2 r (L.flush m r).2.1 all all.length ∧ (L.flush m r).2.1.gen = L.gen ∧ (L.flush m r).2.1.bank = L.bank ∧ (L.flush m r).2.1.b = L.b) ∧
    ((L.flush m r).1 ≠ 0 → (L.flush m r).2.1 = L ∧ Torn (L.flush m r).2.2 r (fun f => PartF f L.gen L.bank (encR all) L.sure)) := by
  obtain ⟨hb, hk, hsu, hgd, hln, hrs⟩ := h
  have hsz := hrs.size
  have hbk := hrs.bankle
  have hsl : L.sure ≤ (encR all).length := by rw [hsu]; exact encR_take_le _ _
  have htk : (encR all).take L.sure = encR (all.take k) := by rw [hsu]; exact encR_take _ _
  unfold Ln.flush
  by_cases hs : L.sure = L.b.length
  · rw [if_pos hs]
    have hka : k = all.length := encR_full hk (by rw [← hsu, hs, hb])
    refine ⟨.inl rfl, fun _ => rfl, Same.rfl' m r, hrs.wf, rfl, by simp, fun _ => ⟨?_, rfl, rfl, rfl⟩, fun h => absurd rfl h⟩
    rw [← hka]
    exact ⟨hb, hk, hsu, hgd, hln, hrs⟩
  · rw [if_neg hs, hb]
    simp only
    have hla := Dk.lay_laid hrs.wf (bank := L.bank) (gen := L.gen) (fr := L.sure) (bs := encR all) hrs.hr hbk hln hsl hsz
    have hld := Dk.lay_dat hrs.wf (bank := L.bank) (gen := L.gen) (fr := L.sure) (bs := encR all) hrs.hr hbk hln hsl hsz
    have hlo := Dk.lay_dat_out hrs.wf (bank := L.bank) (gen := L.gen) (fr := L.sure) (bs := encR all) hrs.hr hbk hln hsl hsz
    have hlk := m.lay_keeps r L.bank L.gen (encR all) L.sure
    have hns := nsec_le hln
    obtain ⟨D, hD⟩ : ∃ D, m.lay r L.bank L.gen (encR all) L.sure = D := ⟨_, rfl⟩
    rw [hD] at hla hld hlo hlk ⊢
    have hsd : ∀ s, m.sec r s = m.dat r s := fun s => Dk.sec_nil hrs.wts s
    refine ⟨hla.code, hla.un, hla.same, hla.wf, hla.armd, by have := hlk.2.2; omega, fun h0 => ?_, fun h0 => ?_⟩
    · rw [if_pos h0]
      refine ⟨⟨rfl, Nat.le_refl _, by rw [List.take_length], hgd, hln, ?_⟩, rfl, rfl, rfl⟩
      show LRest D.2 r L.gen L.bank (encR (all.take all.length))
      rw [List.take_length]
      refine ⟨hla.wf, by rw [hlk.1]; exact hrs.hr, by rw [hlk.2.1]; exact hsz, (hla.ok h0).1, hrs.gen0, hrs.gen1, hbk, hln, Nat.le_refl _, ?_, fun t ht => .inl ?_⟩
      · rw [hlo h0 1 (by omega) (by unfold fst; omega), hsd]
        exact hrs.head
      · rw [hld h0 t ht]
        by_cases h1 : L.sure / 56 ≤ t ∧ t < nsec (encR all).length
        · rw [if_pos h1]
          unfold secOf
          rw [if_pos h1.2]
        · rw [if_neg h1, hsd, hrs.sec ht, ← htk]
          by_cases h2 : t < L.sure / 56
          · have := secOf_take (gen := L.gen) (b := encR all) (k := (encR all).length) (pos := L.sure) (t := t) hsl (Nat.le_refl _) (by omega)
            rw [List.take_length] at this
            exact this.symm
          · have hn2 : nsec (encR all).length ≤ t := by omega
            have hn3 : ¬ t < nsec ((encR all).take L.sure).length := by
              rw [List.length_take, Nat.min_eq_left hsl]
              unfold nsec at hn2 ⊢
              omega
            unfold secOf
            rw [if_neg hn3, if_neg (by omega)]
    · rw [if_neg h0]
      obtain ⟨f1, J, ⟨tl, hJ⟩, f3⟩ := hla.fail h0
      refine ⟨rfl, hla.wf, by rw [hlk.1]; exact hrs.hr, by rw [hlk.2.1]; exact hsz, fun f hf => ?_⟩
      rw [f3, hrs.wts, List.nil_append] at hf
      have hJm : ∀ p ∈ J, ∃ t, t < nsec (encR all).length ∧ p = (fst L.bank + t, pad (lsec L.gen (encR all) t)) := fun p hp => by
        have : p ∈ layI (fst L.bank) L.gen (encR all) (L.sure / 56) (nsec (encR all).length - L.sure / 56) := by rw [← hJ]; exact List.mem_append_left _ hp
        unfold layI at this
        rw [List.mem_map] at this
        obtain ⟨t, ht, rfl⟩ := this
        rw [List.mem_range'_1] at ht
        exact ⟨t, by omega, rfl⟩
      rw [hlk.2.1] at hf
      refine ⟨?_, fun t ht => ?_⟩
      · rcases hf 1 (by omega) with h1 | h1
        · rw [h1, f1]
          exact hrs.head
        · obtain ⟨t, _, ht⟩ := hJm _ h1
          simp only [Prod.mk.injEq] at ht
          unfold fst at ht
          omega
      · rcases hf (fst L.bank + t) (by unfold fst; omega) with h1 | h1
        · right
          rw [h1, f1, hrs.sec ht, htk]
        · left
          obtain ⟨u, hu, hut⟩ := hJm _ h1
          simp only [Prod.mk.injEq] at hut
          have : t = u := by omega
          subst this
          rw [hut.2]
          unfold secOf
          rw [if_pos hu]

/-! ### Anew -/
theorem encs_encR (rs : List RecV) : encs rs = encR (rs.map (·.1)) := by
  unfold encs encR
  rw [List.flatMap_map]
theorem Laid.dat_out {m : Dk} {r : Nat} {I : List (Nat × List UInt8)} {p : Nat × Dk} (h : Laid m r I p) (hw : m.wts r = []) {s : Nat} (hs : s < m.size) (hI : ∀ q ∈ I, q.1 ≠ s) : p.2.dat r s = m.dat r s := by
  by_cases h0 : p.1 = 0
  · rw [(h.ok h0).2 s hs, hw, List.nil_append, lastOf_none hI]
    rfl
  · exact (h.fail h0).1 s
theorem Laid.wts_in {m : Dk} {r : Nat} {I : List (Nat × List UInt8)} {p : Nat × Dk} (h : Laid m r I p) (hw : m.wts r = []) : ∀ q ∈ p.2.wts r, q ∈ I := by
  intro q hq
  by_cases h0 : p.1 = 0
  · rw [(h.ok h0).1] at hq
    cases hq
  · obtain ⟨J, ⟨t, hJ⟩, hj⟩ := (h.fail h0).2
    rw [hj, hw, List.nil_append] at hq
    rw [← hJ]
    exact List.mem_append_left _ hq
theorem wipeI_mem {m : Dk} {r s n : Nat} {q : Nat × List UInt8} (h : q ∈ wipeI m r s n) : s ≤ q.1 ∧ q.1 < s + n := by
  unfold wipeI at h
  rw [List.mem_map] at h
  obtain ⟨t, ht, rfl⟩ := h
  rw [List.mem_filter, List.mem_range'_1] at ht
  exact ht.1
theorem layI_mem {f gen : Nat} {bs : List UInt8} {s n : Nat} {q : Nat × List UInt8} (h : q ∈ layI f gen bs s n) : f + s ≤ q.1 ∧ q.1 < f + (s + n) := by
  unfold layI at h
  rw [List.mem_map] at h
  obtain ⟨t, ht, rfl⟩ := h
  rw [List.mem_range'_1] at ht
  show f + s ≤ f + t ∧ f + t < f + (s + n)
  omega
/-- What a laying anew leaves. -/
structure Anewed (m : Dk) (r bank gen : Nat) (b : List UInt8) (p : Nat × Dk) : Prop where
  wf : p.2.Wf
  same : Same m p.2 r
  code : p.1 = 0 ∨ p.1 = 10
  un : m.armd r = false → p.1 = 0
  armd : p.2.armd r = m.armd r
  ok : p.1 = 0 → p.2.wts r = [] ∧ RestF (p.2.dat r) gen bank b
  fail : p.1 ≠ 0 → ∀ f : Nat → List UInt8, (∀ s, s < m.size → f s = p.2.dat r s ∨ (s, f s) ∈ p.2.wts r) → (∀ s, s < m.size → s < fst bank ∨ fst bank + 256 ≤ s → f s = m.dat r s) ∨ RestF f gen bank b
theorem Dk.anew_at {m : Dk} (hm : m.Wf) {r bank gen : Nat} {b : List UInt8} (hr : r < m.regs.length) (hb : bank ≤ 1) (hbl : b.length ≤ 14336) (hsz : 514 ≤ m.size) (hw : m.wts r = []) : Anewed m r bank gen b (m.anew r bank gen b) := by
  unfold Dk.anew
  have hns := nsec_le hbl
  have h1 := Dk.wipe_laid hm (r := r) (s := fst bank) (t := fst bank + 256) hr (by unfold fst; omega) (by unfold fst; omega)
  have d1 := Dk.wipe_dat hm (r := r) (s := fst bank) (t := fst bank + 256) hr (by unfold fst; omega) (by unfold fst; omega)
  obtain ⟨P1, hP1⟩ : ∃ P1, m.wipe r (fst bank) (fst bank + 256) = P1 := ⟨_, rfl⟩
  rw [hP1] at h1 d1 ⊢
  have hsd : ∀ s, m.sec r s = m.dat r s := fun s => Dk.sec_nil hw s
  by_cases c1 : P1.1 = 0
  · rw [thenD_0 c1]
    have w1 := (h1.ok c1).1
    have hr1 : r < P1.2.regs.length := by rw [h1.same.regs]; exact hr
    have hsz1 : 514 ≤ P1.2.size := by rw [h1.same.size]; exact hsz
    have h2 := Dk.lay_laid h1.wf (r := r) (bank := bank) (gen := gen) (fr := 0) (bs := b) hr1 hb hbl (Nat.zero_le _) hsz1
    have d2 := Dk.lay_dat h1.wf (r := r) (bank := bank) (gen := gen) (fr := 0) (bs := b) hr1 hb hbl (Nat.zero_le _) hsz1
    obtain ⟨P2, hP2⟩ : ∃ P2, P1.2.lay r bank gen b 0 = P2 := ⟨_, rfl⟩
    rw [hP2] at h2 d2 ⊢
    have o1 : ∀ s, s < m.size → s < fst bank ∨ fst bank + 256 ≤ s → P1.2.dat r s = m.dat r s := fun s hs ho => by
      rw [d1 c1 s hs, if_neg (by omega), hsd]
    have o2 : ∀ s, s < m.size → s < fst bank ∨ fst bank + 256 ≤ s → P2.2.dat r s = m.dat r s := fun s hs ho => by
      rw [h2.dat_out w1 (by rw [h1.same.size]; exact hs) fun q hq => by have := layI_mem hq; omega]
      exact o1 s hs ho
    by_cases c2 : P2.1 = 0
    · rw [thenD_0 c2]
      have w2 := (h2.ok c2).1
      have hr2 : r < P2.2.regs.length := by rw [h2.same.regs]; exact hr1
      have sz2 : P2.2.size = m.size := h2.same.size.trans h1.same.size
      have hbanks : ∀ t, t < 256 → P2.2.dat r (fst bank + t) = secOf gen b t := fun t ht => by
        rw [d2 c2 t ht, Dk.sec_nil w1, d1 c1 _ (by unfold fst; omega)]
        unfold secOf
        by_cases h : t < nsec b.length
        · rw [if_pos (by omega), if_pos h]
        · rw [if_neg (by omega), if_neg h, if_pos (by omega)]
      have h3 := (Wrote.one h2.wf (r := r) (s := 1) (x := be 4 gen ++ be 1 bank) hr2 (by omega) (by rw [List.length_append, be_len, be_len]; decide)).bar hr2
      refine ⟨h3.wf, h1.same.trans (h2.same.trans h3.same), h3.code, fun hu => h3.un (by rw [h2.armd, h1.armd]; exact hu), (h3.armd.trans h2.armd).trans h1.armd, fun h0 => ?_, fun h0 f hf => ?_⟩
      · obtain ⟨w3, d3⟩ := h3.ok h0
        refine ⟨w3, RestF.mk' ?_ fun t ht => ?_⟩
        · rw [d3 1 (by omega), w2]
          rfl
        · rw [d3 _ (by unfold fst; omega), w2, List.nil_append, lastOf_none (fun q hq => by rw [List.mem_singleton.1 hq]; show (1 : Nat) ≠ _; unfold fst; omega)]
          exact hbanks t ht
      · obtain ⟨e3, J, ⟨tl, hJ⟩, w3⟩ := h3.fail h0
        have hJm : ∀ q ∈ J, q = (1, pad (be 4 gen ++ be 1 bank)) := fun q hq => by
          have : q ∈ [(1, pad (be 4 gen ++ be 1 bank))] := by rw [← hJ]; exact List.mem_append_left _ hq
          exact List.mem_singleton.1 this
        rw [w3, w2, List.nil_append] at hf
        have hoth : ∀ s, s < m.size → s ≠ 1 → f s = P2.2.dat r s := fun s hs hs1 => by
          rcases hf s hs with h | h
          · rw [h, e3]
          · have := hJm _ h
            simp only [Prod.mk.injEq] at this
            omega
        rcases hf 1 (by omega) with h | h
        · left
          intro s hs ho
          by_cases hs1 : s = 1
          · subst hs1
            rw [h, e3]
            exact o2 1 hs ho
          · rw [hoth s hs hs1]
            exact o2 s hs ho
        · right
          have := hJm _ h
          simp only [Prod.mk.injEq, true_and] at this
          refine RestF.mk' this fun t ht => ?_
          rw [hoth _ (by unfold fst; omega) (by unfold fst; omega)]
          exact hbanks t ht
    · rw [thenD_e c2]
      refine ⟨h2.wf, h1.same.trans h2.same, h2.code, fun hu => h2.un (by rw [h1.armd]; exact hu), h2.armd.trans h1.armd, fun h0 => absurd h0 c2, fun _ f hf => .inl fun s hs ho => ?_⟩
      rcases hf s hs with h | h
      · rw [h]
        exact o2 s hs ho
      · have := layI_mem (h2.wts_in w1 _ h)
        simp only at this
        omega
  · rw [thenD_e c1]
    refine ⟨h1.wf, h1.same, h1.code, h1.un, h1.armd, fun h0 => absurd h0 c1, fun _ f hf => .inl fun s hs ho => ?_⟩
    rcases hf s hs with h | h
    · rw [h]
      exact (h1.fail c1).1 s
    · have := wipeI_mem (h1.wts_in hw _ h)
      simp only at this
      omega
theorem allRight_good {rs : List RecV} (h : ∀ x ∈ rs, Good x.1) : allRight rs = true := by
  unfold allRight
  rw [List.all_eq_true]
  exact fun x hx => (h x hx).right
theorem Ln.anew_eq {L : Ln} {m : Dk} {r : Nat} {rs : List RecV} (hg : ∀ x ∈ rs, Good x.1) (hf : (encs rs).length ≤ 14336) :
    L.anew m r rs = ((m.anew r (1 - L.bank) (L.gen + 1) (encs rs)).1, if (m.anew r (1 - L.bank) (L.gen + 1) (encs rs)).1 = 0 then ⟨L.gen + 1, 1 - L.bank, encs rs, (encs rs).length⟩ else L, (m.anew r (1 - L.bank) (L.gen + 1) (encs rs)).2) := by
  unfold Ln.anew
  rw [if_neg (by rw [allRight_good hg]; simp), if_neg (by omega)]
theorem anew_ok {m : Dk} (hm : m.Wf) {r : Nat} {L : Ln} {rs : List RecV} (hr : r < m.regs.length) (hsz : 514 ≤ m.size) (hw : m.wts r = []) (hb : L.bank ≤ 1) (hgn : L.gen + 1 < 4294967296) (hg : ∀ x ∈ rs, Good x.1) (hf : (encs rs).length ≤ 14336) (h0 : (L.anew m r rs).1 = 0) :
    LSt (L.anew m r rs).2.2 r (L.anew m r rs).2.1 (rs.map (·.1)) rs.length ∧ (L.anew m r rs).2.1.gen = L.gen + 1 := by
  have h := Dk.anew_at hm (bank := 1 - L.bank) (gen := L.gen + 1) (b := encs rs) hr (by omega) hf hsz hw
  rw [Ln.anew_eq hg hf] at h0 ⊢
  simp only at h0
  rw [if_pos h0]
  have e := encs_encR rs
  have e2 : (rs.map (·.1)).take rs.length = rs.map (·.1) := List.take_of_length_le (by simp)
  obtain ⟨h1, h2⟩ := h.ok h0
  refine ⟨⟨e, by simp, by rw [e2, ← e], fun x hx => ?_, by rw [← e]; exact hf, ?_⟩, rfl⟩
  · rw [List.mem_map] at hx
    obtain ⟨y, hy, rfl⟩ := hx
    exact hg y hy
  · show LRest _ _ (L.gen + 1) (1 - L.bank) _
    rw [e2, ← e]
    exact ⟨h.wf, by rw [h.same.regs]; exact hr, by rw [h.same.size]; exact hsz, h1, by omega, hgn, by omega, hf, Nat.le_refl _, h2.head, h2.secs⟩
theorem LSt.anew {m : Dk} {r : Nat} {L : Ln} {all : List Rec} {k : Nat} {rs : List RecV} (h : LSt m r L all k) (hgn : L.gen + 1 < 4294967296) (hg : ∀ x ∈ rs, Good x.1) (hf : (encs rs).length ≤ 14336) :
    ((L.anew m r rs).1 = 0 ∨ (L.anew m r rs).1 = 10) ∧ (m.armd r = false → (L.anew m r rs).1 = 0) ∧ Same m (L.anew m r rs).2.2 r ∧ (L.anew m r rs).2.2.Wf ∧ (L.anew m r rs).2.2.armd r = m.armd r ∧ (L.anew m r rs).2.2.writes ≤ m.writes + 520 ∧
    ((L.anew m r rs).1 = 0 → LSt (L.anew m r rs).2.2 r (L.anew m r rs).2.1 (rs.map (·.1)) rs.length ∧ (L.anew m r rs).2.1.gen = L.gen + 1) ∧
    ((L.anew m r rs).1 ≠ 0 → (L.anew m r rs).2.1 = L ∧ Torn (L.anew m r rs).2.2 r (fun f => RestF f L.gen L.bank (encR (all.take k)) ∨ RestF f (L.gen + 1) (1 - L.bank) (encR (rs.map (·.1))))) := by
  have hrs := h.rest
  have hbk := hrs.bankle
  have hsz := hrs.size
  have hok := anew_ok hrs.wf (L := L) (rs := rs) hrs.hr hsz hrs.wts hbk hgn hg hf
  have ha := Dk.anew_at hrs.wf (bank := 1 - L.bank) (gen := L.gen + 1) (b := encs rs) hrs.hr (by omega) hf hsz hrs.wts
  have hk := m.anew_keeps r (1 - L.bank) (L.gen + 1) (encs rs) hf
  rw [Ln.anew_eq hg hf] at hok ⊢
  refine ⟨ha.code, ha.un, ha.same, ha.wf, ha.armd, hk.2.2, hok, fun h0 => ?_⟩
  simp only at h0
  rw [if_neg h0]
  refine ⟨rfl, ha.wf, by rw [ha.same.regs]; exact hrs.hr, by rw [ha.same.size]; exact hsz, fun f hf => ?_⟩
  rw [show (_ : Nat × Dk).2.size = m.size from ha.same.size] at hf
  rcases ha.fail h0 f hf with h1 | h1
  · left
    refine RestF.mk' ?_ fun t ht => ?_
    · rw [h1 1 (by omega) (by unfold fst; omega)]
      exact hrs.head
    · rw [h1 _ (by unfold fst; omega) (by unfold fst; omega)]
      exact hrs.sec ht
  · right
    rw [← encs_encR]
    exact h1

/-! ### Open -/
theorem opens_part {m : Dk} {r gen bank sure : Nat} {l : List Rec} (hm : m.Wf) (hr : r < m.regs.length) (hsz : 514 ≤ m.size) (hw : m.wts r = []) (hu : m.armd r = false) (g0 : 0 < gen) (g1 : gen < 4294967296) (hb : bank ≤ 1) (hl : (encR l).length ≤ 14336) (hs : sure ≤ (encR l).length) (hg : ∀ x ∈ l, Good x) (h : PartF (m.dat r) gen bank (encR l) sure) :
    ∃ j m', j ≤ l.length ∧ m.opens r = (0, some (⟨gen, bank, encR (l.take j), (encR (l.take j)).length⟩, places gen 0 (l.take j)), m') ∧
      LSt m' r ⟨gen, bank, encR (l.take j), (encR (l.take j)).length⟩ (l.take j) j ∧ Same m m' r ∧ m'.armd r = false ∧ m'.writes ≤ m.writes + 600 ∧ ∀ i, i ≤ l.length → (encR (l.take i)).length ≤ sure → i ≤ j := by
  obtain ⟨j, m', h1, h2, h3, h4, h5, h6, h7⟩ := LPart.opens (m := m) (r := r) (l := l) (sure := sure) ⟨hm, hr, hsz, hw, g0, g1, hb, hl, hs, h.head, h.secs⟩ hg hu
  have e : (l.take j).take j = l.take j := by rw [List.take_take, Nat.min_self]
  refine ⟨j, m', h1, h2, ⟨rfl, by rw [List.length_take]; omega, by rw [e], fun x hx => hg x (List.mem_of_mem_take hx), ?_, by rw [e]; exact h3⟩, h4, h5, h6, h7⟩
  exact h3.len
/-- A region at rest is opened with all it has. -/
theorem opens_rest {m : Dk} {r gen bank : Nat} {l : List Rec} (hm : m.Wf) (hr : r < m.regs.length) (hsz : 514 ≤ m.size) (hw : m.wts r = []) (hu : m.armd r = false) (g0 : 0 < gen) (g1 : gen < 4294967296) (hb : bank ≤ 1) (hl : (encR l).length ≤ 14336) (hg : ∀ x ∈ l, Good x) (h : RestF (m.dat r) gen bank (encR l)) :
    ∃ m', m.opens r = (0, some (⟨gen, bank, encR l, (encR l).length⟩, places gen 0 l), m') ∧
      LSt m' r ⟨gen, bank, encR l, (encR l).length⟩ l l.length ∧ Same m m' r ∧ m'.armd r = false ∧ m'.writes ≤ m.writes + 600 := by
  obtain ⟨j, m', h1, h2, h3, h4, h5, h6, h7⟩ := opens_part hm hr hsz hw hu g0 g1 hb hl (Nat.le_refl _) hg h
  have hj : j = l.length := Nat.le_antisymm h1 (h7 l.length (Nat.le_refl _) (by rw [List.take_length]; exact Nat.le_refl _))
  subst hj
  rw [List.take_length] at h2 h3
  exact ⟨m', h2, h3, h4, h5, h6⟩
end Go.Proofs.Ytgkibjjcdcpkfaa
