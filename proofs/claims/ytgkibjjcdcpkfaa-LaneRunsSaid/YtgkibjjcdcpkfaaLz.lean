/-
  What a lane's writes come to, in its region: plain lists, no program.
-/
import Derived.Test.YtgkibjjcdcpkfaaDz
namespace Go.Proofs.Ytgkibjjcdcpkfaa
open Go Go.RowKit

theorem Dk.wr_wf {m : Dk} (hm : m.Wf) {r s : Nat} {x : List UInt8} (hx : x.length ≤ 64) : (m.wr r s x).2.Wf := by
  unfold Dk.wr
  split
  · exact hm
  · split
    · exact hm
    · exact hm.write (by omega) hx
/-- Writes I behind those that wait, all, or the first of them. -/
structure Wrote (m : Dk) (r : Nat) (I : List (Nat × List UInt8)) (p : Nat × Dk) : Prop where
  wf : p.2.Wf
  same : Same m p.2 r
  code : p.1 = 0 ∨ p.1 = 10
  un : m.armd r = false → p.1 = 0
  armd : p.2.armd r = m.armd r
  dat : ∀ s, p.2.dat r s = m.dat r s
  ok : p.1 = 0 → p.2.wts r = m.wts r ++ I
  fail : p.1 ≠ 0 → ∃ J, J <+: I ∧ p.2.wts r = m.wts r ++ J
theorem Wrote.nil {m : Dk} (hm : m.Wf) (r : Nat) : Wrote m r [] (0, m) :=
  ⟨hm, Same.rfl' m r, .inl rfl, fun _ => rfl, rfl, fun _ => rfl, fun _ => (List.append_nil _).symm, fun h => absurd rfl h⟩
theorem Wrote.one {m : Dk} (hm : m.Wf) {r s : Nat} {x : List UInt8} (hr : r < m.regs.length) (hs : s < m.size) (hx : x.length ≤ 64) : Wrote m r [(s, pad x)] (m.wr r s x) := by
  unfold Dk.wr
  rw [if_neg (by omega)]
  split
  · rename_i hd
    exact ⟨hm, Same.rfl' m r, .inr rfl, (fun h => by rw [Dk.down_un h] at hd; cases hd), rfl, fun _ => rfl, (fun h => by cases h), fun _ => ⟨[], List.nil_prefix, (List.append_nil _).symm⟩⟩
  · exact ⟨hm.write hs hx, Dk.write_same, .inl rfl, fun _ => rfl, Dk.write_armd r, fun _ => rfl, fun _ => Dk.write_wts hr, fun h => absurd rfl h⟩
theorem Wrote.then {m : Dk} {r : Nat} {I K : List (Nat × List UInt8)} {p : Nat × Dk} {f : Dk → Nat × Dk} (h : Wrote m r I p) (g : p.1 = 0 → Wrote p.2 r K (f p.2)) : Wrote m r (I ++ K) (thenD p f) := by
  by_cases h0 : p.1 = 0
  · rw [thenD_0 h0]
    have hg := g h0
    refine ⟨hg.wf, h.same.trans hg.same, hg.code, fun hu => hg.un (by rw [h.armd]; exact hu), hg.armd.trans h.armd, fun s => (hg.dat s).trans (h.dat s), fun h1 => ?_, fun h1 => ?_⟩
    · rw [hg.ok h1, h.ok h0, List.append_assoc]
    · obtain ⟨J, ⟨t, rfl⟩, hj⟩ := hg.fail h1
      refine ⟨I ++ J, ⟨t, by rw [List.append_assoc]⟩, ?_⟩
      rw [hj, h.ok h0, List.append_assoc]
  · rw [thenD_e h0]
    refine ⟨h.wf, h.same, h.code, h.un, h.armd, h.dat, fun h1 => absurd h1 h0, fun h1 => ?_⟩
    obtain ⟨J, ⟨t, rfl⟩, hj⟩ := h.fail h1
    exact ⟨J, ⟨t ++ K, by rw [List.append_assoc]⟩, hj⟩
/-- Writes I, then a barrier. -/
structure Laid (m : Dk) (r : Nat) (I : List (Nat × List UInt8)) (p : Nat × Dk) : Prop where
  wf : p.2.Wf
  same : Same m p.2 r
  code : p.1 = 0 ∨ p.1 = 10
  un : m.armd r = false → p.1 = 0
  armd : p.2.armd r = m.armd r
  ok : p.1 = 0 → p.2.wts r = [] ∧ ∀ s, s < m.size → p.2.dat r s = (lastOf s (m.wts r ++ I)).getD (m.dat r s)
  fail : p.1 ≠ 0 → (∀ s, p.2.dat r s = m.dat r s) ∧ ∃ J, J <+: I ∧ p.2.wts r = m.wts r ++ J
theorem Wrote.bar {m : Dk} {r : Nat} {I : List (Nat × List UInt8)} {p : Nat × Dk} (hr : r < m.regs.length) (h : Wrote m r I p) : Laid m r I (thenD p fun m' => m'.bar r) := by
  by_cases h0 : p.1 = 0
  · rw [thenD_0 h0]
    have hr' : r < p.2.regs.length := by rw [h.same.regs]; exact hr
    unfold Dk.bar
    split
    · rename_i hd
      refine ⟨h.wf, h.same, .inr rfl, fun hu => ?_, h.armd, (fun h1 => by cases h1), fun _ => ⟨h.dat, I, List.prefix_refl _, h.ok h0⟩⟩
      rw [Dk.down_un (by rw [h.armd]; exact hu)] at hd
      cases hd
    · refine ⟨h.wf.keep fullMask hr', h.same.trans (Dk.keep_same h.wf hr'), .inl rfl, fun _ => rfl, (Dk.keep_armd hr' r).trans h.armd, fun _ => ⟨Dk.keep_wts hr', fun s hs => ?_⟩, fun h1 => absurd rfl h1⟩
      show (p.2.keep r fullMask).dat r s = _
      rw [Dk.keep_dat h.wf hr' (by rw [h.same.size]; exact hs), Dk.sec_eq, h.ok h0, h.dat]
  · rw [thenD_e h0]
    exact ⟨h.wf, h.same, h.code, h.un, h.armd, fun h1 => absurd h1 h0, fun h1 => ⟨h.dat, h.fail h1⟩⟩

/-! ### Wipe -/
def wipeI (m : Dk) (r s n : Nat) : List (Nat × List UInt8) := ((List.range' s n).filter fun t => m.sec r t ≠ zbys 64).map fun t => (t, zbys 64)
theorem pad_nil : pad [] = zbys 64 := rfl
theorem wipeI_step {m : Dk} {r s n : Nat} {x : List UInt8} (hr : r < m.regs.length) : wipeI (m.write r s x) r (s + 1) n = wipeI m r (s + 1) n := by
  unfold wipeI
  congr 1
  apply List.filter_congr
  intro t ht
  rw [List.mem_range'_1] at ht
  rw [Dk.write_sec hr, if_neg (by omega)]
theorem Dk.wipes_wrote {r : Nat} : ∀ (n s : Nat) {m : Dk}, m.Wf → r < m.regs.length → s + n ≤ m.size → Wrote m r (wipeI m r s n) (Dk.wipes r n s m)
  | 0, s, m, hm, _, _ => Wrote.nil hm r
  | n + 1, s, m, hm, hr, hs => by
    rw [Dk.wipes_succ, if_neg (by omega)]
    split
    · rename_i hz
      have : wipeI m r s (n + 1) = wipeI m r (s + 1) n := by
        unfold wipeI
        rw [List.range'_succ, List.filter_cons_of_neg (by simp [hz])]
      rw [this]
      exact Dk.wipes_wrote n (s + 1) hm hr (by omega)
    · rename_i hz
      have h1 := Wrote.one (x := []) hm hr (show s < m.size by omega) (by simp)
      have e : wipeI m r s (n + 1) = [(s, pad [])] ++ wipeI m r (s + 1) n := by
        unfold wipeI
        rw [List.range'_succ, List.filter_cons_of_pos (by simp [hz]), List.map_cons, pad_nil]
        rfl
      rw [e]
      refine h1.then fun h0 => ?_
      have e2 : m.wr r s [] = (0, m.write r s []) := by
        unfold Dk.wr at h0 ⊢
        rw [if_neg (by omega)] at h0 ⊢
        split at h0
        · cases h0
        · rename_i hd
          rw [if_neg hd]
      rw [e2]
      have := Dk.wipes_wrote n (s + 1) (hm.write (x := []) (show s < m.size by omega) (by simp)) (r := r) (by rw [(Dk.write_same (m := m) (r := r) (s := s) (x := [])).regs]; exact hr) (by
        show s + 1 + n ≤ m.size
        omega)
      rw [wipeI_step hr] at this
      exact this
theorem lastOf_wipe (m : Dk) (r t : Nat) : ∀ (n s : Nat), (lastOf t (wipeI m r s n)).getD (m.sec r t) = if s ≤ t ∧ t < s + n then zbys 64 else m.sec r t := by
  intro n s
  by_cases h : s ≤ t ∧ t < s + n
  · rw [if_pos h]
    by_cases hz : m.sec r t = zbys 64
    · have : lastOf t (wipeI m r s n) = none := lastOf_none fun p hp => by
        unfold wipeI at hp
        rw [List.mem_map] at hp
        obtain ⟨u, hu, rfl⟩ := hp
        rw [List.mem_filter] at hu
        rintro rfl
        simp [hz] at hu
      rw [this]
      exact hz
    · cases hl : lastOf t (wipeI m r s n) with
      | some x =>
        have := lastOf_mem hl
        unfold wipeI at this
        rw [List.mem_map] at this
        obtain ⟨u, _, hu⟩ := this
        simp only [Prod.mk.injEq] at hu
        exact hu.2.symm
      | none =>
        exfalso
        have hm : (t, zbys 64) ∈ wipeI m r s n := by
          unfold wipeI
          rw [List.mem_map]
          refine ⟨t, ?_, rfl⟩
          rw [List.mem_filter, List.mem_range'_1]
          exact ⟨h, by simp [hz]⟩
        obtain ⟨a, b, hab⟩ := List.append_of_mem hm
        rw [hab, lastOf_append] at hl
        have : lastOf t ((t, zbys 64) :: b) ≠ none := by
          rw [lastOf, if_pos rfl]
          cases lastOf t b <;> simp
        cases h2 : lastOf t ((t, zbys 64) :: b) with
        | none => exact this h2
        | some y => rw [h2] at hl; cases hl
  · rw [if_neg h]
    have : lastOf t (wipeI m r s n) = none := lastOf_none fun p hp => by
      unfold wipeI at hp
      rw [List.mem_map] at hp
      obtain ⟨u, hu, rfl⟩ := hp
      rw [List.mem_filter, List.mem_range'_1] at hu
      rintro rfl
      exact h hu.1
    rw [this]
    rfl
theorem Dk.wipe_laid {m : Dk} (hm : m.Wf) {r s t : Nat} (hr : r < m.regs.length) (ht : t ≤ m.size) (hs : s ≤ m.size) : Laid m r (wipeI m r s (t - s)) (m.wipe r s t) :=
  (Dk.wipes_wrote (t - s) s hm hr (by omega)).bar hr
/-- What a region's sectors are behind a wipe. -/
theorem Dk.wipe_dat {m : Dk} (hm : m.Wf) {r s t : Nat} (hr : r < m.regs.length) (ht : t ≤ m.size) (hs : s ≤ m.size) (h0 : (m.wipe r s t).1 = 0) (u : Nat) (hu : u < m.size) : (m.wipe r s t).2.dat r u = if s ≤ u ∧ u < t then zbys 64 else m.sec r u := by
  have h := ((Dk.wipe_laid hm hr ht hs).ok h0).2 u hu
  rw [h, lastOf_append]
  have h2 := lastOf_wipe m r u (t - s) s
  have e : ((lastOf u (wipeI m r s (t - s))).or (lastOf u (m.wts r))).getD (m.dat r u) = (lastOf u (wipeI m r s (t - s))).getD (m.sec r u) := by
    rw [Dk.sec_eq]
    cases lastOf u (wipeI m r s (t - s)) <;> rfl
  rw [e, h2]
  by_cases hc : s ≤ u ∧ u < t
  · rw [if_pos hc, if_pos (by omega)]
  · rw [if_neg hc, if_neg (by omega)]

/-! ### lay -/
def layI (f gen : Nat) (bs : List UInt8) (s n : Nat) : List (Nat × List UInt8) := (List.range' s n).map fun t => (f + t, pad (lsec gen bs t))
theorem Dk.lays_wrote {r f gen : Nat} {bs : List UInt8} : ∀ (n s : Nat) {m : Dk}, m.Wf → r < m.regs.length → f + (s + n) ≤ m.size → Wrote m r (layI f gen bs s n) (Dk.lays r f gen bs n s m)
  | 0, s, m, hm, _, _ => Wrote.nil hm r
  | n + 1, s, m, hm, hr, hs => by
    rw [Dk.lays_succ]
    have h1 := Wrote.one (x := lsec gen bs s) hm hr (show f + s < m.size by omega) (by rw [lsec_len]; have := lpart_len bs s; omega)
    have e : layI f gen bs s (n + 1) = [(f + s, pad (lsec gen bs s))] ++ layI f gen bs (s + 1) n := by
      unfold layI
      rw [List.range'_succ, List.map_cons]
      rfl
    rw [e]
    exact h1.then fun _ => Dk.lays_wrote n (s + 1) h1.wf (by rw [h1.same.regs]; exact hr) (by rw [h1.same.size]; omega)
theorem lastOf_lay (f gen : Nat) (bs : List UInt8) (t : Nat) : ∀ (n s : Nat), lastOf (f + t) (layI f gen bs s n) = if s ≤ t ∧ t < s + n then some (pad (lsec gen bs t)) else none
  | 0, s => by
    rw [if_neg (by omega)]
    rfl
  | n + 1, s => by
    have e : layI f gen bs s (n + 1) = (f + s, pad (lsec gen bs s)) :: layI f gen bs (s + 1) n := by
      unfold layI
      rw [List.range'_succ, List.map_cons]
    rw [e, lastOf, lastOf_lay f gen bs t n (s + 1)]
    by_cases h1 : t = s
    · subst h1
      rw [if_neg (by omega), if_pos rfl, if_pos (by omega)]
      rfl
    · have hne : ¬ ((f + s, pad (lsec gen bs s)).1 = f + t) := by
        show ¬ (f + s = f + t)
        omega
      rw [if_neg hne]
      by_cases h2 : s + 1 ≤ t ∧ t < s + 1 + n
      · rw [if_pos h2, if_pos (by omega)]
        rfl
      · rw [if_neg h2, if_neg (by omega)]
        rfl
theorem lastOf_lay_none {f gen : Nat} {bs : List UInt8} {u n s : Nat} (h : u < f + s ∨ f + (s + n) ≤ u) : lastOf u (layI f gen bs s n) = none := lastOf_none fun p hp => by
  unfold layI at hp
  rw [List.mem_map] at hp
  obtain ⟨t, ht, rfl⟩ := hp
  rw [List.mem_range'_1] at ht
  show f + t ≠ u
  omega
theorem Dk.lay_laid {m : Dk} (hm : m.Wf) {r bank gen fr : Nat} {bs : List UInt8} (hr : r < m.regs.length) (hb : bank ≤ 1) (hbs : bs.length ≤ 14336) (hfr : fr ≤ bs.length) (hsz : 514 ≤ m.size) :
    Laid m r (layI (fst bank) gen bs (fr / 56) (nsec bs.length - fr / 56)) (m.lay r bank gen bs fr) := by
  have h1 := nsec_le hbs
  have h2 : fr / 56 ≤ nsec bs.length := by unfold nsec; omega
  exact (Dk.lays_wrote (nsec bs.length - fr / 56) (fr / 56) hm hr (by unfold fst; omega)).bar hr
/-- What a bank's sectors are behind a laying. -/
theorem Dk.lay_dat {m : Dk} (hm : m.Wf) {r bank gen fr : Nat} {bs : List UInt8} (hr : r < m.regs.length) (hb : bank ≤ 1) (hbs : bs.length ≤ 14336) (hfr : fr ≤ bs.length) (hsz : 514 ≤ m.size) (h0 : (m.lay r bank gen bs fr).1 = 0) (t : Nat) (ht : t < 256) :
    (m.lay r bank gen bs fr).2.dat r (fst bank + t) = if fr / 56 ≤ t ∧ t < nsec bs.length then pad (lsec gen bs t) else m.sec r (fst bank + t) := by
  have h2 : fr / 56 ≤ nsec bs.length := by unfold nsec; omega
  rw [((Dk.lay_laid hm hr hb hbs hfr hsz).ok h0).2 _ (by unfold fst; omega), lastOf_append, lastOf_lay]
  by_cases h : fr / 56 ≤ t ∧ t < nsec bs.length
  · rw [if_pos h, if_pos (by omega)]
    rfl
  · rw [if_neg h, if_neg (by omega)]
    rfl
theorem Dk.lay_dat_out {m : Dk} (hm : m.Wf) {r bank gen fr : Nat} {bs : List UInt8} (hr : r < m.regs.length) (hb : bank ≤ 1) (hbs : bs.length ≤ 14336) (hfr : fr ≤ bs.length) (hsz : 514 ≤ m.size) (h0 : (m.lay r bank gen bs fr).1 = 0) (u : Nat) (hu : u < m.size) (ho : u < fst bank ∨ fst bank + 256 ≤ u) :
    (m.lay r bank gen bs fr).2.dat r u = m.sec r u := by
  have h1 := nsec_le hbs
  have h2 : fr / 56 ≤ nsec bs.length := by unfold nsec; omega
  rw [((Dk.lay_laid hm hr hb hbs hfr hsz).ok h0).2 _ hu, lastOf_append, lastOf_lay_none (by omega)]
  rfl
end Go.Proofs.Ytgkibjjcdcpkfaa
