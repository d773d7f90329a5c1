/-
  The package disk: keep: what it comes to, in terms of blocks: a contract, no statement.
-/
import Derived.Test.YtmlifjfgelfbbaaDw
namespace Go.Proofs.Ytmlifjfgelfbbaa
open Go Go.RowKit

def bitB (mask k : Nat) : Bool := decide (mask / 2 ^ (k % 64) % 2 = 1)
/-- What of some writes lasts. -/
def keepTo (base mask : Nat) : Nat → List (Nat × List UInt8) → List (List UInt8) → List (List UInt8)
  | _, [], d => d
  | k, p :: l, d => keepTo base mask (k + 1) l (if bitB mask k then d.set (base + p.1) p.2 else d)
theorem keepTo_snoc (base mask : Nat) (p : Nat × List UInt8) : ∀ (a : List (Nat × List UInt8)) (k : Nat) (d : List (List UInt8)), keepTo base mask k (a ++ [p]) d = if bitB mask (k + a.length) then (keepTo base mask k a d).set (base + p.1) p.2 else keepTo base mask k a d
  | [], k, d => rfl
  | q :: a, k, d => by
    rw [List.cons_append, keepTo, keepTo_snoc base mask p a, List.length_cons, show k + 1 + a.length = k + (a.length + 1) by omega]
    rfl
theorem keepTo_len (base mask : Nat) : ∀ (l : List (Nat × List UInt8)) (k : Nat) (d : List (List UInt8)), (keepTo base mask k l d).length = d.length
  | [], _, _ => rfl
  | p :: l, k, d => by rw [keepTo, keepTo_len]; split <;> simp
theorem keepTo_secs (base mask : Nat) : ∀ (l : List (Nat × List UInt8)) (k : Nat) (d : List (List UInt8)), (∀ p ∈ l, p.2.length = 64) → (∀ s ∈ d, s.length = 64) → ∀ s ∈ keepTo base mask k l d, s.length = 64
  | [], _, _, _, hd => hd
  | p :: l, k, d, hl, hd => by
    rw [keepTo]
    refine keepTo_secs base mask l (k + 1) _ (fun q hq => hl q (List.mem_cons_of_mem _ hq)) fun s hs => ?_
    split at hs
    · rcases List.mem_or_eq_of_mem_set hs with h | rfl
      · exact hd s h
      · exact hl p List.mem_cons_self
    · exact hd s hs
def Dk.keep (m : Dk) (r mask : Nat) : Dk :=
  match m.regs[r]? with
  | some x => { m with data := keepTo (r * m.size) mask 0 x.waits m.data, regs := m.regs.set r ⟨[], x.armed, x.left⟩ }
  | none => m
theorem and63 (k : Nat) (hk : k ≤ 9223372036854775807) : bits .and .i64 (k : Int) 63 = ((k % 64 : Nat) : Int) := by
  show IntKind.i64.wrap ((BitVec.ofInt 64 (k : Int) &&& BitVec.ofInt 64 63).toNat : Int) = _
  have h : (BitVec.ofInt 64 (k : Int) &&& BitVec.ofInt 64 63).toNat = k % 64 := by
    rw [BitVec.toNat_and]
    have h1 : (BitVec.ofInt 64 (k : Int)).toNat = k := by rw [BitVec.toNat_ofInt]; omega
    have h2 : (BitVec.ofInt 64 63).toNat = 2 ^ 6 - 1 := by decide
    rw [h1, h2, Nat.and_two_pow_sub_one_eq_mod]
  rw [h, IntWalk.i64_in _ (by omega)]
theorem and1 (k : Nat) (hk : k < 18446744073709551616) : bits .and .u64 (k : Int) 1 = ((k % 2 : Nat) : Int) := by
  show IntKind.u64.wrap ((BitVec.ofInt 64 (k : Int) &&& BitVec.ofInt 64 1).toNat : Int) = _
  have h : (BitVec.ofInt 64 (k : Int) &&& BitVec.ofInt 64 1).toNat = k % 2 := by
    rw [BitVec.toNat_and]
    have h1 : (BitVec.ofInt 64 (k : Int)).toNat = k := by rw [BitVec.toNat_ofInt]; omega
    have h2 : (BitVec.ofInt 64 1).toNat = 2 ^ 1 - 1 := by decide
    rw [h1, h2, Nat.and_two_pow_sub_one_eq_mod]
  rw [h, wrap_u64 (by omega) (by omega)]

theorem bit_spell (mask i : Nat) (hm : mask < 18446744073709551616) : (bits .and .u64 ((mask : Int) / 2 ^ (i % 64)) 1 == 1) = bitB mask i := by
  have e : (mask : Int) / 2 ^ (i % 64) = ((mask / 2 ^ (i % 64) : Nat) : Int) := by simp
  have hle : mask / 2 ^ (i % 64) ≤ mask := Nat.div_le_self _ _
  rw [e, and1 _ (by omega)]
  unfold bitB
  rw [Bool.eq_iff_iff]
  simp only [beq_iff_eq, decide_eq_true_eq]
  omega

theorem Dk.keep_eq {m : Dk} {r : Nat} (mask : Nat) (hr : r < m.regs.length) : m.keep r mask = { m with data := keepTo (r * m.size) mask 0 m.regs[r].waits m.data, regs := m.regs.set r ⟨[], m.regs[r].armed, m.regs[r].left⟩ } := by
  unfold Dk.keep
  rw [List.getElem?_eq_getElem hr]
theorem Dk.Wf.keep {m : Dk} (hm : m.Wf) {r : Nat} (mask : Nat) (hr : r < m.regs.length) : (m.keep r mask).Wf := by
  rw [Dk.keep_eq mask hr]
  have hw := hm.waits m.regs[r] (List.getElem_mem hr)
  have hl := hm.lefts m.regs[r] (List.getElem_mem hr)
  refine ⟨by simp only [keepTo_len, List.length_set]; exact hm.data, by simpa only [List.length_set] using hm.regs, hm.size0, hm.size, keepTo_secs _ _ _ _ _ (fun p hp => (hw.2 p hp).1) hm.secs, fun y hy => ?_, fun y hy => ?_⟩
  · rcases List.mem_or_eq_of_mem_set hy with h | rfl
    · exact hm.waits y h
    · exact ⟨Nat.zero_le _, fun p hp => by simp at hp⟩
  · rcases List.mem_or_eq_of_mem_set hy with h | rfl
    · exact hm.lefts y h
    · exact hl
theorem At.keep_done {w0 w : World} {R : HP} {b : Nat} {m : Dk} {r : Nat} {mask : Nat} {dv rv : Value} {vs : List Value} (hr : r < m.regs.length) (hv : vs.length = m.regs.length) (hm : m.Wf)
    (h : At w0 (cel b #[.int .i64 m.size, dv, rv, .int .i64 m.writes] 82 * (row 96 64 dv m.data.length (secs (keepTo (r * m.size) mask 0 m.regs[r].waits m.data)) * (row 95 3 rv m.regs.length ((rgcs m.regs vs).set (r * 3) (.slice none 0 0)) * (rgsX r m.regs vs * R)))) w) : At w0 (dsk b (m.keep r mask) * R) w := by
  have hk := hm.keep mask hr
  rw [Dk.keep_eq mask hr] at hk ⊢
  refine At.dsk_shut (dv := dv) (rv := rv) (vs := vs.set r (.slice none 0 0)) hk (by simp [hv]) ((h.row_nil 98 65).cast ?_)
  simp only [List.length_set, keepTo_len, rgsP_set hr hv, rgcs_waits hr hv [] (.slice none 0 0), wcss, List.flatMap_nil, List.length_nil]
  ac_rfl

set_option maxRecDepth 100000 in
set_option maxHeartbeats 4000000 in
theorem diskKeep_any (w0 w : World) (R : HP) (b : Nat) (m : Dk) (r mask : Nat) (hr : r < m.regs.length) (hmk : mask < 18446744073709551616) (hwn : m.writes ≤ 1000000000) (h : At w0 (dsk b m * R) w) :
    Calls Try.prog 45 #[.pointer (some ⟨b, 0, none⟩), .int .i64 r, .int .u64 mask] w fun e w' => e = .returned (.tuple #[]) ∧ At w0 (dsk b (m.keep r mask) * R) w' := by
  obtain ⟨hm, dv, rv, vs, hvs, h1⟩ := h.dsk_open
  have hwt := hm.waits _ (List.getElem_mem hr)
  obtain ⟨g, rc, rfl, hrc, hcell⟩ := h1.pull3.row_ptr (by omega)
  obtain ⟨dg, dc, rfl, hdc⟩ := h1.pull2.row_some (by rw [hm.data]; exact Nat.mul_pos (by omega) hm.size0)
  obtain ⟨e0, e1, e2⟩ := rgcs_at hr hvs
  have d0 := hcell _ _ e0
  have h3 := h1
  rw [rgsP_get hr hvs] at h3
  obtain ⟨wa, wc, hwv⟩ := h3.pull4.assoc.row_len
  rw [hwv] at d0 h3
  have hrn : (r : Int) < (m.regs.length : Int) := by omega
  have hp := prod_le hr hm.regs hm.size
  have hmul : (r : Int) * (m.size : Int) = ((r * m.size : Nat) : Int) := by simp
  have c2 := At.cell (i := 2) h1 rfl
  have hws := hm.waits _ (List.getElem_mem hr)
  have hwl : m.regs[r].waits.length ≤ 1000000000 := by omega
  obtain ⟨ws, hwse⟩ : ∃ ws, m.regs[r].waits = ws := ⟨_, rfl⟩
  rw [hwse] at hws hwl h3 d0
  have hat := fun s hs => hm.at_lt (s := s) hr hs
  obtain ⟨q, hq⟩ : ∃ q, r * m.size = q := ⟨_, rfl⟩
  rw [hq] at hp hmul hat
  have Hat := hide hat
  have Hq := hide hq
  have Hmul := hide hmul
  clear hat hmul
  obtain ⟨D, hD⟩ : ∃ D : Nat → List (List UInt8), D = fun i => keepTo q mask 0 (ws.take i) m.data := ⟨_, rfl⟩
  have hD0 : m.data = D 0 := by rw [hD]; rfl
  have hDl : ∀ i, (D i).length = m.data.length := fun i => by rw [hD]; exact keepTo_len _ _ _ _ _
  have h4 := h3.cast (show _ = cel b #[.int .i64 m.size, .slice (some ⟨dg, 0, none⟩) m.data.length dc, .slice (some ⟨g, 0, none⟩) m.regs.length rc, .int .i64 m.writes] 82 * (row 96 64 (.slice (some ⟨dg, 0, none⟩) m.data.length dc) m.data.length (secs (D 0)) * (row 95 3 (.slice (some ⟨g, 0, none⟩) m.regs.length rc) m.regs.length (rgcs m.regs vs) * (row 98 65 (.slice wa ws.length wc) ws.length (wcss ws) * (rgsX r m.regs vs * R)))) by
    rw [← hD0]
    ac_rfl)
  have Hm := hide hm
  have HD := hide hD
  have HDl := hide hDl
  have Hws := hide hws
  have Hwse := hide hwse
  have He0 := hide e0
  have Hhwv := hide hwv
  clear hq h h1 h3 hcell e0 e1 e2 hwv hm hD0 hDl hD hwt hws hwse hdc
  go_enter Try.func45, Try.ntmps45
  go_wp2_with fail
  go_loopw [20] (fun u wr => ∃ i : Nat, i ≤ ws.length ∧ u = .int .i64 i ∧ At w0 (cel b #[.int .i64 m.size, .slice (some ⟨dg, 0, none⟩) m.data.length dc, .slice (some ⟨g, 0, none⟩) m.regs.length rc, .int .i64 m.writes] 82 * (row 96 64 (.slice (some ⟨dg, 0, none⟩) m.data.length dc) m.data.length (secs (D i)) * (row 95 3 (.slice (some ⟨g, 0, none⟩) m.regs.length rc) m.regs.length (rgcs m.regs vs) * (row 98 65 (.slice wa ws.length wc) ws.length (wcss ws) * (rgsX r m.regs vs * R))))) wr) (fun u _ => ws.length - (intOf u).toNat)
  case atStart => exact ⟨0, Nat.zero_le _, rfl, h4⟩
  case round =>
    obtain ⟨i, hi, rfl, h5⟩ := hrel
    clear h4 d0 c2
    by_cases hil : i < ws.length
    · obtain ⟨gw, cw, hwa, hle, wcell⟩ := h5.pull4.row_ptr (by omega)
      simp only [Value.slice.injEq] at hwa
      obtain ⟨rfl, _, rfl⟩ := hwa
      have hsw : ∀ p ∈ ws, (wcs p).length = 65 := fun p hp => wcs_len (Hws.out.2 p hp).1
      obtain ⟨N, hN⟩ : ∃ N, wr.heap.size = N := ⟨_, rfl⟩
      have hws2 := Hws.out.2 ws[i] (List.getElem_mem hil)
      have h6 := h5.alloc' hN (.cells (.int .i64 0 :: List.replicate 64 (.int .u8 0)).toArray 98)
      have hilz : (i : Int) < (ws.length : Int) := by omega
      go_upto_region 3 with fail
      refine wp_region_lit ?_
      refine wpList_value rfl (v := .int .i64 i) (by go_simp) ?_
      refine wpList_value rfl (v := .pointer (some ⟨gw, i * 65, none⟩)) (by go_simp) ?_
      refine wpList_load_agg rfl (.tmp 23) 98 rfl _ Try.underlying98 rfl (ys := wcs ws[i]) (by rw [hsw _ (List.getElem_mem hil)]; kernel_rfl) (g := gw) (off := i * 65) (by go_simp) (fun j u hu => wcell _ _ (by
        have hj : j < 65 := by rw [← hsw _ (List.getElem_mem hil)]; exact (List.getElem?_eq_some_iff.1 hu).1
        exact (flat_at hsw i j hil hj).trans hu)) ?_
      refine wpList_alloc_at rfl _ rfl (Try.zeroWr wr) ?_
      rw [hN]
      refine wpList_value rfl (v := .int .i64 i) (by go_simp) ?_
      refine wpList_store_at rfl (.tmp 8) (.tmp 24) _ rfl (g := N) (ys := wcs ws[i]) (by go_simp) (by go_simp) (by rw [hsw _ (List.getElem_mem hil)]; kernel_rfl) (by rw [hsw _ (List.getElem_mem hil)]; simp) (by
        simp only [List.all_toArray, List.all_eq_true]
        intro u hu
        rcases List.mem_cons.1 hu with rfl | hu
        · rfl
        · exact bys_one _ u hu) h6 ?_
      intro w7 h7
      have hand := and63 i (by omega)
      have hspell := bit_spell mask i hmk
      have hDs : D (i + 1) = if bitB mask i then (D i).set (q + ws[i].1) ws[i].2 else D i := by
        rw [HD.out]
        simp only [List.take_succ_eq_append_getElem hil, keepTo_snoc, List.length_take, Nat.zero_add]
        rw [Nat.min_eq_left hi]
      have HDs := hide hDs
      have Hspell := hide hspell
      clear h6 wcell hDs hspell
      cases hbit : (bits .and .u64 ((mask : Int) / 2 ^ (i % 64)) 1 == 1) with
      | false =>
        have hDn : D (i + 1) = D i := by rw [HDs.out, ← Hspell.out, hbit]; rfl
        have HDn := hide hDn
        clear hDn
        go_wp2_with fail
        go_roundw
        case rel => exact ⟨i + 1, by omega, by go_num, by rw [HDn.out]; exact h7.r⟩
        case measure => simp [intOf]; omega
      | true =>
        have hDn : D (i + 1) = (D i).set (q + ws[i].1) ws[i].2 := by rw [HDs.out, ← Hspell.out, hbit]; rfl
        have HDn := hide hDn
        have hql := Hat.out ws[i].1 hws2.2
        have hsd : ∀ x ∈ D i, (bys x).length = 64 := fun x hx => bys64 (by
          rw [HD.out] at hx
          exact keepTo_secs _ _ _ _ _ (fun p hp => (Hws.out.2 p (List.mem_of_mem_take hp)).1) Hm.out.secs x hx)
        have hDli := HDl.out i
        have hq0 := At.cell (i := 0) h7.drew.pull2 rfl
        have hq1 := At.cell (i := 1) h7.drew.pull2 rfl
        have hs0 : w7.drew.cell? ⟨N, 0, none⟩ = some (.int .i64 ws[i].1) := At.cell h7.drew rfl
        have hmul := Hmul.out
        have hqz : (q : Int) + (ws[i].1 : Int) < (m.data.length : Int) := by omega
        have hsz : (ws[i].1 : Int) ≤ 65536 := by have := Hm.out.size; omega
        have hw1 := IntWalk.i64_in (q : Int) (by omega)
        have hw2 := IntWalk.i64_in ((q : Int) + (ws[i].1 : Int)) (by omega)
        have hw3 : ¬ ((q : Int) + (ws[i].1 : Int) < 0) := by omega
        have htn : ((q : Int) + (ws[i].1 : Int)).toNat = q + ws[i].1 := by omega
        clear hDn
        go_upto_region 5 with fail
        refine wp_region_line [0, 1, 2, 3, 4, 5, 6, 7, 8, 9, 10, 11, 12, 13, 14, 15, 16] rfl (by kernel_rfl) ?_
        simp only [picks_cons, picks_nil, getD_zero, getD_succ]
        refine wpList_value rfl (v := .pointer (some ⟨b, 0, none⟩)) (by go_simp) ?_
        refine wpList_value rfl (v := .pointer (some ⟨b, 0, none⟩)) (by go_simp) ?_
        refine wpList_value rfl (v := .pointer (some ⟨b, 1, none⟩)) (by go_simp) ?_
        refine wpList_value rfl (v := .slice (some ⟨dg, 0, none⟩) m.data.length dc) (by go_simp) ?_
        refine wpList_value rfl (v := .int .i64 r) (by go_simp) ?_
        refine wpList_value rfl (v := .pointer (some ⟨b, 0, none⟩)) (by go_simp) ?_
        refine wpList_value rfl (v := .pointer (some ⟨b, 0, none⟩)) (by go_simp) ?_
        refine wpList_value rfl (v := .pointer (some ⟨b, 0, none⟩)) (by go_simp) ?_
        refine wpList_value rfl (v := .int .i64 m.size) (by go_simp) ?_
        refine wpList_value rfl (v := .int .i64 q) (by go_simp) ?_
        refine wpList_value rfl (v := .pointer (some ⟨N, 0, none⟩)) (by go_simp) ?_
        refine wpList_value rfl (v := .int .i64 ws[i].1) (by go_simp) ?_
        refine wpList_value rfl (v := .int .i64 ((q : Int) + (ws[i].1 : Int))) (by go_simp) ?_
        refine wpList_value rfl (v := .pointer (some ⟨N, 1, none⟩)) (by go_simp) ?_
        refine wpList_load_agg rfl (.tmp 44) 96 rfl _ Try.underlying96 rfl (ys := bys ws[i].2) (by rw [bys64 hws2.1]; kernel_rfl) (g := N) (off := 1) (by go_simp) (fun j u hu => At.cell h7.drew (by
          rw [Nat.add_comm]
          simpa [wcs] using hu)) ?_
        refine wpList_value rfl (v := .pointer (some ⟨dg, (q + ws[i].1) * 64, none⟩)) (by go_simp) ?_
        refine wpList_store_agg rfl (.tmp 46) (.tmp 45) 96 rfl (ys := bys ws[i].2) (by rw [bys64 hws2.1]; kernel_rfl) h7.drew.pull3 ((q + ws[i].1) * 64) (by
          have := flat_sized hsd
          unfold secs
          rw [this, bys64 hws2.1, hDli]
          omega) (bys_one _) (flat_set hsd (q + ws[i].1) ws[i].2 (bys64 hws2.1) (by rw [hDli]; exact hql)) (by go_simp) (by go_simp) ?_
        intro w8 h8
        refine ⟨by kernel_rfl, ?_⟩
        have h9 := h8.cast (show _ = cel b #[.int .i64 m.size, .slice (some ⟨dg, 0, none⟩) m.data.length dc, .slice (some ⟨g, 0, none⟩) m.regs.length rc, .int .i64 m.writes] 82 * (row 96 64 (.slice (some ⟨dg, 0, none⟩) m.data.length dc) m.data.length (secs (D (i + 1))) * (row 95 3 (.slice (some ⟨g, 0, none⟩) m.regs.length rc) m.regs.length (rgcs m.regs vs) * (row 98 65 (.slice (some ⟨gw, 0, none⟩) ws.length wc) ws.length (wcss ws) * (rgsX r m.regs vs * (R * cel N (wcs ws[i]).toArray 98))))) by
          rw [HDn.out]
          unfold secs
          ac_rfl)
        have h10 := h9.cast (show _ = (cel b #[.int .i64 m.size, .slice (some ⟨dg, 0, none⟩) m.data.length dc, .slice (some ⟨g, 0, none⟩) m.regs.length rc, .int .i64 m.writes] 82 * (row 96 64 (.slice (some ⟨dg, 0, none⟩) m.data.length dc) m.data.length (secs (D (i + 1))) * (row 95 3 (.slice (some ⟨g, 0, none⟩) m.regs.length rc) m.regs.length (rgcs m.regs vs) * (row 98 65 (.slice (some ⟨gw, 0, none⟩) ws.length wc) ws.length (wcss ws) * (rgsX r m.regs vs * R))))) * cel N (wcs ws[i]).toArray 98 by ac_rfl)
        clear h7 h8 h9 hq0 hq1 hs0 hmul hqz hsz hw1 hw2 hw3 htn
        go_wp2_with fail
        go_roundw
        case rel => exact ⟨i + 1, by omega, by go_num, h10.l⟩
        case measure => simp [intOf]; omega
    · obtain rfl : i = ws.length := by omega
      have h6 := h5.pull3
      have u0 := (h6.row_cell rfl He0.out).2
      have u1 := h6.row_fz (r * 3)
      have u2 := h6.row_lt
      have hdf : D ws.length = keepTo q mask 0 ws m.data := by rw [HD.out]; simp only [List.take_length]
      have Hdf := hide hdf
      clear hdf
      go_wp2_with fail
      go_end0
      refine ⟨rfl, At.keep_done (dv := .slice (some ⟨dg, 0, none⟩) m.data.length dc) (rv := .slice (some ⟨g, 0, none⟩) m.regs.length rc) hr hvs Hm.out ?_⟩
      rw [Hwse.out, Hq.out, ← Hdf.out]
      have h7 := (h6.row_set (r * 3) (.slice none 0 0)).pull4
      exact h7.r.cast (by ac_rfl)
end Go.Proofs.Ytmlifjfgelfbbaa
