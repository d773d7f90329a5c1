/-
  LaneHoles: the law's walk: whatever comes in, it returns true. A contract, no statement.
-/
import Derived.Test.YtgkibjjcdcpkfaaLk
namespace Go.Proofs.Ytgkibjjcdcpkfaa
open Go Go.RowKit

set_option maxRecDepth 100000 in
set_option maxHeartbeats 32000000 in
theorem holes_walk (W : World) (a : Option Addr) (cap : Nat) (ss : List SdV) (ma : Option Addr) (mc : Nat) (ms : List SdV) (hole : Int) (hn : ss.length ≤ maxLen) (_hdl : ∀ x ∈ ss, x.1.dirty.length ≤ maxLen) (hss : SdsIn W (old W * 1) a ss) (hmn : ms.length ≤ maxLen) (_hml : ∀ x ∈ ms, x.1.dirty.length ≤ maxLen) (hms : SdsIn W (old W * 1) ma ms) :
    Calls Try.prog 11 #[.slice a ss.length cap, .slice ma ms.length mc, .int .i64 hole] W fun e W' => e = .returned (.bool true) ∧ Below W.heap.size W W' := by
  have hfit := lawFit_any W W _ (At.startR W)
  obtain ⟨n, hnn⟩ : ∃ n, ss.length = n := ⟨_, rfl⟩
  obtain ⟨k, hkk⟩ : ∃ k, ms.length = k := ⟨_, rfl⟩
  rw [hnn] at hn ⊢
  rw [hkk] at hmn ⊢
  unfold maxLen at hn hmn
  have Hn := hide hnn
  have Hk := hide hkk
  have Hss := hide hss
  have Hms := hide hms
  obtain ⟨i2, z2, hi2, hy0, hy1, hy2, hy3⟩ := info_wr Try.infoRec
  have Hi2 := hide hi2
  clear hnn hkk hss hms hi2 _hdl _hml
  go_enter Try.func11, Try.ntmps11
  go_wp2_with fail
  refine hfit.mono ?_
  rintro e w1 ⟨rfl, h1⟩
  clear hfit
  by_cases hbig : 20 < n ∨ 10 < k
  · have hbel := h1.below
    rcases hbig with hb | hb
    · have hbz : 20 < (n : Int) := by omega
      clear hb
      go_wp2_with fail
      go_ret
      exact ⟨rfl, hbel⟩
    · have hbz : 10 < (k : Int) := by omega
      by_cases hb2 : 20 < n
      · have hbz2 : 20 < (n : Int) := by omega
        clear hb hb2
        go_wp2_with fail
        go_ret
        exact ⟨rfl, hbel⟩
      · have hbz2 : ¬ 20 < (n : Int) := by omega
        clear hb hb2
        go_wp2_with fail
        go_ret
        exact ⟨rfl, hbel⟩
  have hn20 : n ≤ 20 := by omega
  have hk10 : k ≤ 10 := by omega
  have hbz : ¬ 20 < (n : Int) := by omega
  have hbz2 : ¬ 10 < (k : Int) := by omega
  have hnew := diskNew_any W w1 _ 1 538 (by decide) (by decide) (by decide) (by decide) h1
  change Calls _ _ #[.int .i64 1, .int .i64 538] _ _ at hnew
  clear h1 hbig
  go_wp2_with fail
  refine hnew.mono ?_
  rintro e w2 ⟨D, rfl, h2⟩
  clear hnew
  have hN := Dk.new_at 1 538 0 (by decide)
  have hln := laneNew_st W w2 _ D 0 (Dk.new 1 538) (Dk.new_wf (by decide) (by decide) (by decide)) (by decide) (by decide) hN.1 hN.2 (by decide) h2
  change Calls _ _ #[_, .int .i64 0] _ _ at hln
  have hn2 : (Dk.new 1 538).writes = 0 := rfl
  rw [hn2] at hln
  generalize Dk.new 1 538 = m0 at *
  clear h2 hn2 hN
  go_wp2_with fail
  refine hln.mono ?_
  rintro e w3 ⟨P, L, m1, rfl, hst, hg, hb, hsame, hun, hwr, h3⟩
  clear hln
  have Hst := hide hst
  have Hun := hide hun
  have hwr' : m1.writes ≤ 520 := by omega
  obtain ⟨N0, hN0⟩ : ∃ N0, w3.heap.size = N0 := ⟨_, rfl⟩
  have h4 : At W (row 44 8 (.slice (some ⟨N0, 0, none⟩) [rvCheck].length 1) [rvCheck].length ([rvCheck].flatMap RecV.cs) * (lan P D 0 L * (dsk D m1 * (old W * 1)))) (w3.alloc (.cells #[.int .i64 1, .int .i64 0, .int .i64 0, .int .i64 0, .string ⟨#[]⟩, .string ⟨#[]⟩, .string ⟨#[]⟩, .slice none 0 0] 44)) := At.mkrow (cap := 1) (h3.alloc' hN0 (.cells #[.int .i64 1, .int .i64 0, .int .i64 0, .int .i64 0, .string ⟨#[]⟩, .string ⟨#[]⟩, .string ⟨#[]⟩, .slice none 0 0] 44)) (Nat.le_refl _) (by decide) (by decide) rfl
  clear hst hsame hun hb hwr hbz hbz2 h3
  go_wp2_with fail
  try rw [hN0]
  generalize hW4 : w3.alloc _ = w4 at h4 ⊢
  clear hN0 hW4
  go_loopw [10, 44] (fun u10 u44 wr => ∃ (i : Nat) (rs : List RecV) (a8 : Option Addr) (c8 : Nat) (L : Ln) (F : HP), i ≤ n ∧ u44 = .int .i64 i ∧ u10 = .slice a8 rs.length c8 ∧ Hid (rs.length = i + 1) ∧ Hid (GoodV rs ∧ (∀ y ∈ rs, DirIn W F y) ∧ ∀ w', At W F w' → At W (old W * 1) w') ∧
    Hid (LSt m1 0 L (rs.map (·.1)) 1) ∧ Hid (L.gen = 1) ∧ At W (lan P D 0 L * (dsk D m1 * (row 44 8 (.slice a8 rs.length c8) rs.length (rs.flatMap RecV.cs) * F))) wr) (fun _ u _ => n - (intOf u).toNat)
  case atStart =>
    exact ⟨0, [rvCheck], some ⟨N0, 0, none⟩, 1, L, old W * 1, Nat.zero_le _, rfl, rfl, hide rfl, hide ⟨fun y h => by rw [List.mem_singleton.1 h]; exact recCheck_good, fun y h => by rw [List.mem_singleton.1 h]; exact rvCheck_dir _ _, fun _ h => h⟩, Hst, hide hg, h4.cast (by ac_rfl)⟩
  case round =>
    obtain ⟨i, rs, a8, c8, L2, F, hin, rfl, rfl, Hrl, HF, Hst2, Hg2, h4⟩ := hrel
    by_cases hil : i < n
    · obtain ⟨s, hs⟩ : ∃ s, ss[i]'(by have := Hn.out; omega) = s := ⟨_, rfl⟩
      have hsm : s ∈ ss := by rw [← hs]; exact List.getElem_mem _
      have hsIn := Hss.out.2 s hsm
      obtain ⟨g, o, rfl, hcs⟩ := Hss.out.at (HF.out.2.2 _ h4.r.r.r) (i := i) (by have := Hn.out; omega)
      rw [hs] at hcs
      obtain ⟨dl, hdl⟩ : ∃ dl, s.1.dirty.length = dl := ⟨_, rfl⟩
      obtain ⟨B, hB⟩ : ∃ B, wr.heap.size = B := ⟨_, rfl⟩
      have h5 := h4.alloc' hB (.cells (List.toArray [.int .i64 0, .int .i64 0, .int .i64 0, .int .i64 0, .int .u8 0, .int .u8 0, .int .u8 0, .slice none 0 0]) 56)
      have Hs := hide hs
      have HsIn := hide hsIn
      have Hdl := hide hdl
      have hilz : (i : Int) < (n : Int) := by omega
      clear hs hsm hsIn hdl h4
      go_upto_region 10 with fail
      refine wp_region_lit ?_
      refine wpList_value rfl (v := .pointer (some ⟨g, o + i * 8, none⟩)) (by go_simp) ?_
      refine wpList_load_agg rfl (.tmp 46) 56 rfl _ Try.underlying56 rfl (ys := s.cs) (by rw [SdV.cs_len]; kernel_rfl) (g := g) (off := o + i * 8) (by go_simp) hcs ?_
      refine wpList_alloc_at rfl _ rfl (Try.zeroSeed wr) ?_
      try rw [hB]
      refine wpList_store_at rfl (.tmp 12) (.tmp 47) _ rfl (g := B) (c := List.toArray [.int .i64 0, .int .i64 0, .int .i64 0, .int .i64 0, .int .u8 0, .int .u8 0, .int .u8 0, .slice none 0 0]) (ys := s.cs) (by go_simp) (by go_simp) (by rw [SdV.cs_len]; kernel_rfl) rfl s.one h5 ?_
      intro w5 h6
      have c7 : w5.cell? ⟨B, 7, none⟩ = some (.slice s.2.1 dl s.2.2) := by
        rw [← Hdl.out]
        exact At.cell h6 rfl
      clear h5 hcs hB
      by_cases hdb : 100 < dl
      · have hdz : 100 < (dl : Int) := by omega
        have hbel := (HF.out.2.2 _ h6.r.r.r.r).below
        clear hdb
        go_wp2_with fail
        go_ret
        exact ⟨rfl, hbel⟩
      have hdz : ¬ 100 < (dl : Int) := by omega
      have hgood := Sd.good HsIn.out.1
      have hxl := Sd.rcd_len (s := s.1)
      have hrc := fun (R : HP) w' (hR : ∀ w', At W R w' → At W (old W * 1) w') (h : At W R w') => seedRec_v W w' R s (HsIn.out.of hR) (by rw [Hdl.out]; omega) h
      obtain ⟨x, hx⟩ : ∃ x, s.1.rcd = x := ⟨_, rfl⟩
      rw [hx] at hrc hgood hxl
      change ∀ (R : HP) w' (hR : ∀ w', At W R w' → At W (old W * 1) w') (h : At W R w'), Calls _ _ _ _ (fun e w' => ∃ a1 c1, e = .returned (.agg #[.int .i64 x.kind, .int .i64 x.txn, .int .i64 x.page, .int .i64 x.slot, .string x.before, .string x.after, .string x.image, .slice a1 x.dirty.length c1]) ∧ At W (row 33 1 (.slice a1 x.dirty.length c1) x.dirty.length (nus x.dirty) * R) w') at hrc
      have Hrc := hide hrc
      have Hgood := hide hgood
      have Hx := hide hx
      clear hrc hgood hx
      have hil2 : i ≤ 20 := by omega
      have hrl21 : rs.length ≤ 21 := by have := Hrl.out; omega
      have hfA : (encR (rs.map (·.1))).length + x.enc.length ≤ 14336 := by
        have h1 := encR_bound Hst2.out.good
        have h2 := Rec.enc_le Hgood.out
        simp only [List.length_map] at h1
        omega
      have HfA := hide hfA
      have hc1 := Hrc.out _ w5 (fun w' h' => HF.out.2.2 _ h'.r.r.r.r) h6
      clear hdb hfA
      go_upto_region 13 with fail
      clear c7
      refine wp_region_lit ?_
      refine wpList_value rfl (v := .slice a8 rs.length c8) (by go_simp) ?_
      refine wpList_load_agg rfl (.tmp 12) 56 rfl _ Try.underlying56 rfl (ys := s.cs) (by rw [SdV.cs_len]; kernel_rfl) (g := B) (off := 0) (by go_simp) (fun j u hu => by rw [Nat.zero_add]; exact At.cell h6 (by simpa using hu)) ?_
      go_wp2_with fail
      refine hc1.mono ?_
      rintro e w6 ⟨a1, c1, rfl, h7⟩
      clear hc1 h6
      obtain ⟨N, hN⟩ : ∃ N, w6.heap.size = N := ⟨_, rfl⟩
      have h8 := (h7.alloc' hN (.cells #[.int .i64 x.kind, .int .i64 x.txn, .int .i64 x.page, .int .i64 x.slot, .string x.before, .string x.after, .string x.image, .slice a1 x.dirty.length c1] 44)).pull6
      have hnews : ∀ j u, (RecV.cs (x, a1, c1))[j]? = some u → (w6.alloc (.cells #[.int .i64 x.kind, .int .i64 x.txn, .int .i64 x.page, .int .i64 x.slot, .string x.before, .string x.after, .string x.image, .slice a1 x.dirty.length c1] 44)).cell? ((⟨N, 0, none⟩ : Addr).add j) = some u := fun j u hu => by
        rw [Addr.add_lit, Nat.zero_add]
        exact At.cell h8.pull2 (by simpa [RecV.cs, Rec.cells] using hu)
      clear h7
      go_wp2_with (at_builtin; go_loud (refine wpList_append_rec1 rfl (.tmp 52) (.tmp 55) 62 rfl 44 i2 z2 Try.underlying62 Hi2.out hy0 hy2 hy3 hy1 (rs := rs) (y := (x, a1, c1)) rfl h8 (ad := ⟨N, 0, none⟩) (c := 1) (by rw [← hN]; rfl) hnews (by omega) ?_))
      intro a9 c9 w7 h9
      clear h8 hnews
      obtain ⟨rs', hrs'⟩ : ∃ rs', rs ++ [((x, a1, c1) : RecV)] = rs' := ⟨_, rfl⟩
      have hrl' : rs'.length = rs.length + 1 := by rw [← hrs']; simp
      have hfm' : rs'.flatMap RecV.cs = rs.flatMap RecV.cs ++ RecV.cs (x, a1, c1) := by rw [← hrs']; simp
      rw [← hrl', ← hfm'] at h9
      have h10 := (h9.cast (show _ = cel B s.cs.toArray 56 * (lan P D 0 L2 * (dsk D m1 * (row 44 8 (.slice a9 rs'.length c9) rs'.length (rs'.flatMap RecV.cs) * (row 33 1 (.slice a1 x.dirty.length c1) x.dirty.length (nus x.dirty) * F)))) * pt N (.cells #[.int .i64 x.kind, .int .i64 x.txn, .int .i64 x.page, .int .i64 x.slot, .string x.before, .string x.after, .string x.image, .slice a1 x.dirty.length c1] 44) by ac_rfl)).l
      have hc2 := Hrc.out _ w7 (fun w' h' => HF.out.2.2 _ h'.r.r.r.r.r) h10
      rw [← hrl']
      have Hrs' := hide hrs'
      have Hrl' := hide hrl'
      clear h9 hrs' hrl' hfm'
      go_upto_region 14 with fail
      refine wp_region_lit ?_
      refine wpList_value rfl (v := .pointer (some ⟨P, 0, none⟩)) (by go_simp) ?_
      refine wpList_load_agg rfl (.tmp 12) 56 rfl _ Try.underlying56 rfl (ys := s.cs) (by rw [SdV.cs_len]; kernel_rfl) (g := B) (off := 0) (by go_simp) (fun j u hu => by rw [Nat.zero_add]; exact At.cell h10 (by simpa using hu)) ?_
      go_wp2_with fail
      refine hc2.mono ?_
      rintro e w8 ⟨a2, c2, rfl, h11⟩
      clear hc2 h10
      have hap := laneAppend_ok W w8 _ P D 0 x a2 c2 Hst2.out Hgood.out HfA.out (fun w' h' => h'.rd) h11.pull3
      change Calls _ _ #[_, .agg #[.int .i64 x.kind, .int .i64 x.txn, .int .i64 x.page, .int .i64 x.slot, .string x.before, .string x.after, .string x.image, .slice a2 x.dirty.length c2]] _ _ at hap
      generalize L2.gen * 1048576 + _ + 1 = pl at hap
      have hmap : rs.map (·.1) ++ [x] = rs'.map (·.1) := by rw [← Hrs'.out]; simp
      rw [hmap] at hap
      clear h11 hmap
      go_wp2_with fail
      refine hap.mono ?_
      rintro e w9 ⟨L3, rfl, hs3, hg3, hb3, h12⟩
      clear hap
      have Hs3 := hide hs3
      clear hs3 hb3
      go_wp2_with fail
      go_roundw
      case rel =>
        refine ⟨i + 1, rs', a9, c9, L3, row 33 1 (.slice a1 x.dirty.length c1) x.dirty.length (nus x.dirty) * F, by omega, by go_num, rfl, hide (by rw [Hrl'.out, Hrl.out]), hide ⟨fun y hy => ?_, fun y hy => ?_, fun w' h' => HF.out.2.2 w' h'.r⟩, Hs3, hide (hg3.trans Hg2.out), h12.drop2.drop2⟩
        · rw [← Hrs'.out] at hy
          rcases List.mem_append.1 hy with h | h
          · exact HF.out.1 y h
          · rw [List.mem_singleton.1 h]; exact Hgood.out
        · rw [← Hrs'.out] at hy
          rcases List.mem_append.1 hy with h | h
          · exact (HF.out.2.1 y h).mono
          · rw [List.mem_singleton.1 h]; exact fun w' h' => h'.rd
      case measure => simp [intOf]; omega
    · obtain rfl : i = n := by omega
      have hiz : ¬ ((i : Int) < (i : Int)) := by omega
      have hrl21 : rs.length ≤ 21 := by have := Hrl.out; omega
      obtain ⟨all, hall⟩ : ∃ all, rs.map (·.1) = all := ⟨_, rfl⟩
      have hR := ((RecsIn.of_row (a := a8) (c := c8) (rs := rs) rfl HF.out.1 HF.out.2.1 h4.r.r).mono (B := dsk D m1)).mono (B := lan P D 0 L2)
      have hsz := lawSize_any W wr _ a8 c8 rs (by omega) HF.out.1 hR h4
      obtain ⟨T, hT⟩ : ∃ T, (encs rs).length = T := ⟨_, rfl⟩
      have hTl : T ≤ 14336 := by rw [← hT, encs_encR]; exact Hst2.out.len
      rw [hT] at hsz
      obtain ⟨qq, hqq⟩ : ∃ qq, (T + 55) / 56 = qq := ⟨_, rfl⟩
      have hqz : ((T : Int) + 56 - 1).tdiv 56 = (qq : Int) := by
        rw [Int.tdiv_eq_ediv_of_nonneg (by omega)]
        omega
      have hqb : qq ≤ 300 := by omega
      have hw1 := IntWalk.i64_in ((T : Int) + 56) (by omega)
      have hw2 := IntWalk.i64_in ((T : Int) + 56 - 1) (by omega)
      have hw3 := IntWalk.i64_in (qq : Int) (by omega)
      obtain ⟨k1, hk1, hk63⟩ := and63i hole
      have Hall := hide hall
      clear hT hqq hR hall
      go_wp2_with fail
      refine hsz.mono ?_
      rintro e w5 ⟨rfl, h5⟩
      clear hsz h4
      have har := diskArm_any W w5 _ D m1 0 (qq : Int) (by omega) Hst2.out.rest.hr h5.pull2
      rw [Int.toNat_natCast] at har
      change Calls _ _ #[_, .int .i64 0, _] _ _ at har
      have hs2 := Hst2.out.arm Hst2.out.rest.hr true (n := qq) (by omega)
      have hwm : (m1.setReg 0 ⟨(m1.regs[0]'Hst2.out.rest.hr).waits, true, qq⟩).writes = m1.writes := rfl
      generalize m1.setReg 0 _ = m2 at har hs2 hwm
      clear h5
      go_wp2_with fail
      refine har.mono ?_
      rintro e w6 ⟨rfl, h6⟩
      clear har hqz hw1 hw2 hw3
      have hfl := laneFlush_any W w6 _ P D 0 L2 m2 hs2.rest.hr (by omega) h6.pull2
      obtain ⟨sure, hsu1, hsu2, htorn, hwr3⟩ := hs2.flush_any
      have hgen1 : L2.gen = 1 := Hg2.out
      have hbank := hs2.rest.bankle
      have hgd := hs2.good
      have hln := hs2.len
      generalize hfr : L2.flush m2 0 = fr at hfl htorn hwr3
      obtain ⟨cd, L3, m3⟩ := fr
      simp only at hfl htorn hwr3
      have hwr4 : m3.writes ≤ 800 := by omega
      rw [Hall.out] at htorn hsu2 hgd hln
      have Htorn := hide htorn
      have Hgd := hide hgd
      have Hgen1 := hide hgen1
      clear hs2 hfr h6 htorn hgd hwm hgen1 hsu1
      go_wp2_with fail
      refine hfl.mono ?_
      rintro e w7 ⟨rfl, h7⟩
      clear hfl
      obtain ⟨mk, hmk, hmk64⟩ := xor_nat IntKind.u64.max (IntKind.u64.wrap (2 ^ k1))
      have hcr := diskCrash_any W w7 _ D m3 mk hmk64 (by omega) h7.pull2
      obtain ⟨hp, hw8, hun8⟩ := Htorn.out.crash mk
      obtain ⟨c1, c2, c3, c4, _⟩ := Dk.crash_at (mask := mk) Htorn.out.wf
      have hr8 : 0 < (m3.crash mk).regs.length := by rw [c2]; exact Htorn.out.hr
      have hsz8 : 514 ≤ (m3.crash mk).size := by rw [c3]; exact Htorn.out.size
      have hwr8 : (m3.crash mk).writes ≤ 800 := by omega
      generalize m3.crash mk = m4 at *
      clear h7 c2 c3 c4 Htorn hmk64 hwr3 hwr4
      go_wp2_with fail
      refine hcr.mono ?_
      rintro e w8 ⟨rfl, h8⟩
      clear hcr hmk hk1
      have hop := laneOpen_part W w8 _ D 0 m4 c1 hr8 hsz8 hw8 hun8 (by rw [Hgen1.out]; decide) (by rw [Hgen1.out]; decide) hbank hln hsu2 Hgd.out hp (by omega) h8
      change Calls _ _ #[_, .int .i64 0] _ _ at hop
      clear h8 hp hw8 hun8 hr8 hsz8 c1
      go_wp2_with fail
      refine hop.mono ?_
      rintro e w9 ⟨P2, ae, ce, es, j, m5, rfl, hj, hel, hes, hs5, hsm5, hun5, hwr5, _, h9⟩
      clear hop
      have hjl : j ≤ 21 := by
        rw [← Hall.out, List.length_map] at hj
        omega
      have hE := (EntsIn.of_row rfl h9.r).mono (B := lan P2 D 0 ⟨L2.gen, L2.bank, encR (all.take j), (encR (all.take j)).length⟩)
      have hR := (((((RecsIn.of_row (a := a8) (c := c8) (rs := rs) rfl HF.out.1 HF.out.2.1 h9.r.r.r.r.r).mono (B := lan P D 0 L3)).mono (B := dsk D m5)).mono (B := dirts es)).mono (B := row 52 9 (.slice ae es.length ce) es.length (es.flatMap EntV.cs))).mono (B := lan P2 D 0 ⟨L2.gen, L2.bank, encR (all.take j), (encR (all.take j)).length⟩)
      have hst := lawStarts_any W w9 _ ae a8 ce c8 es rs (by rw [hel]; omega) (by omega) (fun y hy => by
        have h1 : y.2.1 ∈ es.map (·.2.1) := List.mem_map.2 ⟨y, hy, rfl⟩
        rw [places_good hes] at h1
        have := (hs5.good _ h1).dirty
        omega) hE hR h9
      have hres : startsB (es.map (·.2.1)) (rs.map (·.1)) = true := by
        rw [places_good hes, Hall.out]
        exact startsB_take all j hj
      rw [hres] at hst
      have Hs5 := hide hs5
      have Hun5 := hide hun5
      have Hel := hide hel
      have Hj := hide hj
      rw [hel] at hst
      rw [hel]
      clear hE hR hres h9 hs5 hun5 hsm5 hes hel hj
      go_wp2_with fail
      refine hst.mono ?_
      rintro e w10 ⟨rfl, h10⟩
      clear hst
      have h11 := (h10.cast (show _ = lan P2 D 0 ⟨L2.gen, L2.bank, encR (all.take j), (encR (all.take j)).length⟩ * (dsk D m5 * F) * (row 52 9 (.slice ae j ce) j (es.flatMap EntV.cs) * (dirts es * (lan P D 0 L3 * row 44 8 (.slice a8 rs.length c8) rs.length (rs.flatMap RecV.cs)))) by ac_rfl)).l
      clear h10
      go_wp2_with fail
      go_loopw [94] (fun u94 wr => ∃ (i : Nat) (L : Ln), i ≤ k ∧ u94 = .int .i64 i ∧ Hid (LSt m5 0 L (all.take j ++ (ms.take i).map (·.1.rcd)) j) ∧ Hid (∀ y ∈ ms.take i, y.1.dirty.length ≤ 100) ∧ At W (lan P2 D 0 L * (dsk D m5 * F)) wr) (fun u _ => k - (intOf u).toNat)
      case atStart => exact ⟨0, _, Nat.zero_le _, rfl, hide (by simpa using Hs5.out), hide (fun y hy => by simp at hy), h11⟩
      case round =>
        obtain ⟨i2', L4, hik, rfl, Hs6, Hsm, h12⟩ := hrel
        clear h11 Hs5
        by_cases hil : i2' < k
        · obtain ⟨s, hs⟩ : ∃ s, ms[i2']'(by have := Hk.out; omega) = s := ⟨_, rfl⟩
          have hsm : s ∈ ms := by rw [← hs]; exact List.getElem_mem _
          have hsIn := Hms.out.2 s hsm
          obtain ⟨g, o, rfl, hcs⟩ := Hms.out.at (HF.out.2.2 _ h12.r.r) (i := i2') (by have := Hk.out; omega)
          rw [hs] at hcs
          obtain ⟨dl, hdl⟩ : ∃ dl, s.1.dirty.length = dl := ⟨_, rfl⟩
          obtain ⟨B, hB⟩ : ∃ B, wr.heap.size = B := ⟨_, rfl⟩
          have h5 := h12.alloc' hB (.cells (List.toArray [.int .i64 0, .int .i64 0, .int .i64 0, .int .i64 0, .int .u8 0, .int .u8 0, .int .u8 0, .slice none 0 0]) 56)
          have Hs := hide hs
          have HsIn := hide hsIn
          have Hdl := hide hdl
          have hilz : (i2' : Int) < (k : Int) := by omega
          clear hs hsm hsIn hdl h12
          go_upto_region 24 with fail
          refine wp_region_lit ?_
          refine wpList_value rfl (v := .pointer (some ⟨g, o + i2' * 8, none⟩)) (by go_simp) ?_
          refine wpList_load_agg rfl (.tmp 96) 56 rfl _ Try.underlying56 rfl (ys := s.cs) (by rw [SdV.cs_len]; kernel_rfl) (g := g) (off := o + i2' * 8) (by go_simp) hcs ?_
          refine wpList_alloc_at rfl _ rfl (Try.zeroSeed wr) ?_
          try rw [hB]
          refine wpList_store_at rfl (.tmp 17) (.tmp 97) _ rfl (g := B) (c := List.toArray [.int .i64 0, .int .i64 0, .int .i64 0, .int .i64 0, .int .u8 0, .int .u8 0, .int .u8 0, .slice none 0 0]) (ys := s.cs) (by go_simp) (by go_simp) (by rw [SdV.cs_len]; kernel_rfl) rfl s.one h5 ?_
          intro w5 h6
          have c7 : w5.cell? ⟨B, 7, none⟩ = some (.slice s.2.1 dl s.2.2) := by
            rw [← Hdl.out]
            exact At.cell h6 rfl
          clear h5 hcs hB
          by_cases hdb : 100 < dl
          · have hdz : 100 < (dl : Int) := by omega
            have hbel := (HF.out.2.2 _ h6.r.r.r).below
            clear hdb
            go_wp2_with fail
            go_ret
            exact ⟨rfl, hbel⟩
          have hdz : ¬ 100 < (dl : Int) := by omega
          have hgood := Sd.good HsIn.out.1
          have hxl := Sd.rcd_len (s := s.1)
          have hrc := fun (R : HP) w' (hR : ∀ w', At W R w' → At W (old W * 1) w') (h : At W R w') => seedRec_v W w' R s (HsIn.out.of hR) (by rw [Hdl.out]; omega) h
          obtain ⟨x, hx⟩ : ∃ x, s.1.rcd = x := ⟨_, rfl⟩
          rw [hx] at hrc hgood hxl
          change ∀ (R : HP) w' (hR : ∀ w', At W R w' → At W (old W * 1) w') (h : At W R w'), Calls _ _ _ _ (fun e w' => ∃ a1 c1, e = .returned (.agg #[.int .i64 x.kind, .int .i64 x.txn, .int .i64 x.page, .int .i64 x.slot, .string x.before, .string x.after, .string x.image, .slice a1 x.dirty.length c1]) ∧ At W (row 33 1 (.slice a1 x.dirty.length c1) x.dirty.length (nus x.dirty) * R) w') at hrc
          have Hrc := hide hrc
          have Hgood := hide hgood
          have Hx := hide hx
          clear hrc hgood hx
          have htk : (ms.take (i2' + 1)).map (·.1.rcd) = (ms.take i2').map (·.1.rcd) ++ [x] := by
            rw [List.take_succ_eq_append_getElem (by have := Hk.out; omega), List.map_append, Hs.out, ← Hx.out]
            rfl
          have hdt : ∀ y ∈ ms.take (i2' + 1), y.1.dirty.length ≤ 100 := fun y hy => by
            rw [List.take_succ_eq_append_getElem (by have := Hk.out; omega), Hs.out] at hy
            rcases List.mem_append.1 hy with h | h
            · exact Hsm.out y h
            · rw [List.mem_singleton.1 h, Hdl.out]; omega
          have hfA : (encR (all.take j ++ (ms.take i2').map (·.1.rcd))).length + x.enc.length ≤ 14336 := by
            have h1 := encR_bound Hs6.out.good
            have h2 := Rec.enc_le Hgood.out
            rw [List.length_append, List.length_map, List.length_take, List.length_take] at h1
            have h3 : min j all.length ≤ 21 := by omega
            have h4 : min i2' ms.length ≤ 10 := by omega
            omega
          have Htk := hide htk
          have Hdt := hide hdt
          have HfA := hide hfA
          have hc1 := Hrc.out _ w5 (fun w' h' => HF.out.2.2 _ h'.r.r.r) h6
          clear hdb hfA htk hdt
          go_upto_region 27 with fail
          clear c7
          refine wp_region_lit ?_
          refine wpList_value rfl (v := .pointer (some ⟨P2, 0, none⟩)) (by go_simp) ?_
          refine wpList_load_agg rfl (.tmp 17) 56 rfl _ Try.underlying56 rfl (ys := s.cs) (by rw [SdV.cs_len]; kernel_rfl) (g := B) (off := 0) (by go_simp) (fun j u hu => by rw [Nat.zero_add]; exact At.cell h6 (by simpa using hu)) ?_
          go_wp2_with fail
          refine hc1.mono ?_
          rintro e w6 ⟨a1, c1, rfl, h7⟩
          clear hc1 h6
          have hap := laneAppend_ok W w6 _ P2 D 0 x a1 c1 Hs6.out Hgood.out HfA.out (fun w' h' => h'.rd) h7.pull3
          change Calls _ _ #[_, .agg #[.int .i64 x.kind, .int .i64 x.txn, .int .i64 x.page, .int .i64 x.slot, .string x.before, .string x.after, .string x.image, .slice a1 x.dirty.length c1]] _ _ at hap
          generalize L4.gen * 1048576 + _ + 1 = pl at hap
          rw [List.append_assoc, ← Htk.out] at hap
          clear h7
          go_wp2_with fail
          refine hap.mono ?_
          rintro e w7 ⟨L5, rfl, hs7, hg7, hb7, h8⟩
          clear hap
          have Hs7 := hide hs7
          clear hs7 hb7
          go_wp2_with fail
          go_roundw
          case rel => exact ⟨i2' + 1, L5, by omega, by go_num, Hs7, Hdt, h8.drop2.drop2⟩
          case measure => simp [intOf]; omega
        · obtain rfl : i2' = k := by omega
          have hiz : ¬ ((i2' : Int) < (i2' : Int)) := by omega
          have hmt : ms.take i2' = ms := by rw [← Hk.out, List.take_length]
          have hms1 := Hs6.out
          rw [hmt] at hms1
          have Hmd := Hsm.out
          rw [hmt] at Hmd
          have Hmd := hide Hmd
          obtain ⟨allB, hallB⟩ : ∃ allB, all.take j ++ ms.map (·.1.rcd) = allB := ⟨_, rfl⟩
          rw [hallB] at hms1
          obtain ⟨NB, hNB⟩ : ∃ NB, j + i2' = NB := ⟨_, rfl⟩
          have hNBz : (j : Int) + (i2' : Int) = (NB : Int) := by omega
          have hlB : allB.length = NB := by
            rw [← hNB, ← hallB, List.length_append, List.length_map, List.length_take, Hk.out]
            have := Hj.out
            omega
          have hfl := laneFlush_ok W wr _ P2 D 0 hms1 Hun5.out (by omega) h12
          have HallB := hide hallB
          have HlB := hide hlB
          clear hms1 hmt hallB hlB h12
          go_wp2_with fail
          refine hfl.mono ?_
          rintro e w5 ⟨L5, m6, rfl, hs7, hg7, hb7, hLb7, hsm7, hun7, hwr7, h13⟩
          clear hfl
          have hcr := diskCrash_any W w5 _ D m6 0 (by decide) (by omega) h13.pull2
          change Calls _ _ #[_, .int .u64 0] _ _ at hcr
          obtain ⟨hs8, hun8⟩ := hs7.crashed 0
          have hwr8 : (m6.crash 0).writes ≤ 2000 := by rw [(Dk.crash_at (mask := 0) hs7.rest.wf).2.2.2.1]; omega
          generalize m6.crash 0 = m7 at *
          clear h13 hs7 hsm7 hun7 hwr7 hLb7 hb7
          go_wp2_with fail
          refine hcr.mono ?_
          rintro e w6 ⟨rfl, h14⟩
          clear hcr
          have hop := laneOpen_st W w6 _ D 0 m7 hs8 hun8 (by omega) h14
          rw [List.take_length] at hop
          change Calls _ _ #[_, .int .i64 0] _ _ at hop
          clear h14
          go_wp2_with fail
          refine hop.mono ?_
          rintro e w7 ⟨P3, ae3, ce3, es3, m8, rfl, hel3, hes3, hs9, hsm9, hun9, hwr9, h15⟩
          clear hop
          rw [HlB.out] at hel3
          rw [hel3]
          have h16 := (h15.cast (show _ = row 52 9 (.slice ae3 es3.length ce3) es3.length (es3.flatMap EntV.cs) * (dirts es3 * F) * (lan P3 D 0 _ * (dsk D m8 * lan P2 D 0 L5)) by ac_rfl)).l
          have hw4 := IntWalk.i64_in (NB : Int) (by omega)
          have Hel3 := hide hel3
          have Hes3 := hide hes3
          clear h15 hs8 hun8 hs9 hsm9 hun9 hwr9 hel3 hes3
          go_wp2_with fail
          go_loopw [137] (fun u137 wr => ∃ (q : Nat), q ≤ i2' ∧ u137 = .int .i64 q ∧ At W (row 52 9 (.slice ae3 es3.length ce3) es3.length (es3.flatMap EntV.cs) * (dirts es3 * F)) wr) (fun u _ => i2' - (intOf u).toNat)
          case atStart => exact ⟨0, Nat.zero_le _, rfl, h16⟩
          case round =>
            obtain ⟨q, hqk, rfl, h17⟩ := hrel
            clear h16
            by_cases hql : q < i2'
            · obtain ⟨s, hs⟩ : ∃ s, ms[q]'(by have := Hk.out; omega) = s := ⟨_, rfl⟩
              have hsm : s ∈ ms := by rw [← hs]; exact List.getElem_mem _
              have hsIn := Hms.out.2 s hsm
              obtain ⟨g, o, rfl, hcs⟩ := Hms.out.at (HF.out.2.2 _ h17.r.r) (i := q) (by have := Hk.out; omega)
              rw [hs] at hcs
              obtain ⟨dl, hdl⟩ : ∃ dl, s.1.dirty.length = dl := ⟨_, rfl⟩
              obtain ⟨B, hB⟩ : ∃ B, wr.heap.size = B := ⟨_, rfl⟩
              have h5 := h17.alloc' hB (.cells (List.toArray [.int .i64 0, .int .i64 0, .int .i64 0, .int .i64 0, .int .u8 0, .int .u8 0, .int .u8 0, .slice none 0 0]) 56)
              have Hs := hide hs
              have HsIn := hide hsIn
              have Hdl := hide hdl
              have hilz : (q : Int) < (i2' : Int) := by omega
              clear hs hsm hsIn hdl h17
              go_upto_region 39 with fail
              refine wp_region_lit ?_
              refine wpList_value rfl (v := .int .i64 q) (by go_simp) ?_
              refine wpList_value rfl (v := .pointer (some ⟨g, o + q * 8, none⟩)) (by go_simp) ?_
              refine wpList_load_agg rfl (.tmp 140) 56 rfl _ Try.underlying56 rfl (ys := s.cs) (by rw [SdV.cs_len]; kernel_rfl) (g := g) (off := o + q * 8) (by go_simp) hcs ?_
              refine wpList_alloc_at rfl _ rfl (Try.zeroSeed wr) ?_
              try rw [hB]
              refine wpList_value rfl (v := .int .i64 q) (by go_simp) ?_
              refine wpList_store_at rfl (.tmp 23) (.tmp 141) _ rfl (g := B) (c := List.toArray [.int .i64 0, .int .i64 0, .int .i64 0, .int .i64 0, .int .u8 0, .int .u8 0, .int .u8 0, .slice none 0 0]) (ys := s.cs) (by go_simp) (by go_simp) (by rw [SdV.cs_len]; kernel_rfl) rfl s.one h5 ?_
              intro w5 h6
              have c7 : w5.cell? ⟨B, 7, none⟩ = some (.slice s.2.1 dl s.2.2) := by
                rw [← Hdl.out]
                exact At.cell h6 rfl
              clear h5 hcs hB
              have hgood := Sd.good HsIn.out.1
              have hxl := Sd.rcd_len (s := s.1)
              have hrc := fun (R : HP) w' (hR : ∀ w', At W R w' → At W (old W * 1) w') (h : At W R w') => seedRec_v W w' R s (HsIn.out.of hR) (by have := Hmd.out s (by rw [← Hs.out]; exact List.getElem_mem _); omega) h
              obtain ⟨x, hx⟩ : ∃ x, s.1.rcd = x := ⟨_, rfl⟩
              rw [hx] at hrc hgood hxl
              change ∀ (R : HP) w' (hR : ∀ w', At W R w' → At W (old W * 1) w') (h : At W R w'), Calls _ _ _ _ (fun e w' => ∃ a1 c1, e = .returned (.agg #[.int .i64 x.kind, .int .i64 x.txn, .int .i64 x.page, .int .i64 x.slot, .string x.before, .string x.after, .string x.image, .slice a1 x.dirty.length c1]) ∧ At W (row 33 1 (.slice a1 x.dirty.length c1) x.dirty.length (nus x.dirty) * R) w') at hrc
              have Hrc := hide hrc
              have Hgood := hide hgood
              have Hx := hide hx
              clear hrc hgood hx
              obtain ⟨I, hI⟩ : ∃ I, j + q = I := ⟨_, rfl⟩
              have hIz : (j : Int) + (q : Int) = (I : Int) := by omega
              have hIl : I < es3.length := by rw [Hel3.out]; omega
              have hIlz : (I : Int) < (NB : Int) := by omega
              have hIw := IntWalk.i64_in (I : Int) (by omega)
              have hI0 : (0 : Int) ≤ (I : Int) := by omega
              obtain ⟨g2, o2, rfl, hcs2⟩ := (EntsIn.of_row rfl h6.r).at h6.r hIl
              obtain ⟨⟨y0, y1, y2, y3⟩, hy⟩ : ∃ y : EntV, es3[I] = y := ⟨_, rfl⟩
              have hyx : y1 = x := by
                have h1 := places_good Hes3.out
                have h2 : (es3.map (·.2.1))[I]? = some x := by
                  rw [h1, ← HallB.out, List.getElem?_append_right (by rw [List.length_take]; have := Hj.out; omega), List.length_take, Nat.min_eq_left Hj.out, show I - j = q by omega, List.getElem?_map, List.getElem?_eq_getElem (by have := Hk.out; omega), Hs.out, ← Hx.out]
                  rfl
                rw [List.getElem?_map, List.getElem?_eq_getElem hIl, hy] at h2
                simpa using h2
              subst hyx
              have hym : (y0, y1, y2, y3) ∈ es3 := by rw [← hy]; exact List.getElem_mem _
              rw [hy] at hcs2
              have hEc : ∀ w', At W (row 52 9 (.slice (some ⟨g2, o2, none⟩) es3.length ce3) es3.length (es3.flatMap EntV.cs) * (dirts es3 * F)) w' → ∀ t u, (RecV.cs (y1, y2, y3))[t]? = some u → w'.cell? ⟨g2, o2 + I * 9 + (t + 1), none⟩ = some u := fun w' h' t u hu => by
                obtain ⟨g3, o3, he, hc3⟩ := (EntsIn.of_row rfl h').at h' hIl
                simp only [Option.some.injEq, Addr.mk.injEq, and_true] at he
                obtain ⟨rfl, rfl⟩ := he
                rw [hy] at hc3
                exact hc3 (t + 1) u hu
              have hc1 := Hrc.out _ w5.drew (fun w' h' => HF.out.2.2 _ h'.r.r.r) h6.drew
              change Calls _ _ #[.agg #[.int .i64 s.1.kind, .int .i64 s.1.txn, .int .i64 s.1.page, .int .i64 s.1.slot, .int .u8 s.1.before, .int .u8 s.1.after, .int .u8 s.1.image, .slice s.2.1 s.1.dirty.length s.2.2]] _ _ at hc1
              have hsm := fun a1 c1 w6 h7 => recSame_any W w6 (row 33 1 (.slice a1 y1.dirty.length c1) y1.dirty.length (nus y1.dirty) * (cel B s.cs.toArray 56 * (row 52 9 (.slice (some ⟨g2, o2, none⟩) es3.length ce3) es3.length (es3.flatMap EntV.cs) * (dirts es3 * F)))) y1 y1 y2 a1 y3 c1 (by omega) (fun w' h' => dirts_mem hym h'.r.r.r) (fun w' h' => h'.rd) h7
              have hdd : decide (y1 = y1) = true := decide_eq_true rfl
              rw [hdd] at hsm
              change ∀ (a1 : Option Addr) (c1 : Nat) (w6 : World) h7, Calls _ _ #[.agg #[.int .i64 y1.kind, .int .i64 y1.txn, .int .i64 y1.page, .int .i64 y1.slot, .string y1.before, .string y1.after, .string y1.image, .slice y2 y1.dirty.length y3], .agg #[.int .i64 y1.kind, .int .i64 y1.txn, .int .i64 y1.page, .int .i64 y1.slot, .string y1.before, .string y1.after, .string y1.image, .slice a1 y1.dirty.length c1]] _ _ at hsm
              have Hmd' := Hmd
              clear c7 hcs2 hdd
              go_upto_region 40 with fail
              go_region_held3 (fun w' => w'.cell? ⟨g2, o2 + I * 9 + 1, none⟩ = some (.int .i64 y1.kind) ∧ w'.cell? ⟨g2, o2 + I * 9 + 2, none⟩ = some (.int .i64 y1.txn) ∧ w'.cell? ⟨g2, o2 + I * 9 + 3, none⟩ = some (.int .i64 y1.page) ∧ w'.cell? ⟨g2, o2 + I * 9 + 4, none⟩ = some (.int .i64 y1.slot) ∧ w'.cell? ⟨g2, o2 + I * 9 + 5, none⟩ = some (.string y1.before) ∧ w'.cell? ⟨g2, o2 + I * 9 + 6, none⟩ = some (.string y1.after) ∧ w'.cell? ⟨g2, o2 + I * 9 + 7, none⟩ = some (.string y1.image) ∧ w'.cell? ⟨g2, o2 + I * 9 + 8, none⟩ = some (.slice y2 y1.dirty.length y3) ∧ w'.cell? ⟨B, 0, none⟩ = some (.int .i64 s.1.kind) ∧ w'.cell? ⟨B, 1, none⟩ = some (.int .i64 s.1.txn) ∧ w'.cell? ⟨B, 2, none⟩ = some (.int .i64 s.1.page) ∧ w'.cell? ⟨B, 3, none⟩ = some (.int .i64 s.1.slot) ∧ w'.cell? ⟨B, 4, none⟩ = some (.int .u8 s.1.before) ∧ w'.cell? ⟨B, 5, none⟩ = some (.int .u8 s.1.after) ∧ w'.cell? ⟨B, 6, none⟩ = some (.int .u8 s.1.image) ∧ w'.cell? ⟨B, 7, none⟩ = some (.slice s.2.1 s.1.dirty.length s.2.2)) (first | exact ⟨hEc _ h6.drew.r 0 _ rfl, hEc _ h6.drew.r 1 _ rfl, hEc _ h6.drew.r 2 _ rfl, hEc _ h6.drew.r 3 _ rfl, hEc _ h6.drew.r 4 _ rfl, hEc _ h6.drew.r 5 _ rfl, hEc _ h6.drew.r 6 _ rfl, hEc _ h6.drew.r 7 _ rfl, At.cell h6.drew rfl, At.cell h6.drew rfl, At.cell h6.drew rfl, At.cell h6.drew rfl, At.cell h6.drew rfl, At.cell h6.drew rfl, At.cell h6.drew rfl, At.cell h6.drew rfl⟩ | exact ⟨hEc _ h7.r.r 0 _ rfl, hEc _ h7.r.r 1 _ rfl, hEc _ h7.r.r 2 _ rfl, hEc _ h7.r.r 3 _ rfl, hEc _ h7.r.r 4 _ rfl, hEc _ h7.r.r 5 _ rfl, hEc _ h7.r.r 6 _ rfl, hEc _ h7.r.r 7 _ rfl, At.cell h7.pull2 rfl, At.cell h7.pull2 rfl, At.cell h7.pull2 rfl, At.cell h7.pull2 rfl, At.cell h7.pull2 rfl, At.cell h7.pull2 rfl, At.cell h7.pull2 rfl, At.cell h7.pull2 rfl⟩ | exact ⟨hEc _ h8.r.r 0 _ rfl, hEc _ h8.r.r 1 _ rfl, hEc _ h8.r.r 2 _ rfl, hEc _ h8.r.r 3 _ rfl, hEc _ h8.r.r 4 _ rfl, hEc _ h8.r.r 5 _ rfl, hEc _ h8.r.r 6 _ rfl, hEc _ h8.r.r 7 _ rfl, At.cell h8.pull2 rfl, At.cell h8.pull2 rfl, At.cell h8.pull2 rfl, At.cell h8.pull2 rfl, At.cell h8.pull2 rfl, At.cell h8.pull2 rfl, At.cell h8.pull2 rfl, At.cell h8.pull2 rfl⟩) (first | ((with_reducible refine hc1.mono ?_); rintro e w6 ⟨a1, c1, rfl, h7⟩) | ((with_reducible refine (hsm a1 c1 w6 h7).mono ?_); rintro e w7 ⟨rfl, h8⟩))
              clear hsm hc1 hEc
              go_wp2_with fail
              go_roundw
              case rel => exact ⟨q + 1, by omega, by go_num, h8.r.r⟩
              case measure => simp [intOf]; omega
            · obtain rfl : q = i2' := by omega
              have hqz : ¬ ((q : Int) < (q : Int)) := by omega
              have hbel := (HF.out.2.2 _ h17.r.r).below
              go_wp2_with fail
              go_ret
              exact ⟨rfl, hbel⟩
end Go.Proofs.Ytgkibjjcdcpkfaa
