/-
  LaneTwo: the law's walk: whatever comes in, it returns true. A contract, no statement.
-/
import Derived.Test.YtgkibjjcdcpkfaaRx
namespace Go.Proofs.Ytgkibjjcdcpkfaa
open Go Go.RowKit

theorem andOne (i : Nat) (hi : i ≤ 9223372036854775807) : bits .and .i64 (i : Int) 1 = ((i % 2 : Nat) : Int) := by
  show IntKind.i64.wrap ((BitVec.ofInt 64 (i : Int) &&& BitVec.ofInt 64 1).toNat : Int) = _
  have h : (BitVec.ofInt 64 (i : Int) &&& BitVec.ofInt 64 1).toNat = i % 2 := by
    rw [BitVec.toNat_and]
    have h1 : (BitVec.ofInt 64 (i : Int)).toNat = i := by rw [BitVec.toNat_ofInt]; omega
    have h2 : (BitVec.ofInt 64 1).toNat = 2 ^ 1 - 1 := by decide
    rw [h1, h2, Nat.and_two_pow_sub_one_eq_mod]
  rw [h, IntWalk.i64_in _ (by omega)]
/-- What is kept of a slice of records in the making. -/
def Mk (W : World) (F : HP) (a : Option Addr) (c : Nat) (rs : List RecV) : Prop := GoodV rs ∧ (∀ y ∈ rs, DirIn W F y) ∧ (rs = [] → a = none ∧ c = 0)

set_option maxRecDepth 100000 in
set_option maxHeartbeats 32000000 in
theorem two_walk (W : World) (a : Option Addr) (cap : Nat) (ss : List SdV) (mask : Nat) (hn : ss.length ≤ maxLen) (_hdl : ∀ x ∈ ss, x.1.dirty.length ≤ maxLen) (hss : SdsIn W (old W * 1) a ss) (hmask : mask < 18446744073709551616) :
    Calls Try.prog 9 #[.slice a ss.length cap, .int .u64 mask] W fun e W' => e = .returned (.bool true) ∧ Below W.heap.size W W' := by
  have hfit := lawFit_any W W _ (At.startR W)
  obtain ⟨n, hnn⟩ : ∃ n, ss.length = n := ⟨_, rfl⟩
  rw [hnn] at hn ⊢
  unfold maxLen at hn
  have Hn := hide hnn
  have Hss := hide hss
  have Hmask := hide hmask
  obtain ⟨i2, z2, hi2, hy0, hy1, hy2, hy3⟩ := info_wr Try.infoRec
  have Hi2 := hide hi2
  clear hnn hss hi2 _hdl hmask
  go_enter Try.func9, Try.ntmps9
  go_wp2_with fail
  refine hfit.mono ?_
  rintro e w1 ⟨rfl, h1⟩
  clear hfit
  by_cases hbig : 20 < n
  · have hbel := h1.below
    have hbz : 20 < (n : Int) := by omega
    clear hbig
    go_wp2_with fail
    go_ret
    exact ⟨rfl, hbel⟩
  have hn20 : n ≤ 20 := by omega
  have hbz : ¬ 20 < (n : Int) := by omega
  have hnew := diskNew_any W w1 _ 2 538 (by decide) (by decide) (by decide) (by decide) h1
  change Calls _ _ #[.int .i64 2, .int .i64 538] _ _ at hnew
  clear h1 hbig
  go_wp2_with fail
  refine hnew.mono ?_
  rintro e w2 ⟨D, rfl, h2⟩
  clear hnew
  have hN := Dk.new_at 2 538 0 (by decide)
  have hN1 := Dk.new_at 2 538 1 (by decide)
  have hln := laneNew_st W w2 _ D 0 (Dk.new 2 538) (Dk.new_wf (by decide) (by decide) (by decide)) (by decide) (by decide) hN.1 hN.2 (by decide) h2
  change Calls _ _ #[_, .int .i64 0] _ _ at hln
  have hn2 : (Dk.new 2 538).writes = 0 := rfl
  rw [hn2] at hln
  have hnr : (Dk.new 2 538).regs.length = 2 := rfl
  have hnw : (Dk.new 2 538).Wf := Dk.new_wf (by decide) (by decide) (by decide)
  generalize Dk.new 2 538 = m0 at *
  clear h2 hn2 hN
  go_wp2_with fail
  refine hln.mono ?_
  rintro e w3 ⟨P0, L0, m1, rfl, hst0, hg0, hb0, hsame0, hun0, hwr0, h3⟩
  clear hln
  have hln := laneNew_st W w3 _ D 1 m1 hst0.rest.wf (by rw [hsame0.regs, hnr]; decide) hst0.rest.size ((hsame0.wts 1 (by decide)).trans hN1.1) ((hsame0.armd 1 (by decide)).trans hN1.2) (by omega) h3.pull2
  change Calls _ _ #[_, .int .i64 1] _ _ at hln
  clear h3
  go_wp2_with fail
  refine hln.mono ?_
  rintro e w4 ⟨P1, L1, m2, rfl, hst1, hg1, hb1, hsame1, hun1, hwr1, h4⟩
  clear hln
  have Hst0 := hide (hst0.other hsame1 hst1.rest.wf (by decide))
  have Hst1 := hide hst1
  have Hun := hide (show m2.armd 0 = false ∧ m2.armd 1 = false from ⟨(hsame1.armd 0 (by decide)).trans hun0, hun1⟩)
  have hwr : m2.writes ≤ 1040 := by omega
  have h5 := h4.cast (show _ = lan P0 D 0 L0 * (lan P1 D 1 L1 * (dsk D m2 * (old W * 1))) by ac_rfl)
  clear hst0 hst1 hsame0 hsame1 hun0 hun1 hwr0 hwr1 hN1 hnr hnw hb0 hb1 h4 hbz
  go_wp2_with fail
  go_loopw [10, 11, 39] (fun u10 u11 u39 wr => ∃ (i : Nat) (ra rb : List RecV) (aa ab : Option Addr) (ca cb : Nat) (L0 L1 : Ln) (m : Dk) (k : Nat) (F : HP), i ≤ n ∧ u39 = .int .i64 i ∧ u10 = .slice aa ra.length ca ∧ u11 = .slice ab rb.length cb ∧ Hid (ra.length ≤ i ∧ rb.length ≤ i) ∧ Hid (Mk W F aa ca ra) ∧ Hid (Mk W F ab cb rb) ∧ Hid (∀ w', At W F w' → At W (old W * 1) w') ∧
    Hid (LSt m 0 L0 (recCheck :: ra.map (·.1)) k) ∧ Hid (LSt m 1 L1 (recCheck :: rb.map (·.1)) (rb.length + 1)) ∧ Hid (m.armd 0 = false ∧ m.armd 1 = false) ∧ m.writes ≤ 1040 + 256 * i ∧
    At W (lan P0 D 0 L0 * (lan P1 D 1 L1 * (dsk D m * (row 44 8 (.slice aa ra.length ca) ra.length (ra.flatMap RecV.cs) * (row 44 8 (.slice ab rb.length cb) rb.length (rb.flatMap RecV.cs) * F))))) wr) (fun _ _ u _ => n - (intOf u).toNat)
  case atStart =>
    exact ⟨0, [], [], none, none, 0, 0, L0, L1, m2, 1, old W * 1, Nat.zero_le _, rfl, rfl, rfl, hide ⟨Nat.zero_le _, Nat.zero_le _⟩, hide ⟨fun _ h => absurd h (by simp), fun _ h => absurd h (by simp), fun _ => ⟨rfl, rfl⟩⟩, hide ⟨fun _ h => absurd h (by simp), fun _ h => absurd h (by simp), fun _ => ⟨rfl, rfl⟩⟩, hide fun _ h => h, Hst0, Hst1, Hun, by omega, ((h5.row_nil 44 8).row_nil 44 8).cast (by
      show _ = lan P0 D 0 L0 * (lan P1 D 1 L1 * (dsk D m2 * (row _ 8 (.slice none 0 0) 0 [] * (row _ 8 (.slice none 0 0) 0 [] * (old W * 1)))))
      ac_rfl)⟩
  case round =>
    obtain ⟨i, ra, rb, aa, ab, ca, cb, L2, L3, m, k, F, hin, rfl, rfl, rfl, Hrl, HA, HB, HF, Hs0, Hs1, Hun2, hwr2, h6⟩ := hrel
    clear h5 Hst0 Hst1 Hun hwr hg0 hg1
    by_cases hil : i < n
    · obtain ⟨s, hs⟩ : ∃ s, ss[i]'(by have := Hn.out; omega) = s := ⟨_, rfl⟩
      have hsm : s ∈ ss := by rw [← hs]; exact List.getElem_mem _
      have hsIn := Hss.out.2 s hsm
      obtain ⟨g, o, rfl, hcs⟩ := Hss.out.at (HF.out _ h6.r.r.r.r.r) (i := i) (by have := Hn.out; omega)
      rw [hs] at hcs
      obtain ⟨dl, hdl⟩ : ∃ dl, s.1.dirty.length = dl := ⟨_, rfl⟩
      obtain ⟨B, hB⟩ : ∃ B, wr.heap.size = B := ⟨_, rfl⟩
      have h7 := h6.alloc' hB (.cells (List.toArray [.int .i64 0, .int .i64 0, .int .i64 0, .int .i64 0, .int .u8 0, .int .u8 0, .int .u8 0, .slice none 0 0]) 56)
      have HsIn := hide hsIn
      have Hdl := hide hdl
      have hilz : (i : Int) < (n : Int) := by omega
      clear hs hsm hsIn hdl h6
      go_upto_region 11 with fail
      refine wp_region_lit ?_
      refine wpList_value rfl (v := .int .i64 i) (by go_simp) ?_
      refine wpList_value rfl (v := .pointer (some ⟨g, o + i * 8, none⟩)) (by go_simp) ?_
      refine wpList_load_agg rfl (.tmp 42) 56 rfl _ Try.underlying56 rfl (ys := s.cs) (by rw [SdV.cs_len]; kernel_rfl) (g := g) (off := o + i * 8) (by go_simp) hcs ?_
      refine wpList_alloc_at rfl _ rfl (Try.zeroSeed wr) ?_
      try rw [hB]
      refine wpList_value rfl (v := .int .i64 i) (by go_simp) ?_
      refine wpList_store_at rfl (.tmp 13) (.tmp 43) _ rfl (g := B) (c := List.toArray [.int .i64 0, .int .i64 0, .int .i64 0, .int .i64 0, .int .u8 0, .int .u8 0, .int .u8 0, .slice none 0 0]) (ys := s.cs) (by go_simp) (by go_simp) (by rw [SdV.cs_len]; kernel_rfl) rfl s.one h7 ?_
      intro w5 h8
      have c7 : w5.cell? ⟨B, 7, none⟩ = some (.slice s.2.1 dl s.2.2) := by
        rw [← Hdl.out]
        exact At.cell h8 rfl
      clear h7 hcs hB
      by_cases hdb : 100 < dl
      · have hdz : 100 < (dl : Int) := by omega
        have hbel := (HF.out _ h8.r.r.r.r.r.r).below
        clear hdb
        go_wp2_with fail
        go_ret
        exact ⟨rfl, hbel⟩
      have hdz : ¬ 100 < (dl : Int) := by omega
      have hgood := Sd.good HsIn.out.1
      have hxl := Sd.rcd_len (s := s.1)
      have hrc := fun (R : HP) w' (hR : ∀ w', At W R w' → At W (old W * 1) w') (h : At W R w') => seedRec_v W w' R s (HsIn.out.of hR) (by rw [Hdl.out]; omega) h
      obtain ⟨x, hx⟩ : ∃ x, s.1.rcd = x := ⟨_, rfl⟩
      rw [hx] at hrc hgood hxl
      change ∀ (R : HP) w' (hR : ∀ w', At W R w' → At W (old W * 1) w') (h : At W R w'), Calls _ _ _ _ (fun e w' => ∃ a1 c1, e = .returned (.agg #[.int .i64 x.kind, .int .i64 x.txn, .int .i64 x.page, .int .i64 x.slot, .string x.before, .string x.after, .string x.image, .slice a1 x.dirty.length c1]) ∧ At W (row 33 1 (.slice a1 x.dirty.length c1) x.dirty.length (nus x.dirty) * R) w') at hrc
      have Hrc := hide hrc
      have Hgood := hide hgood
      have hil2 : i ≤ 20 := by omega
      have hra20 : ra.length ≤ 20 := by have := Hrl.out.1; omega
      have hrb20 : rb.length ≤ 20 := by have := Hrl.out.2; omega
      have hand := andOne i (by omega)
      have hfA : (encR (recCheck :: ra.map (·.1))).length + x.enc.length ≤ 14336 := by
        have h1 := encR_bound Hs0.out.good
        have h2 := Rec.enc_le hgood
        simp only [List.length_cons, List.length_map] at h1
        omega
      have hfB : (encR (recCheck :: rb.map (·.1))).length + x.enc.length ≤ 14336 := by
        have h1 := encR_bound Hs1.out.good
        have h2 := Rec.enc_le hgood
        simp only [List.length_cons, List.length_map] at h1
        omega
      have HfA := hide hfA
      have HfB := hide hfB
      clear hrc hgood hx hdb hfA hfB
      by_cases hpar : i % 2 = 0
      · rw [hpar] at hand
        have hc1 := Hrc.out _ w5 (fun w' h' => HF.out _ h'.r.r.r.r.r.r) h8
        go_upto_region 15 with fail
        clear c7
        refine wp_region_lit ?_
        refine wpList_value rfl (v := .pointer (some ⟨P0, 0, none⟩)) (by go_simp) ?_
        refine wpList_load_agg rfl (.tmp 13) 56 rfl _ Try.underlying56 rfl (ys := s.cs) (by rw [SdV.cs_len]; kernel_rfl) (g := B) (off := 0) (by go_simp) (fun j u hu => by rw [Nat.zero_add]; exact At.cell h8 (by simpa using hu)) ?_
        go_wp2_with fail
        refine hc1.mono ?_
        rintro e w6 ⟨a1, c1, rfl, h9⟩
        clear hc1 h8
        have hap := laneAppend_ok W w6 _ P0 D 0 x a1 c1 Hs0.out Hgood.out HfA.out (fun w' h' => h'.rd) h9.pull3
        change Calls _ _ #[_, .agg #[.int .i64 x.kind, .int .i64 x.txn, .int .i64 x.page, .int .i64 x.slot, .string x.before, .string x.after, .string x.image, .slice a1 x.dirty.length c1]] _ _ at hap
        generalize L2.gen * 1048576 + _ + 1 = pl at hap
        clear h9
        go_wp2_with fail
        refine hap.mono ?_
        rintro e w7 ⟨L4, rfl, hs3, hg3, hb3, h10⟩
        clear hap
        have Hs3 := hide hs3
        have h11 := h10.pull3
        clear hs3 hb3 h10
        have hc2 := Hrc.out _ w7 (fun w' h' => HF.out _ h'.r.r.r.r.r.r.r) h11
        go_upto_region 16 with fail
        refine wp_region_lit ?_
        refine wpList_value rfl (v := .slice aa ra.length ca) (by go_simp) ?_
        refine wpList_load_agg rfl (.tmp 13) 56 rfl _ Try.underlying56 rfl (ys := s.cs) (by rw [SdV.cs_len]; kernel_rfl) (g := B) (off := 0) (by go_simp) (fun j u hu => by rw [Nat.zero_add]; exact At.cell h11 (by simpa using hu)) ?_
        go_wp2_with fail
        refine hc2.mono ?_
        rintro e w8 ⟨a2, c2, rfl, h12⟩
        clear hc2 h11
        obtain ⟨N, hN⟩ : ∃ N, w8.heap.size = N := ⟨_, rfl⟩
        have h13 := (h12.alloc' hN (.cells #[.int .i64 x.kind, .int .i64 x.txn, .int .i64 x.page, .int .i64 x.slot, .string x.before, .string x.after, .string x.image, .slice a2 x.dirty.length c2] 44)).cast (show _ = row 44 8 (.slice aa ra.length ca) ra.length (ra.flatMap RecV.cs) * (pt N (.cells #[.int .i64 x.kind, .int .i64 x.txn, .int .i64 x.page, .int .i64 x.slot, .string x.before, .string x.after, .string x.image, .slice a2 x.dirty.length c2] 44) * (row 33 1 (.slice a2 x.dirty.length c2) x.dirty.length (nus x.dirty) * (cel B s.cs.toArray 56 * (lan P0 D 0 L4 * (row 33 1 (.slice a1 x.dirty.length c1) x.dirty.length (nus x.dirty) * (lan P1 D 1 L3 * (dsk D m * (row 44 8 (.slice ab rb.length cb) rb.length (rb.flatMap RecV.cs) * F)))))))) by ac_rfl)
        have hnews : ∀ j u, (RecV.cs (x, a2, c2))[j]? = some u → (w8.alloc (.cells #[.int .i64 x.kind, .int .i64 x.txn, .int .i64 x.page, .int .i64 x.slot, .string x.before, .string x.after, .string x.image, .slice a2 x.dirty.length c2] 44)).cell? ((⟨N, 0, none⟩ : Addr).add j) = some u := fun j u hu => by
          rw [Addr.add_lit, Nat.zero_add]
          exact At.cell h13.pull2 (by simpa [RecV.cs, Rec.cells] using hu)
        clear h12
        go_wp2_with (at_builtin; go_loud (refine wpList_append_rec1 rfl (.tmp 55) (.tmp 58) 62 rfl 44 i2 z2 Try.underlying62 Hi2.out hy0 hy2 hy3 hy1 (rs := ra) (y := (x, a2, c2)) rfl h13 (ad := ⟨N, 0, none⟩) (c := 1) (by rw [← hN]; rfl) hnews (by omega) ?_))
        intro a9 c9 w9 h14
        obtain ⟨rs', hrs'⟩ : ∃ rs', ra ++ [((x, a2, c2) : RecV)] = rs' := ⟨_, rfl⟩
        have hrl' : rs'.length = ra.length + 1 := by rw [← hrs']; simp
        have hfm' : rs'.flatMap RecV.cs = ra.flatMap RecV.cs ++ RecV.cs (x, a2, c2) := by rw [← hrs']; simp
        rw [← hrl', ← hfm'] at h14
        rw [← hrl']
        have h15 := (h14.cast (show _ = lan P0 D 0 L4 * (lan P1 D 1 L3 * (dsk D m * (row 44 8 (.slice a9 rs'.length c9) rs'.length (rs'.flatMap RecV.cs) * (row 44 8 (.slice ab rb.length cb) rb.length (rb.flatMap RecV.cs) * (row 33 1 (.slice a2 x.dirty.length c2) x.dirty.length (nus x.dirty) * F))))) * (pt N (.cells #[.int .i64 x.kind, .int .i64 x.txn, .int .i64 x.page, .int .i64 x.slot, .string x.before, .string x.after, .string x.image, .slice a2 x.dirty.length c2] 44) * (cel B s.cs.toArray 56 * row 33 1 (.slice a1 x.dirty.length c1) x.dirty.length (nus x.dirty))) by ac_rfl)).l
        have Hrs' := hide hrs'
        have Hrl' := hide hrl'
        clear h13 h14 hnews hrs' hrl' hfm'
        go_wp2_with fail
        go_roundw
        case rel =>
          refine ⟨i + 1, rs', rb, a9, ab, c9, cb, L4, L3, m, k, row 33 1 (.slice a2 x.dirty.length c2) x.dirty.length (nus x.dirty) * F, by omega, by go_num, rfl, rfl, hide ⟨by have := Hrl'.out; have := Hrl.out.1; omega, by have := Hrl.out.2; omega⟩, hide ⟨fun y hy => ?_, fun y hy => ?_, fun he => ?_⟩, hide ⟨HB.out.1, fun y hy => (HB.out.2.1 y hy).mono, HB.out.2.2⟩, hide fun w' h' => HF.out w' h'.r, hide ?_, Hs1, Hun2, by omega, h15⟩
          · rw [← Hrs'.out] at hy
            rcases List.mem_append.1 hy with h | h
            · exact HA.out.1 y h
            · rw [List.mem_singleton.1 h]; exact Hgood.out
          · rw [← Hrs'.out] at hy
            rcases List.mem_append.1 hy with h | h
            · exact (HA.out.2.1 y h).mono
            · rw [List.mem_singleton.1 h]; exact fun w' h' => h'.rd
          · rw [← Hrs'.out] at he
            simp at he
          · have := Hs3.out
            rw [show (recCheck :: ra.map (·.1)) ++ [x] = recCheck :: rs'.map (·.1) by rw [← Hrs'.out]; simp] at this
            exact this
        case measure => simp [intOf]; omega
      · have hpar1 : i % 2 = 1 := by omega
        rw [hpar1] at hand
        have hc1 := Hrc.out _ w5 (fun w' h' => HF.out _ h'.r.r.r.r.r.r) h8
        go_upto_region 17 with fail
        clear c7
        refine wp_region_lit ?_
        refine wpList_value rfl (v := .pointer (some ⟨P1, 0, none⟩)) (by go_simp) ?_
        refine wpList_load_agg rfl (.tmp 13) 56 rfl _ Try.underlying56 rfl (ys := s.cs) (by rw [SdV.cs_len]; kernel_rfl) (g := B) (off := 0) (by go_simp) (fun j u hu => by rw [Nat.zero_add]; exact At.cell h8 (by simpa using hu)) ?_
        go_wp2_with fail
        refine hc1.mono ?_
        rintro e w6 ⟨a1, c1, rfl, h9⟩
        clear hc1 h8
        have hap := laneAppend_ok W w6 _ P1 D 1 x a1 c1 Hs1.out Hgood.out HfB.out (fun w' h' => h'.rd) h9.pull4
        change Calls _ _ #[_, .agg #[.int .i64 x.kind, .int .i64 x.txn, .int .i64 x.page, .int .i64 x.slot, .string x.before, .string x.after, .string x.image, .slice a1 x.dirty.length c1]] _ _ at hap
        generalize L3.gen * 1048576 + _ + 1 = pl at hap
        clear h9
        go_wp2_with fail
        refine hap.mono ?_
        rintro e w7 ⟨L4, rfl, hs3, hg3, hb3, h10⟩
        clear hap
        have Hs3 := hide hs3
        have h11 := h10.pull3
        clear hs3 hb3 h10
        have hc2 := Hrc.out _ w7 (fun w' h' => HF.out _ h'.r.r.r.r.r.r.r) h11
        go_upto_region 18 with fail
        refine wp_region_lit ?_
        refine wpList_value rfl (v := .slice ab rb.length cb) (by go_simp) ?_
        refine wpList_load_agg rfl (.tmp 13) 56 rfl _ Try.underlying56 rfl (ys := s.cs) (by rw [SdV.cs_len]; kernel_rfl) (g := B) (off := 0) (by go_simp) (fun j u hu => by rw [Nat.zero_add]; exact At.cell h11 (by simpa using hu)) ?_
        go_wp2_with fail
        refine hc2.mono ?_
        rintro e w8 ⟨a2, c2, rfl, h12⟩
        clear hc2 h11
        obtain ⟨N, hN⟩ : ∃ N, w8.heap.size = N := ⟨_, rfl⟩
        have h13 := (h12.alloc' hN (.cells #[.int .i64 x.kind, .int .i64 x.txn, .int .i64 x.page, .int .i64 x.slot, .string x.before, .string x.after, .string x.image, .slice a2 x.dirty.length c2] 44)).cast (show _ = row 44 8 (.slice ab rb.length cb) rb.length (rb.flatMap RecV.cs) * (pt N (.cells #[.int .i64 x.kind, .int .i64 x.txn, .int .i64 x.page, .int .i64 x.slot, .string x.before, .string x.after, .string x.image, .slice a2 x.dirty.length c2] 44) * (row 33 1 (.slice a2 x.dirty.length c2) x.dirty.length (nus x.dirty) * (cel B s.cs.toArray 56 * (lan P1 D 1 L4 * (row 33 1 (.slice a1 x.dirty.length c1) x.dirty.length (nus x.dirty) * (lan P0 D 0 L2 * (dsk D m * (row 44 8 (.slice aa ra.length ca) ra.length (ra.flatMap RecV.cs) * F)))))))) by ac_rfl)
        have hnews : ∀ j u, (RecV.cs (x, a2, c2))[j]? = some u → (w8.alloc (.cells #[.int .i64 x.kind, .int .i64 x.txn, .int .i64 x.page, .int .i64 x.slot, .string x.before, .string x.after, .string x.image, .slice a2 x.dirty.length c2] 44)).cell? ((⟨N, 0, none⟩ : Addr).add j) = some u := fun j u hu => by
          rw [Addr.add_lit, Nat.zero_add]
          exact At.cell h13.pull2 (by simpa [RecV.cs, Rec.cells] using hu)
        clear h12
        go_wp2_with (at_builtin; go_loud (refine wpList_append_rec1 rfl (.tmp 64) (.tmp 67) 62 rfl 44 i2 z2 Try.underlying62 Hi2.out hy0 hy2 hy3 hy1 (rs := rb) (y := (x, a2, c2)) rfl h13 (ad := ⟨N, 0, none⟩) (c := 1) (by rw [← hN]; rfl) hnews (by omega) ?_))
        intro a9 c9 w9 h14
        obtain ⟨rs', hrs'⟩ : ∃ rs', rb ++ [((x, a2, c2) : RecV)] = rs' := ⟨_, rfl⟩
        have hrl' : rs'.length = rb.length + 1 := by rw [← hrs']; simp
        have hfm' : rs'.flatMap RecV.cs = rb.flatMap RecV.cs ++ RecV.cs (x, a2, c2) := by rw [← hrs']; simp
        rw [← hrl', ← hfm'] at h14
        rw [← hrl']
        have h15 := (h14.cast (show _ = lan P1 D 1 L4 * (dsk D m * (lan P0 D 0 L2 * (row 44 8 (.slice aa ra.length ca) ra.length (ra.flatMap RecV.cs) * (row 44 8 (.slice a9 rs'.length c9) rs'.length (rs'.flatMap RecV.cs) * (row 33 1 (.slice a2 x.dirty.length c2) x.dirty.length (nus x.dirty) * F))))) * (pt N (.cells #[.int .i64 x.kind, .int .i64 x.txn, .int .i64 x.page, .int .i64 x.slot, .string x.before, .string x.after, .string x.image, .slice a2 x.dirty.length c2] 44) * (cel B s.cs.toArray 56 * row 33 1 (.slice a1 x.dirty.length c1) x.dirty.length (nus x.dirty))) by ac_rfl)).l
        have hfl := laneFlush_ok W w9 _ P1 D 1 Hs3.out Hun2.out.2 (by omega) h15
        have hsnoc : (recCheck :: rb.map (·.1)) ++ [x] = recCheck :: rs'.map (·.1) := by rw [← hrs']; simp
        rw [hsnoc] at hfl
        have Hrs' := hide hrs'
        have Hrl' := hide hrl'
        clear h13 h14 h15 hnews hrs' hrl' hfm' hsnoc
        go_wp2_with fail
        refine hfl.mono ?_
        rintro e w10 ⟨L5, m5, rfl, hs5, hg5, hb5, hLb5, hsm5, hun5, hwr5, h16⟩
        clear hfl
        have hs0 := Hs0.out.other hsm5 hs5.rest.wf (by decide)
        have Hs0' := hide hs0
        have Hs5 := hide hs5
        have Hun5 := hide (show m5.armd 0 = false ∧ m5.armd 1 = false from ⟨(hsm5.armd 0 (by decide)).trans Hun2.out.1, hun5⟩)
        clear hs0 hs5 hsm5 hun5 hLb5 hb5
        go_wp2_with fail
        go_roundw
        case rel =>
          refine ⟨i + 1, ra, rs', aa, a9, ca, c9, L2, L5, m5, k, row 33 1 (.slice a2 x.dirty.length c2) x.dirty.length (nus x.dirty) * F, by omega, by go_num, rfl, rfl, hide ⟨by have := Hrl.out.1; omega, by have := Hrl'.out; have := Hrl.out.2; omega⟩, hide ⟨HA.out.1, fun y hy => (HA.out.2.1 y hy).mono, HA.out.2.2⟩, hide ⟨fun y hy => ?_, fun y hy => ?_, fun he => ?_⟩, hide fun w' h' => HF.out w' h'.r, Hs0', hide ?_, Hun5, by omega, h16.cast (by ac_rfl)⟩
          · rw [← Hrs'.out] at hy
            rcases List.mem_append.1 hy with h | h
            · exact HB.out.1 y h
            · rw [List.mem_singleton.1 h]; exact Hgood.out
          · rw [← Hrs'.out] at hy
            rcases List.mem_append.1 hy with h | h
            · exact (HB.out.2.1 y h).mono
            · rw [List.mem_singleton.1 h]; exact fun w' h' => h'.rd
          · rw [← Hrs'.out] at he
            simp at he
          · have := Hs5.out
            rw [show (recCheck :: rs'.map (·.1)).length = rs'.length + 1 by simp] at this
            exact this
        case measure => simp [intOf]; omega
    · obtain rfl : i = n := by omega
      have hiz : ¬ ((i : Int) < (i : Int)) := by omega
      have hra20 : ra.length ≤ 20 := by have := Hrl.out.1; omega
      have hrb20 : rb.length ≤ 20 := by have := Hrl.out.2; omega
      have hfl := laneFlush_ok W wr _ P0 D 0 Hs0.out Hun2.out.1 (by omega) (h6.cast (show _ = lan P0 D 0 L2 * (dsk D m * (lan P1 D 1 L3 * (row 44 8 (.slice aa ra.length ca) ra.length (ra.flatMap RecV.cs) * (row 44 8 (.slice ab rb.length cb) rb.length (rb.flatMap RecV.cs) * F)))) by ac_rfl))
      clear h6
      go_wp2_with fail
      refine hfl.mono ?_
      rintro e w5 ⟨L5, m5, rfl, hs5, hg5, hb5, hLb5, hsm5, hun5, hwr5, h7⟩
      clear hfl
      have hs1 := Hs1.out.other hsm5 hs5.rest.wf (by decide)
      obtain ⟨hs5c, hun5c⟩ := hs5.crashed mask
      obtain ⟨hs1c, hun1c⟩ := hs1.crashed mask
      have hwc := (Dk.crash_at (mask := mask) hs5.rest.wf).2.2.2.1
      have hcr := diskCrash_any W w5 _ D m5 mask Hmask.out (by omega) h7.pull2
      have hwc2 : (m5.crash mask).writes ≤ 7000 := by omega
      have Hs5c := hide hs5c
      have Hs1c := hide hs1c
      have Hunc := hide (show (m5.crash mask).armd 0 = false ∧ (m5.crash mask).armd 1 = false from ⟨hun5c, hun1c⟩)
      generalize m5.crash mask = mc at *
      clear hs5 hs1 hs5c hun5c hs1c hun1c hwc hsm5 hun5 hwr5 h7 hLb5 hb5 hg5
      go_wp2_with fail
      refine hcr.mono ?_
      rintro e w6 ⟨rfl, h8⟩
      clear hcr
      have hop := laneOpen_st W w6 _ D 0 mc Hs5c.out Hunc.out.1 (by omega) h8
      rw [List.take_length] at hop
      change Calls _ _ #[_, .int .i64 0] _ _ at hop
      clear h8
      go_wp2_with fail
      refine hop.mono ?_
      rintro e w7 ⟨Q0, ae, ce, es, m6, rfl, hel, hes, hs6, hsm6, hun6, hwr6, h9⟩
      clear hop
      have hs1d := Hs1c.out.other hsm6 hs6.rest.wf (by decide)
      have hun1d : m6.armd 1 = false := (hsm6.armd 1 (by decide)).trans Hunc.out.2
      have hop := laneOpen_st W w7 _ D 1 m6 hs1d hun1d (by omega) (h9.cast (show _ = dsk D m6 * (row 52 9 (.slice ae es.length ce) es.length (es.flatMap EntV.cs) * (dirts es * (row 44 8 (.slice aa ra.length ca) ra.length (ra.flatMap RecV.cs) * (row 44 8 (.slice ab rb.length cb) rb.length (rb.flatMap RecV.cs) * (F * (lan Q0 D 0 _ * (lan P0 D 0 L5 * lan P1 D 1 L3))))))) by ac_rfl))
      rw [show (recCheck :: rb.map (·.1)).take (rb.length + 1) = recCheck :: rb.map (·.1) from List.take_of_length_le (by simp)] at hop
      change Calls _ _ #[_, .int .i64 1] _ _ at hop
      have hel' : es.length = ra.length + 1 := by rw [hel]; simp
      have Hel := hide hel'
      have Hes := hide hes
      have Hs6 := hide hs6
      clear h9 hel hel' hes hs6 hsm6 hs1d hun1d
      rw [Hel.out]
      go_wp2_with fail
      refine hop.mono ?_
      rintro e w8 ⟨Q1, ae2, ce2, es2, m7, rfl, hel2, hes2, hs7, hsm7, hun7, hwr7, h10⟩
      clear hop
      have h11 : At W (row 52 9 (.slice ae2 es2.length ce2) es2.length (es2.flatMap EntV.cs) * (dirts es2 * (row 52 9 (.slice ae es.length ce) es.length (es.flatMap EntV.cs) * (dirts es * (row 44 8 (.slice aa ra.length ca) ra.length (ra.flatMap RecV.cs) * (row 44 8 (.slice ab rb.length cb) rb.length (rb.flatMap RecV.cs) * F)))))) w8 := (h10.cast (show _ = (row 52 9 (.slice ae2 es2.length ce2) es2.length (es2.flatMap EntV.cs) * (dirts es2 * (row 52 9 (.slice ae es.length ce) es.length (es.flatMap EntV.cs) * (dirts es * (row 44 8 (.slice aa ra.length ca) ra.length (ra.flatMap RecV.cs) * (row 44 8 (.slice ab rb.length cb) rb.length (rb.flatMap RecV.cs) * F)))))) * (lan Q1 D 1 _ * (dsk D m7 * (lan Q0 D 0 _ * (lan P0 D 0 L5 * lan P1 D 1 L3)))) by ac_rfl)).l
      have hel2' : es2.length = rb.length + 1 := by rw [hel2]; simp
      have Hel2 := hide hel2'
      have Hes2 := hide hes2
      have Hs7 := hide hs7
      clear h10 hel2 hel2' hes2 hs7 hsm7
      rw [Hel2.out]
      obtain ⟨N, hN⟩ : ∃ N, w8.heap.size = N := ⟨_, rfl⟩
      have h12 : At W (cel N rvCheck.cs.toArray 44 * (row 52 9 (.slice ae2 es2.length ce2) es2.length (es2.flatMap EntV.cs) * (dirts es2 * (row 52 9 (.slice ae es.length ce) es.length (es.flatMap EntV.cs) * (dirts es * (row 44 8 (.slice aa ra.length ca) ra.length (ra.flatMap RecV.cs) * (row 44 8 (.slice ab rb.length cb) rb.length (rb.flatMap RecV.cs) * F))))))) (w8.alloc (.cells #[.int .i64 1, .int .i64 0, .int .i64 0, .int .i64 0, .string ⟨#[]⟩, .string ⟨#[]⟩, .string ⟨#[]⟩, .slice none 0 0] 44)) := h11.alloc' hN (.cells rvCheck.cs.toArray 44)
      have hNr : RecsIn W (cel N rvCheck.cs.toArray 44 * (row 52 9 (.slice ae2 es2.length ce2) es2.length (es2.flatMap EntV.cs) * (dirts es2 * (row 52 9 (.slice ae es.length ce) es.length (es.flatMap EntV.cs) * (dirts es * (row 44 8 (.slice aa ra.length ca) ra.length (ra.flatMap RecV.cs) * (row 44 8 (.slice ab rb.length cb) rb.length (rb.flatMap RecV.cs) * F))))))) (some ⟨N, 0, none⟩) [rvCheck] := recs_one rvCheck _ (rvCheck_dir _ _) (fun d hd => by simp [rvCheck, recCheck] at hd)
      have hra := ((((((RecsIn.of_row (a := aa) (c := ca) (rs := ra) rfl HA.out.1 (fun y hy => (HA.out.2.1 y hy).mono) h11.r.r.r.r).mono (B := dirts es)).mono (B := row 52 9 (.slice ae es.length ce) es.length (es.flatMap EntV.cs))).mono (B := dirts es2)).mono (B := row 52 9 (.slice ae2 es2.length ce2) es2.length (es2.flatMap EntV.cs))).mono (B := cel N rvCheck.cs.toArray 44))
      have hrb := (((((((RecsIn.of_row (a := ab) (c := cb) (rs := rb) rfl HB.out.1 HB.out.2.1 h11.r.r.r.r.r).mono (B := row 44 8 (.slice aa ra.length ca) ra.length (ra.flatMap RecV.cs))).mono (B := dirts es)).mono (B := row 52 9 (.slice ae es.length ce) es.length (es.flatMap EntV.cs))).mono (B := dirts es2)).mono (B := row 52 9 (.slice ae2 es2.length ce2) es2.length (es2.flatMap EntV.cs))).mono (B := cel N rvCheck.cs.toArray 44))
      have hE1 := (((EntsIn.of_row rfl h11.r.r).mono (B := dirts es2)).mono (B := row 52 9 (.slice ae2 es2.length ce2) es2.length (es2.flatMap EntV.cs))).mono (B := cel N rvCheck.cs.toArray 44)
      have hE2 := (EntsIn.of_row rfl h11).mono (B := cel N rvCheck.cs.toArray 44)
      have hbel := HF.out
      clear h11
      generalize hG : cel N rvCheck.cs.toArray 44 * (row 52 9 (.slice ae2 es2.length ce2) es2.length (es2.flatMap EntV.cs) * (dirts es2 * (row 52 9 (.slice ae es.length ce) es.length (es.flatMap EntV.cs) * (dirts es * (row 44 8 (.slice aa ra.length ca) ra.length (ra.flatMap RecV.cs) * (row 44 8 (.slice ab rb.length cb) rb.length (rb.flatMap RecV.cs) * F)))))) = GG at *
      have hGF : ∀ w', At W GG w' → Below W.heap.size W w' := fun w' h' => by
        rw [← hG] at h'
        exact (HF.out w' h'.r.r.r.r.r.r.r).below
      have HGF := hide hGF
      clear hG hGF hbel
      go_upto_region 27 with fail
      try rw [hN]
      generalize hW8 : w8.alloc _ = w9 at h12 ⊢
      clear hN hW8
      go_wp2_with (at_builtin; go_loud (refine wpList_append_full rfl (.tmp 117) (.tmp 118) 62 rfl i2 z2 Try.underlying62 Hi2.out hy0 hy2 hy3 hy1 (n := 1) (rs := [rvCheck]) rfl rfl h12 hNr (ys := ra) rfl HA.out.2.2 hra (by omega) ?_))
      intro a9 c9 w10 X h13 hR9
      have hcomm : 1 + ra.length = ra.length + 1 := Nat.add_comm ..
      rw [hcomm]
      have hst1 := lawStarts_any W w10 _ ae a9 ce c9 es (rvCheck :: ra) (by rw [Hel.out]; omega) (by rw [List.length_cons]; omega) (fun y hy => by
        have h1 : y.2.1 ∈ es.map (·.2.1) := List.mem_map.2 ⟨y, hy, rfl⟩
        rw [places_good Hes.out] at h1
        have := (Hs6.out.good _ h1).dirty
        omega) (hE1.mono (B := X)) hR9 h13
      have hres1 : startsB (es.map (·.2.1)) ((rvCheck :: ra).map (·.1)) = true := by
        rw [places_good Hes.out]
        exact startsB_self _
      rw [hres1, Hel.out] at hst1
      change Calls _ _ #[.slice ae (ra.length + 1) ce, .slice a9 (ra.length + 1) c9] _ _ at hst1
      clear h12
      go_wp2_with fail
      refine hst1.mono ?_
      rintro e w11 ⟨rfl, h14⟩
      clear hst1 h13 hR9 hcomm
      go_wp2_with (at_builtin; go_loud (refine wpList_append_full rfl (.tmp 125) (.tmp 126) 62 rfl i2 z2 Try.underlying62 Hi2.out hy0 hy2 hy3 hy1 (n := 1) (rs := [rvCheck]) rfl rfl h14 (hNr.mono (B := X)) (ys := rb) rfl HB.out.2.2 (hrb.mono (B := X)) (by omega) ?_))
      intro a10 c10 w12 Y h15 hR10
      have hcomm : 1 + rb.length = rb.length + 1 := Nat.add_comm ..
      rw [hcomm]
      have hst2 := lawStarts_any W w12 _ ae2 a10 ce2 c10 es2 (rvCheck :: rb) (by rw [Hel2.out]; omega) (by rw [List.length_cons]; omega) (fun y hy => by
        have h1 : y.2.1 ∈ es2.map (·.2.1) := List.mem_map.2 ⟨y, hy, rfl⟩
        rw [places_good Hes2.out] at h1
        have := (Hs7.out.good _ h1).dirty
        omega) ((hE2.mono (B := X)).mono (B := Y)) hR10 h15
      have hres2 : startsB (es2.map (·.2.1)) ((rvCheck :: rb).map (·.1)) = true := by
        rw [places_good Hes2.out]
        exact startsB_self _
      rw [hres2, Hel2.out] at hst2
      change Calls _ _ #[.slice ae2 (rb.length + 1) ce2, .slice a10 (rb.length + 1) c10] _ _ at hst2
      clear h14
      go_wp2_with fail
      refine hst2.mono ?_
      rintro e w13 ⟨rfl, h16⟩
      clear hst2 h15 hR10 hcomm
      have hfin := HGF.out w13 h16.r.r
      go_wp2_with fail
      go_ret
      exact ⟨rfl, hfin⟩
end Go.Proofs.Ytgkibjjcdcpkfaa
