/-
  LaneAgain: the law's walk: whatever comes in, it returns true. A contract, no statement.
-/
import Derived.Test.YtgkibjjcdcpkfaaRw
namespace Go.Proofs.Ytgkibjjcdcpkfaa
open Go Go.RowKit

theorem At.row_nil_cap {w0 w : World} {R : HP} {e : TypeId} {sz n c : Nat} {a : Option Addr} {xs : List Value} (h : At w0 (row e sz (.slice a n c) n xs * R) w) : a = none → c = 0 := by
  intro ha
  subst ha
  rcases h.row_cases.2 with ⟨h1, _⟩ | ⟨g, cap, cur, h1, _⟩
  · simp only [Value.slice.injEq] at h1
    exact h1.2.2
  · simp at h1
theorem SdV.In.of {w0 : World} {A B : HP} {x : SdV} (h : x.In w0 A) (hB : ∀ w', At w0 B w' → At w0 A w') : x.In w0 B := ⟨h.1, fun h0 w' h' => h.2 h0 w' (hB w' h')⟩
theorem encR_bound {l : List Rec} (h : ∀ x ∈ l, Good x) : (encR l).length ≤ l.length * 395 := by
  induction l with
  | nil => simp [encR]
  | cons x l ih =>
    rw [encR_cons, List.length_append, List.length_cons]
    have h1 := Rec.enc_le (h x List.mem_cons_self)
    have h2 := ih fun y hy => h y (List.mem_cons_of_mem _ hy)
    omega
/-- A region where there is no lane, in a disk of two. -/
structure Zr (m : Dk) : Prop where
  wf : m.Wf
  regs : m.regs.length = 2
  size : 514 ≤ m.size
  wts : m.wts 0 = []
  dat : m.dat 0 1 = zbys 64
theorem Zr.same {m m' : Dk} (h : Zr m) (hs : Same m m' 1) (hw : m'.Wf) : Zr m' :=
  ⟨hw, hs.regs.trans h.regs, by rw [hs.size]; exact h.size, (hs.wts 0 (by decide)).trans h.wts, (hs.dat 0 1 (by decide) (by rw [h.regs]; decide) (by have := h.size; omega)).trans h.dat⟩
theorem Zr.crash {m : Dk} (h : Zr m) (mask : Nat) : Zr (m.crash mask) := by
  obtain ⟨c1, c2, c3, c4, c5⟩ := Dk.crash_at (mask := mask) h.wf
  obtain ⟨c6, c7, c8⟩ := c5 0 (by rw [h.regs]; decide)
  refine ⟨c1, c2.trans h.regs, by rw [c3]; exact h.size, c6, ?_⟩
  rcases c8 1 (by have := h.size; omega) with h1 | h1
  · exact h1.trans h.dat
  · rw [h.wts] at h1
    cases h1
theorem Zr.opens {m : Dk} (h : Zr m) : m.opens 0 = (5, none, m) := by
  unfold Dk.opens
  simp only
  rw [Dk.sec_nil h.wts, h.dat, if_pos (by decide)]
theorem Good.dirty {r : Rec} (h : Good r) : r.dirty.length ≤ 6 := by
  have h := h.right
  unfold Rec.right at h
  simp only [Bool.and_eq_true, Bool.or_eq_true, beq_iff_eq] at h
  omega
theorem rvCheck_dir (w0 : World) (A : HP) : DirIn w0 A rvCheck := fun _ _ => .inl ⟨rfl, rfl⟩
theorem startsB_self (l : List Rec) : startsB l l = true := by
  unfold startsB
  rw [List.take_length]
  simp

set_option maxRecDepth 100000 in
set_option maxHeartbeats 16000000 in
theorem again_walk (W : World) (a : Option Addr) (cap : Nat) (ss : List SdV) (ma : Option Addr) (mc : Nat) (ms : List Nat) (hn : ss.length ≤ maxLen) (_hdl : ∀ x ∈ ss, x.1.dirty.length ≤ maxLen) (hss : SdsIn W (old W * 1) a ss) (hmn : ms.length ≤ maxLen) (hm64 : ∀ d ∈ ms, d < 2 ^ 64) (hms : 0 < ms.length → Rd W (.slice ma ms.length mc) (nus ms)) :
    Calls Try.prog 8 #[.slice a ss.length cap, .slice ma ms.length mc] W fun e W' => e = .returned (.bool true) ∧ Below W.heap.size W W' := by
  have hfit := lawFit_any W W _ (At.startR W)
  obtain ⟨n, hnn⟩ : ∃ n, ss.length = n := ⟨_, rfl⟩
  obtain ⟨k, hkk⟩ : ∃ k, ms.length = k := ⟨_, rfl⟩
  rw [hnn] at hn ⊢
  rw [hkk] at hmn hms ⊢
  unfold maxLen at hn hmn
  have Hn := hide hnn
  have Hk := hide hkk
  have Hss := hide hss
  have Hms := hide hms
  have Hm64 := hide hm64
  obtain ⟨i2, z2, hi2, hy0, hy1, hy2, hy3⟩ := info_wr Try.infoRec
  have Hi2 := hide hi2
  clear hnn hkk hss hms hm64 hi2 _hdl
  go_enter Try.func8, Try.ntmps8
  go_wp2_with fail
  refine hfit.mono ?_
  rintro e w1 ⟨rfl, h1⟩
  clear hfit
  by_cases hbig : 20 < n ∨ 20 < k
  · have hbel := h1.below
    rcases hbig with hb | hb
    · have hbz : 20 < (n : Int) := by omega
      clear hb
      go_wp2_with fail
      go_ret
      exact ⟨rfl, hbel⟩
    · have hbz : 20 < (k : Int) := by omega
      by_cases hb2 : 20 < n
      · have hbz2 : 20 < (n : Int) := by omega
        clear hb hb2
        go_wp2_with fail
        go_ret
        exact ⟨rfl, hbel⟩
      · have hbz2 : ¬ 20 < (n : Int) := by omega
        clear hb hb2
        go_wp2_with fail
        go_ret
        exact ⟨rfl, hbel⟩
  have hn20 : n ≤ 20 := by omega
  have hk20 : k ≤ 20 := by omega
  have hbz : ¬ 20 < (n : Int) := by omega
  have hbz2 : ¬ 20 < (k : Int) := by omega
  have hnew := diskNew_any W w1 _ 2 538 (by decide) (by decide) (by decide) (by decide) h1
  change Calls _ _ #[.int .i64 2, .int .i64 538] _ _ at hnew
  clear h1 hbig
  go_wp2_with fail
  refine hnew.mono ?_
  rintro e w2 ⟨D, rfl, h2⟩
  clear hnew
  have hN := Dk.new_at 2 538 1 (by decide)
  have hN0 := Dk.new_at 2 538 0 (by decide)
  have hln := laneNew_st W w2 _ D 1 (Dk.new 2 538) (Dk.new_wf (by decide) (by decide) (by decide)) (by decide) (by decide) hN.1 hN.2 (by decide) h2
  change Calls _ _ #[_, .int .i64 1] _ _ at hln
  have hn2 : (Dk.new 2 538).writes = 0 := rfl
  rw [hn2] at hln
  have hz0 : Zr (Dk.new 2 538) := ⟨Dk.new_wf (by decide) (by decide) (by decide), rfl, by decide, hN0.1, by
    unfold Dk.dat Dk.new
    simp only [List.getElem?_replicate]
    rfl⟩
  generalize Dk.new 2 538 = m0 at *
  clear h2 hn2 hN
  go_wp2_with fail
  refine hln.mono ?_
  rintro e w3 ⟨P, L, m1, rfl, hst, hg, hb, hsame, hun, hwr, h3⟩
  clear hln
  have Hz := hide (hz0.same hsame hst.rest.wf)
  have Hst := hide hst
  have Hun := hide hun
  have hwr' : m1.writes ≤ 520 := by omega
  clear hst hsame hun hN0 hz0 hb hwr
  go_wp2_with fail
  go_loopw [8, 37] (fun u8 u37 wr => ∃ (i : Nat) (rs : List RecV) (a8 : Option Addr) (c8 : Nat) (L : Ln) (F : HP), i ≤ n ∧ u37 = .int .i64 i ∧ u8 = .slice a8 rs.length c8 ∧ Hid (rs.length = i) ∧ Hid (GoodV rs ∧ (∀ y ∈ rs, DirIn W F y) ∧ ∀ w', At W F w' → At W (old W * 1) w') ∧
    Hid (LSt m1 1 L (recCheck :: rs.map (·.1)) 1) ∧ L.gen = 1 ∧ At W (lan P D 1 L * (dsk D m1 * (row 44 8 (.slice a8 rs.length c8) rs.length (rs.flatMap RecV.cs) * F))) wr) (fun _ u _ => n - (intOf u).toNat)
  case atStart =>
    exact ⟨0, [], none, 0, L, old W * 1, Nat.zero_le _, rfl, rfl, hide rfl, hide ⟨fun _ h => absurd h (by simp), fun _ h => absurd h (by simp), fun _ h => h⟩, Hst, hg, (h3.row_nil 44 8).cast (by
      show _ = lan P D 1 L * (dsk D m1 * (row _ 8 (.slice none 0 0) 0 [] * (old W * 1)))
      ac_rfl)⟩
  case round =>
    obtain ⟨i, rs, a8, c8, L2, F, hin, rfl, rfl, Hrl, HF, Hst2, hg2, h4⟩ := hrel
    clear h3 Hst hg
    by_cases hil : i < n
    · obtain ⟨s, hs⟩ : ∃ s, ss[i]'(by have := Hn.out; omega) = s := ⟨_, rfl⟩
      have hsm : s ∈ ss := by rw [← hs]; exact List.getElem_mem _
      have hsIn := Hss.out.2 s hsm
      obtain ⟨g, o, rfl, hcs⟩ := Hss.out.at (HF.out.2.2 _ h4.r.r.r) (i := i) (by have := Hn.out; omega)
      rw [hs] at hcs
      obtain ⟨dl, hdl⟩ : ∃ dl, s.1.dirty.length = dl := ⟨_, rfl⟩
      obtain ⟨B, hB⟩ : ∃ B, wr.heap.size = B := ⟨_, rfl⟩
      have h5 := h4.alloc' hB (.cells (List.toArray [.int .i64 0, .int .i64 0, .int .i64 0, .int .i64 0, .int .u8 0, .int .u8 0, .int .u8 0, .slice none 0 0]) 56)
      have Hs := hide hs
      have HsIn := hide hsIn
      have Hdl := hide hdl
      have hilz : (i : Int) < (n : Int) := by omega
      clear hs hsm hsIn hdl h4
      go_upto_region 10 with fail
      refine wp_region_lit ?_
      refine wpList_value rfl (v := .pointer (some ⟨g, o + i * 8, none⟩)) (by go_simp) ?_
      refine wpList_load_agg rfl (.tmp 39) 56 rfl _ Try.underlying56 rfl (ys := s.cs) (by rw [SdV.cs_len]; kernel_rfl) (g := g) (off := o + i * 8) (by go_simp) hcs ?_
      refine wpList_alloc_at rfl _ rfl (Try.zeroSeed wr) ?_
      rw [hB]
      refine wpList_store_at rfl (.tmp 10) (.tmp 40) _ rfl (g := B) (c := List.toArray [.int .i64 0, .int .i64 0, .int .i64 0, .int .i64 0, .int .u8 0, .int .u8 0, .int .u8 0, .slice none 0 0]) (ys := s.cs) (by go_simp) (by go_simp) (by rw [SdV.cs_len]; kernel_rfl) rfl s.one h5 ?_
      intro w5 h6
      have c7 : w5.cell? ⟨B, 7, none⟩ = some (.slice s.2.1 dl s.2.2) := by
        rw [← Hdl.out]
        exact At.cell h6 rfl
      clear h5 hcs hB
      by_cases hdb : 100 < dl
      · have hdz : 100 < (dl : Int) := by omega
        have hbel := (HF.out.2.2 _ h6.r.r.r.r).below
        clear hdb
        go_wp2_with fail
        go_ret
        exact ⟨rfl, hbel⟩
      have hdz : ¬ 100 < (dl : Int) := by omega
      have hgood := Sd.good HsIn.out.1
      have hxl := Sd.rcd_len (s := s.1)
      have hrc := fun (R : HP) w' (hR : ∀ w', At W R w' → At W (old W * 1) w') (h : At W R w') => seedRec_v W w' R s (HsIn.out.of hR) (by rw [Hdl.out]; omega) h
      obtain ⟨x, hx⟩ : ∃ x, s.1.rcd = x := ⟨_, rfl⟩
      rw [hx] at hrc hgood hxl
      change ∀ (R : HP) w' (hR : ∀ w', At W R w' → At W (old W * 1) w') (h : At W R w'), Calls _ _ _ _ (fun e w' => ∃ a1 c1, e = .returned (.agg #[.int .i64 x.kind, .int .i64 x.txn, .int .i64 x.page, .int .i64 x.slot, .string x.before, .string x.after, .string x.image, .slice a1 x.dirty.length c1]) ∧ At W (row 33 1 (.slice a1 x.dirty.length c1) x.dirty.length (nus x.dirty) * R) w') at hrc
      have Hrc := hide hrc
      have Hgood := hide hgood
      have hil2 : i ≤ 20 := by omega
      have hc1 := Hrc.out _ w5 (fun w' h' => HF.out.2.2 _ h'.r.r.r.r) h6
      clear hrc hgood hx hdb
      go_upto_region 13 with fail
      clear c7
      refine wp_region_lit ?_
      refine wpList_value rfl (v := .slice a8 rs.length c8) (by go_simp) ?_
      refine wpList_load_agg rfl (.tmp 10) 56 rfl _ Try.underlying56 rfl (ys := s.cs) (by rw [SdV.cs_len]; kernel_rfl) (g := B) (off := 0) (by go_simp) (fun j u hu => by rw [Nat.zero_add]; exact At.cell h6 (by simpa using hu)) ?_
      go_wp2_with fail
      refine hc1.mono ?_
      rintro e w6 ⟨a1, c1, rfl, h7⟩
      clear hc1 h6
      obtain ⟨N, hN⟩ : ∃ N, w6.heap.size = N := ⟨_, rfl⟩
      have h8 := (h7.alloc' hN (.cells #[.int .i64 x.kind, .int .i64 x.txn, .int .i64 x.page, .int .i64 x.slot, .string x.before, .string x.after, .string x.image, .slice a1 x.dirty.length c1] 44)).pull6
      have hnews : ∀ j u, (RecV.cs (x, a1, c1))[j]? = some u → (w6.alloc (.cells #[.int .i64 x.kind, .int .i64 x.txn, .int .i64 x.page, .int .i64 x.slot, .string x.before, .string x.after, .string x.image, .slice a1 x.dirty.length c1] 44)).cell? ((⟨N, 0, none⟩ : Addr).add j) = some u := fun j u hu => by
        rw [Addr.add_lit, Nat.zero_add]
        exact At.cell h8.pull2 (by simpa [RecV.cs, Rec.cells] using hu)
      have hrl20 : rs.length ≤ 20 := by rw [Hrl.out]; omega
      clear h7
      go_wp2_with (at_builtin; go_loud (refine wpList_append_rec1 rfl (.tmp 45) (.tmp 48) 62 rfl 44 i2 z2 Try.underlying62 Hi2.out hy0 hy2 hy3 hy1 (rs := rs) (y := (x, a1, c1)) rfl h8 (ad := ⟨N, 0, none⟩) (c := 1) (by rw [← hN]; rfl) hnews (by omega) ?_))
      intro a9 c9 w7 h9
      clear h8 hnews
      obtain ⟨rs', hrs'⟩ : ∃ rs', rs ++ [((x, a1, c1) : RecV)] = rs' := ⟨_, rfl⟩
      have hrl' : rs'.length = rs.length + 1 := by rw [← hrs']; simp
      have hfm' : rs'.flatMap RecV.cs = rs.flatMap RecV.cs ++ RecV.cs (x, a1, c1) := by rw [← hrs']; simp
      rw [← hrl', ← hfm'] at h9
      have h10 := (h9.cast (show _ = cel B s.cs.toArray 56 * (lan P D 1 L2 * (dsk D m1 * (row 44 8 (.slice a9 rs'.length c9) rs'.length (rs'.flatMap RecV.cs) * (row 33 1 (.slice a1 x.dirty.length c1) x.dirty.length (nus x.dirty) * F)))) * pt N (.cells #[.int .i64 x.kind, .int .i64 x.txn, .int .i64 x.page, .int .i64 x.slot, .string x.before, .string x.after, .string x.image, .slice a1 x.dirty.length c1] 44) by ac_rfl)).l
      have hc2 := Hrc.out _ w7 (fun w' h' => HF.out.2.2 _ h'.r.r.r.r.r) h10
      rw [← hrl']
      have Hrs' := hide hrs'
      have Hrl' := hide hrl'
      clear h9 hrs' hrl' hfm'
      go_upto_region 14 with fail
      refine wp_region_lit ?_
      refine wpList_value rfl (v := .pointer (some ⟨P, 0, none⟩)) (by go_simp) ?_
      refine wpList_load_agg rfl (.tmp 10) 56 rfl _ Try.underlying56 rfl (ys := s.cs) (by rw [SdV.cs_len]; kernel_rfl) (g := B) (off := 0) (by go_simp) (fun j u hu => by rw [Nat.zero_add]; exact At.cell h10 (by simpa using hu)) ?_
      go_wp2_with fail
      refine hc2.mono ?_
      rintro e w8 ⟨a2, c2, rfl, h11⟩
      clear hc2 h10
      have hap := laneAppend_ok W w8 _ P D 1 x a2 c2 Hst2.out Hgood.out (by
        have h1 := encR_bound Hst2.out.good
        have h2 := Rec.enc_le Hgood.out
        simp only [List.length_cons, List.length_map] at h1
        omega) (fun w' h' => h'.rd) h11.pull3
      change Calls _ _ #[_, .agg #[.int .i64 x.kind, .int .i64 x.txn, .int .i64 x.page, .int .i64 x.slot, .string x.before, .string x.after, .string x.image, .slice a2 x.dirty.length c2]] _ _ at hap
      generalize L2.gen * 1048576 + _ + 1 = pl at hap
      have hmap : (recCheck :: rs.map (·.1)) ++ [x] = recCheck :: rs'.map (·.1) := by rw [← Hrs'.out]; simp
      rw [hmap] at hap
      clear h11 hmap
      go_wp2_with fail
      refine hap.mono ?_
      rintro e w9 ⟨L3, rfl, hs3, hg3, hb3, h12⟩
      clear hap
      have Hs3 := hide hs3
      clear hs3 hb3
      go_wp2_with fail
      go_roundw
      case rel =>
        refine ⟨i + 1, rs', a9, c9, L3, row 33 1 (.slice a1 x.dirty.length c1) x.dirty.length (nus x.dirty) * F, by omega, by go_num, rfl, hide (by rw [Hrl'.out, Hrl.out]), hide ⟨fun y hy => ?_, fun y hy => ?_, fun w' h' => HF.out.2.2 w' h'.r⟩, Hs3, hg3.trans hg2, ?_⟩
        · rw [← Hrs'.out] at hy
          rcases List.mem_append.1 hy with h | h
          · exact HF.out.1 y h
          · rw [List.mem_singleton.1 h]; exact Hgood.out
        · rw [← Hrs'.out] at hy
          rcases List.mem_append.1 hy with h | h
          · exact (HF.out.2.1 y h).mono
          · rw [List.mem_singleton.1 h]; exact fun w' h' => h'.rd
        · exact h12.drop2.drop2
      case measure => simp [intOf]; omega
    · obtain rfl : i = n := by omega
      have hiz : ¬ ((i : Int) < (i : Int)) := by omega
      have hfl := laneFlush_ok W wr _ P D 1 Hst2.out Hun.out (by omega) h4
      obtain ⟨all, hall⟩ : ∃ all, recCheck :: rs.map (·.1) = all := ⟨_, rfl⟩
      rw [hall] at hfl
      have Hall := hide hall
      clear hall h4
      go_wp2_with fail
      refine hfl.mono ?_
      rintro e w5 ⟨L3, m2, rfl, hs3, hg3, hb3, hLb3, hsm, hun2, hwr2, h5⟩
      clear hfl
      have Hz2 := hide (Hz.out.same hsm hs3.rest.wf)
      have Hs3 := hide hs3
      have Hun2 := hide hun2
      have hwr3 : m2.writes ≤ 1000 := by omega
      have h6 := h5.r
      have hal : all.length = rs.length + 1 := by rw [← Hall.out]; simp
      have Hal := hide hal
      clear hs3 hun2 hsm hwr2 hb3 hLb3 h5 hal
      go_wp2_with fail
      go_loopw [60] (fun u60 wr => ∃ (q : Nat) (m : Dk) (L : Ln), q ≤ k ∧ u60 = .int .i64 q ∧ Hid (LSt m 1 L all all.length) ∧ Hid (m.armd 1 = false) ∧ Hid (Zr m) ∧ m.writes ≤ 1000 + 600 * q ∧ At W (dsk D m * (row 44 8 (.slice a8 rs.length c8) rs.length (rs.flatMap RecV.cs) * F)) wr) (fun u _ => k - (intOf u).toNat)
      case atStart => exact ⟨0, m2, L3, Nat.zero_le _, rfl, Hs3, Hun2, Hz2, by omega, h6⟩
      case round =>
        obtain ⟨q, m3, L4, hqk, rfl, Hs4, Hun4, Hz4, hwr4, h7⟩ := hrel
        clear h6 Hs3 Hun2 Hz2 hwr3 hg3
        by_cases hql : q < k
        · have hqz : (q : Int) < (k : Int) := by omega
          obtain ⟨g, o, hao, hc⟩ := ((Hms.out (by omega)).old (HF.out.2.2 _ h7.r.r)).get (by omega)
          subst hao
          obtain ⟨mk, hmk⟩ : ∃ mk, ms[q]'(by have := Hk.out; omega) = mk := ⟨_, rfl⟩
          have hcq := hc q (.int .u64 mk) (by
            unfold nus
            rw [List.getElem?_map, List.getElem?_eq_getElem (by have := Hk.out; omega), hmk]
            rfl)
          have hm64 : mk < 18446744073709551616 := by rw [← hmk]; exact Hm64.out _ (List.getElem_mem _)
          have hcr := diskCrash_any W wr _ D m3 mk hm64 (by omega) h7
          obtain ⟨hs5, hun5⟩ := Hs4.out.crashed mk
          have hw5 := (Dk.crash_at (mask := mk) Hs4.out.rest.wf).2.2.2.1
          have Hz5 := hide (Hz4.out.crash mk)
          have Hs5 := hide hs5
          have Hun5 := hide hun5
          have Hw5 := hide hw5
          clear hc hmk hs5 hun5 hw5 h7
          go_wp2_with fail
          refine hcr.mono ?_
          rintro e w6 ⟨rfl, h8⟩
          clear hcr hcq
          have hop := laneOpen_st W w6 _ D 1 (m3.crash mk) Hs5.out Hun5.out (by rw [Hw5.out]; omega) h8
          rw [List.take_length] at hop
          change Calls _ _ #[_, .int .i64 1] _ _ at hop
          clear h8
          go_wp2_with fail
          refine hop.mono ?_
          rintro e w7 ⟨P2, ae, ce, es, m4, rfl, hel, hes, hs6, hsm6, hun6, hwr6, h9⟩
          clear hop
          rw [Hw5.out] at hwr6
          have Hz6 := hide (Hz5.out.same hsm6 hs6.rest.wf)
          have Hs6 := hide hs6
          have Hun6 := hide hun6
          have hel2 : es.length = rs.length + 1 := by rw [hel, Hal.out]
          have Hel := hide hel2
          have Hes := hide hes
          clear hs6 hsm6 hun6 hel hes
          rw [hel2]
          clear hel2
          obtain ⟨N, hN⟩ : ∃ N, w7.heap.size = N := ⟨_, rfl⟩
          have h10 := h9.alloc' hN (.cells (RecV.cs rvCheck).toArray 44)
          have h11 : At W (row 44 8 (.slice (some ⟨N, 0, none⟩) [rvCheck].length 1) [rvCheck].length ([rvCheck].flatMap RecV.cs) * (lan P2 D 1 ⟨L4.gen, L4.bank, encR all, (encR all).length⟩ * (row 52 9 (.slice ae es.length ce) es.length (es.flatMap EntV.cs) * (dirts es * (dsk D m4 * (row 44 8 (.slice a8 rs.length c8) rs.length (rs.flatMap RecV.cs) * F)))))) (w7.alloc (.cells #[.int .i64 1, .int .i64 0, .int .i64 0, .int .i64 0, .string ⟨#[]⟩, .string ⟨#[]⟩, .string ⟨#[]⟩, .slice none 0 0] 44)) := At.mkrow (cap := 1) h10 (Nat.le_refl _) (by decide) (by decide) rfl
          have hcap := h9.pull5.row_nil_cap
          have hrr := RecsIn.of_row (a := a8) (c := c8) (rs := rs) rfl HF.out.1 HF.out.2.1 h9.r.r.r.r
          have hrr2 := (((hrr.mono (B := dsk D m4)).mono (B := dirts es)).mono (B := row 52 9 (.slice ae es.length ce) es.length (es.flatMap EntV.cs))).mono (B := lan P2 D 1 ⟨L4.gen, L4.bank, encR all, (encR all).length⟩)
          have hrl20 : rs.length ≤ 20 := by rw [Hrl.out]; omega
          clear h10 hrr h9
          go_wp2_with (at_builtin; go_loud (refine wpList_append_recs rfl (.tmp 86) (.tmp 87) 62 rfl 44 i2 z2 Try.underlying62 Hi2.out hy0 hy2 hy3 hy1 (rs := [rvCheck]) (by rw [← hN]; rfl) h11 (ys := rs) rfl hcap hrr2 (by simp only [List.length_cons, List.length_nil]; omega) ?_))
          intro a9 c9 w8 h12
          clear h11 hrr2
          have h13 : At W (row 44 8 (.slice a9 (rvCheck :: rs).length c9) (rvCheck :: rs).length ((rvCheck :: rs).flatMap RecV.cs) * (lan P2 D 1 ⟨L4.gen, L4.bank, encR all, (encR all).length⟩ * (row 52 9 (.slice ae es.length ce) es.length (es.flatMap EntV.cs) * (dirts es * (dsk D m4 * (row 44 8 (.slice a8 rs.length c8) rs.length (rs.flatMap RecV.cs) * F)))))) w8 := h12
          have hE := ((EntsIn.of_row rfl h13.r.r).mono (B := lan P2 D 1 ⟨L4.gen, L4.bank, encR all, (encR all).length⟩)).mono (B := row 44 8 (.slice a9 (rvCheck :: rs).length c9) (rvCheck :: rs).length ((rvCheck :: rs).flatMap RecV.cs))
          have hR := RecsIn.of_row (rs := rvCheck :: rs) rfl (fun y hy => by
            rcases List.mem_cons.1 hy with rfl | h
            · exact recCheck_good
            · exact HF.out.1 y h) (fun y hy => by
            rcases List.mem_cons.1 hy with rfl | h
            · exact rvCheck_dir _ _
            · exact (HF.out.2.1 y h).mono.mono.mono.mono.mono) h13
          have hst := lawStarts_any W w8 _ ae a9 ce c9 es (rvCheck :: rs) (by rw [Hel.out]; omega) (by rw [List.length_cons]; omega) (fun y hy => by
            have h1 : y.2.1 ∈ es.map (·.2.1) := List.mem_map.2 ⟨y, hy, rfl⟩
            rw [places_good Hes.out] at h1
            have := (Hs6.out.good _ h1).dirty
            omega) hE hR h13
          have hres : startsB (es.map (·.2.1)) ((rvCheck :: rs).map (·.1)) = true := by
            rw [places_good Hes.out, ← Hall.out]
            exact startsB_self _
          rw [hres, Hel.out] at hst
          change Calls _ _ #[.slice ae (rs.length + 1) ce, .slice a9 (rs.length + 1) c9] _ _ at hst
          clear hE hR hres h12 h13
          go_wp2_with fail
          refine hst.mono ?_
          rintro e w9 ⟨rfl, h14⟩
          clear hst
          have h15 := h14.r.r.r.r
          clear h14
          go_wp2_with fail
          go_roundw
          case rel => exact ⟨q + 1, m4, _, by omega, by go_num, Hs6, Hun6, Hz6, by omega, h15⟩
          case measure => simp [intOf]; omega
        · obtain rfl : q = k := by omega
          have hqz : ¬ ((q : Int) < (q : Int)) := by omega
          have hop := laneOpen_any W wr _ D 0 m3 (by rw [Hz4.out.regs]; decide) Hz4.out.size (by omega) h7
          rw [Hz4.out.opens] at hop
          change Calls _ _ #[_, .int .i64 0] _ (fun e w' => e = .returned (.tuple #[.pointer none, .slice none 0 0, .int .i64 5]) ∧ At W (dsk D m3 * (row 44 8 (.slice a8 rs.length c8) rs.length (rs.flatMap RecV.cs) * F)) w') at hop
          clear h7
          go_wp2_with fail
          refine hop.mono ?_
          rintro e w6 ⟨rfl, h8⟩
          clear hop
          have hbel := (HF.out.2.2 _ h8.r.r).below
          go_wp2_with fail
          go_ret
          exact ⟨rfl, hbel⟩
end Go.Proofs.Ytgkibjjcdcpkfaa
