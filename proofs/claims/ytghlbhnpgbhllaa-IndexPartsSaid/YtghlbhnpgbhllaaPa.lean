/-
  The statement IndexParts' walk. A contract, no statement.
-/
import Derived.Test.YtghlbhnpgbhllaaPl
namespace Go.Proofs.Ytghlbhnpgbhllaa
open Go Go.RowKit Go.Shelf
attribute [local go_sem] Oper.semAt_some

set_option maxRecDepth 100000 in
set_option maxHeartbeats 8000000 in
theorem parts_walk (W : World) (a : Option Addr) (n cap : Nat) (z : Nat → Cl) (mid : ByteArray) (t : Int) (hn : n ≤ 9223372036854775807) (hsz : ∀ i, (z i).i.k.size ≤ 140737488355328 ∧ (z i).i.v.size ≤ 140737488355328) (hz : Cls W a n z)
    (hm : mid.data.toList.length ≤ reachBytes) (_ht1 : -9223372036854775808 ≤ t) (_ht2 : t ≤ 9223372036854775807) :
    Calls Try.prog 3 #[.slice a n cap, .string mid, .int .i64 t] W fun e W' => e = .returned (.bool true) ∧ Below W.heap.size W W' := by
  have hmid : mid.size ≤ 140737488351232 := by
    have hr : reachBytes = 140737488351232 := rfl
    simp only [Array.length_toList] at hm
    show mid.data.size ≤ _
    omega
  refine (callsIn_wide (n := 9)).1 ?_
  refine callsIn_of_wp_marks Try.func3 rfl trivial (wpIn_wide.2 ?_)
  simp only [Try.ntmps3, List.size_toArray, List.length_cons, List.length_nil, Nat.reduceAdd, Nat.reduceSub, Array.replicate_succ, Array.replicate_zero, List.push_toArray, List.append_toArray, List.nil_append, List.cons_append]
  go_wp2_with fail
  obtain ⟨RB, hRB⟩ : ∃ N, W.heap.size = N := ⟨_, rfl⟩
  have h1 := (At.startR W).alloc' hRB (.cells #[.bool false] 4)
  have hfit := fit_any W _ _ h1
  rw [hRB]
  clear hm _ht1 _ht2
  refine hfit.mono ?_
  rintro e w1 ⟨rfl, h2⟩
  have hz2 := fun w' (h : At W (pt RB (.cells #[.bool false] 4) * (old W * 1)) w') => show Cls w' a n z from fun i hi => by
    obtain ⟨b, o, e, c0, c1, c2, c3, c4, c5⟩ := hz i hi
    exact ⟨b, o, e, h.pull2.old_cell c0, h.pull2.old_cell c1, h.pull2.old_cell c2, h.pull2.old_cell c3, h.pull2.old_cell c4, h.pull2.old_cell c5⟩
  have hli := light_any W _ _ a n cap z hn (fun i => by have := hsz i; omega) h2 hz2
  have Hz := hide hz
  have HRB := hide hRB
  clear hfit h1 hz hRB hsz hz2
  by_cases h50 : (50 : Int) < (mid.size : Int)
  · go_wp2_with fail
    refine hli.mono ?_
    rintro e w2 ⟨h4, hlr⟩
    rcases hlr with ⟨rfl, hl⟩ | rfl
    · clear hl
      have hr0 := At.cell (i := 0) h4 rfl
      have hrf := At.frz h4 0
      have hrl := At.lt h4
      go_wp2_with fail
      have h9 := At.set' (d := #[.bool true]) h4 0 (.bool true) rfl
      have hc := At.cell (i := 0) h9 rfl
      refine ⟨.bool true, ?_, rfl, h9.pull2.below⟩
      simp [results, Try.results3, go_sem, hc]
    · have hr0 := At.cell (i := 0) h4 rfl
      have hrf := At.frz h4 0
      have hrl := At.lt h4
      go_wp2_with fail
      have h9 := At.set' (d := #[.bool true]) h4 0 (.bool true) rfl
      have hc := At.cell (i := 0) h9 rfl
      refine ⟨.bool true, ?_, rfl, h9.pull2.below⟩
      simp [results, Try.results3, go_sem, hc]
  · go_wp2_with fail
    refine hli.mono ?_
    rintro e w2 ⟨h4, hlr⟩
    rcases hlr with ⟨rfl, hl⟩ | rfl
    · have hn120 := hl.1
      have Hl := hide hl.2
      clear hl hli h2
      have hr0 := At.cell (i := 0) h4 rfl
      have hrf := At.frz h4 0
      have hrl := At.lt h4
      obtain ⟨X, hX⟩ : ∃ N, w2.heap.size = N := ⟨_, rfl⟩
      have h5 := At.ixb_new (h4.alloc' hX (.cells #[.slice none 0 0] 27))
      go_wp2_with fail
      · have h9 := At.set' (d := #[.bool true]) h4 0 (.bool true) rfl
        have hc := At.cell (i := 0) h9 rfl
        refine ⟨.bool true, ?_, rfl, h9.pull2.below⟩
        simp [results, Try.results3, go_sem, hc]
      have hbg : mid.toList ≤ (⟨#[255, 255, 255, 255]⟩ : ByteArray).toList := by
        have hq : (mid.size : Int) ≤ 50 ∧ ((!Op.bytesLess mid.toList [255, 255]) = false ∨ (!mid.toList == [255, 255]) = false) := by assumption
        refine ff_le ?_
        rw [show (⟨#[255, 255]⟩ : ByteArray).toList = [255, 255] from by rw [ByteArray.toList_eq]]
        rcases hq.2 with h | h <;> simp at h <;> simp [h]
      have Hbig := hide hbg
      clear hX h4 hr0 hrf hrl hbg
      go_loopw [32] (fun i wr => ∃ k : Nat, k ≤ n ∧ i = .int .i64 k ∧ At W (ixb X (putN z k) * (cel RB #[.bool false] 4 * (old W * 1))) wr) (fun i _ => n - (intOf i).toNat)
      case atStart => exact ⟨0, Nat.zero_le _, rfl, h5⟩
      case round =>
        obtain ⟨k, hk, rfl, h6⟩ := hrel
        clear h5
        by_cases hkn : k < n
        · obtain ⟨b, o, rfl, c0, c1, c2, c3, c4, c5⟩ := Hz.out k hkn
          have d0 := h6.pull3.old_cell c0
          have d1 := h6.pull3.old_cell c1
          have d2 := h6.pull3.old_cell c2
          have d3 := h6.pull3.old_cell c3
          have d4 := h6.pull3.old_cell c4
          have d5 := h6.pull3.old_cell c5
          have hkz : (k : Int) < (n : Int) := by omega
          have hpl := putN_len z k
          have h7 := (h6.alloc (.cells #[.int .i64 (z k).k, .int .i64 (bits .and .i64 (z k).i.t 3), .string (z k).i.k, .string (z k).i.v, .int .i64 (z k).i.p, .int .i64 (z k).i.s] 33)).pull2
          have hpt := put_any W _ _ X (putN z k) (it3 (z k).i) (putN_sorted z k) (by omega) h7
          unfold it3 at hpt
          have Hpt := hide (show put (putN z k) ⟨bits .and .i64 (z k).i.t 3, (z k).i.k, (z k).i.v, (z k).i.p, (z k).i.s⟩ = putN z (k + 1) from rfl)
          clear c0 c1 c2 c3 c4 c5 h7
          generalize (z k).i.t = ct at *
          generalize (z k).i.k = ck at *
          generalize (z k).i.v = cv at *
          generalize (z k).i.p = cp at *
          generalize (z k).i.s = cs at *
          generalize (z k).k = cc at *
          go_wp2_with fail
          refine hpt.mono ?_
          rintro e w8 ⟨rfl, h8⟩
          rw [Hpt.out] at h8
          clear hpt d0 d1 d2 d3 d4 d5
          go_wp2_with fail
          go_roundw
          case rel => exact ⟨k + 1, by omega, by go_num, h8.pull2.r⟩
          case measure => simp [intOf]; omega
        · obtain rfl : n = k := by omega
          have hss := putN_sorted z n
          have hll := putN_len z n
          obtain ⟨i0, hi, hz0, hz1, hz2⟩ := info_parts Try.infoIt
          obtain ⟨LL, hLL⟩ : ∃ LL, putN z n = LL := ⟨_, rfl⟩
          rw [hLL] at hss hll h6
          have Hz9 := hide hLL
          clear hLL
          have hl120 : LL.length ≤ 120 := by omega
          obtain ⟨Lb, hLb⟩ : ∃ N, wr.heap.size = N := ⟨_, rfl⟩
          obtain ⟨Mb, hMb⟩ : ∃ N, wr.heap.size + 1 = N := ⟨_, rfl⟩
          have h7a := At.lsb_new ((h6.alloc' hLb (.cells #[.slice none 0 0] 25)).alloc' (show _ = Mb by simp [hMb]) (.cells #[.slice none 0 0] 25))
          have h7 := At.lsb_new h7a.pull2
          have HLb := hide hLb
          have HMb := hide hMb
          clear h6 h7a hLb hMb
          go_wp2_with fail
          rw [HMb.out, HLb.out]
          clear HMb HLb
          generalize bits .and .i64 t 3 = T
          have s1 := scan_le LL T ⟨#[]⟩ mid
          have s2 := scan_le LL T (mid ++ ⟨#[0]⟩) ⟨#[255, 255, 255, 255]⟩
          have s3 := scan_le LL T ⟨#[]⟩ ⟨#[255, 255, 255, 255]⟩
          have hsc1 := scan_any W _ _ (some X) T ⟨#[]⟩ mid h7
          simp only at hsc1
          refine hsc1.mono ?_
          rintro e v1 ⟨b1, b2, b3, b4, rfl, h81⟩
          clear hsc1 h7
          go_wp2_with fail
          have hon1 := scan_on W X b1 b2 b3 b4 LL T ⟨#[]⟩ mid hss (by omega)
          refine wpIn_wide.1 (wp_rangeFunc_on (n := 9) (w0 := W) rfl (enters_of Try.func22 (by kernel_rfl) rfl) hon1 (fun _ => rfl)
            (fun pre => lsb Lb (([] : List It) ++ pre)) (fun _ => fact False) (lsb Mb [] * (cel RB #[.bool false] 4 * (old W * 1))) (At.cast h81 (show _ = ((scb b1 b2 b3 b4 (some X) T ⟨#[]⟩ mid) * ixb X LL) * (lsb Lb [] * (lsb Mb [] * (cel RB #[.bool false] 4 * (old W * 1)))) by ac_rfl)) ?_ ?_ ?_)
          · intro l pre x B1 W1 hp hJ
            simp only [encIt]
            have hle := hp.length_le
            have Hle := hide (show (([] : List It) ++ pre).length ≤ 1000 by rw [List.length_append] at hle ⊢; simp only [List.length_append, List.length_cons, List.length_nil] at hle ⊢; omega)
            clear hle
            gi_wp2
            obtain ⟨O, hO⟩ : ∃ N, W1.heap.size = N := ⟨_, rfl⟩
            have hJ1 := (hJ.alloc' hO (.cells #[.int .i64 x.t, .string x.k, .string x.v, .int .i64 x.p, .int .i64 x.s] 31)).cast (show _ = (pt O (.cells #[.int .i64 x.t, .string x.k, .string x.v, .int .i64 x.p, .int .i64 x.s] 31) * (((scb b1 b2 b3 b4 (some X) T ⟨#[]⟩ mid) * ixb X LL) * lsb Lb (([] : List It) ++ pre))) * B1 by ac_rfl)
            rw [hO]
            clear hO
            refine ⟨_, hJ1, fun B2 W2 hJ2 => ?_⟩
            clear hJ hJ1 hp
            have h15 := hJ2.cast (show _ = lsb Lb (([] : List It) ++ pre) * (pt O (.cells #[.int .i64 x.t, .string x.k, .string x.v, .int .i64 x.p, .int .i64 x.s] 31) * (((scb b1 b2 b3 b4 (some X) T ⟨#[]⟩ mid) * ixb X LL) * B2)) by ac_rfl)
            have Hls := hide (show ([] : List It) ++ (pre ++ [x]) = (([] : List It) ++ pre) ++ [x] from (List.append_assoc _ _ _).symm)
            generalize ([] : List It) ++ pre = ls at h15 Hls Hle
            obtain ⟨a5, c5, h16⟩ := h15.lsb_open
            have hb0 := At.cell (i := 0) h16 rfl
            have hx0 := At.cell (i := 0) (b := O) h16.pull3 rfl
            have hx1 := At.cell (i := 1) (b := O) h16.pull3 rfl
            have hx2 := At.cell (i := 2) (b := O) h16.pull3 rfl
            have hx3 := At.cell (i := 3) (b := O) h16.pull3 rfl
            have hx4 := At.cell (i := 4) (b := O) h16.pull3 rfl
            have hlo := Hle.out
            clear hJ2 h15
            gi_wp2_with (gi_at_builtin; go_loud (refine wpListIn_append_row rfl _ _ _ rfl 31 i0 _ 5 56 Try.underlying25 hi hz0 hz1 hz2 rfl (by decide) _ _ _ rfl (h16.alloc (.cells #[.int .i64 x.t, .string x.k, .string x.v, .int .i64 x.p, .int .i64 x.s] 31)).pull3 _ 1 1 x.cells rfl rfl (fun j u hu => new_cells rfl j u hu) x.one (by unfold maxLen; omega) (by omega) ?_))
            intro a7 c7 W7 h17
            have hb1 := At.cell (i := 0) h17.pull3 rfl
            have hbf := At.frz h17.pull3 0
            have hbl := At.lt h17.pull3
            clear hb0 hx0 hx1 hx2 hx3 hx4 h16
            gi_wp2
            have h18 := h17.pull3.set' (d := #[.slice a7 (ls.length + 1) c7]) 0 (.slice a7 (ls.length + 1) c7) rfl
            have h19 := At.lsb_shut (l := ls ++ [x]) (v := .slice a7 (ls.length + 1) c7) (by rw [List.length_append, its_snoc]; exact h18.pull2.pull2)
            have h20 := h19.pull2.r.pull2.r
            show At W ((((scb b1 b2 b3 b4 (some X) T ⟨#[]⟩ mid) * ixb X LL) * lsb Lb (([] : List It) ++ (pre ++ [x]))) * B2) _
            rw [Hls.out]
            exact h20.cast (by ac_rfl)
          rotate_left
          · intro o D W1 hJ
            exact hJ.factl.1.elim
          intro D1 u1 h91
          have h11 := At.cast h91 (show _ = lsb Lb ([] ++ (scan LL T ⟨#[]⟩ mid)) * (lsb Mb [] * (ixb X LL * ((scb b1 b2 b3 b4 (some X) T ⟨#[]⟩ mid) * (pt D1 (.deferred (some [])) * (cel RB #[.bool false] 4 * (old W * 1)))))) by ac_rfl)
          clear h91 hon1
          have hsc2 := scan_any W _ _ (some X) T (mid ++ ⟨#[0]⟩) ⟨#[255, 255, 255, 255]⟩ h11
          simp only at hsc2
          go_wp2_with fail
          refine hsc2.mono ?_
          rintro e v2 ⟨d1, d2, d3, d4, rfl, h82⟩
          clear hsc2 h11
          go_wp2_with fail
          have hon2 := scan_on W X d1 d2 d3 d4 LL T (mid ++ ⟨#[0]⟩) ⟨#[255, 255, 255, 255]⟩ hss (by omega)
          refine wpIn_wide.1 (wp_rangeFunc_on (n := 9) (w0 := W) rfl (enters_of Try.func22 (by kernel_rfl) rfl) hon2 (fun _ => rfl)
            (fun pre => lsb Lb (([] ++ (scan LL T ⟨#[]⟩ mid)) ++ pre)) (fun _ => fact False) (pt D1 (.deferred (some [])) * ((scb b1 b2 b3 b4 (some X) T ⟨#[]⟩ mid) * (lsb Mb [] * (cel RB #[.bool false] 4 * (old W * 1))))) (At.cast h82 (show _ = ((scb d1 d2 d3 d4 (some X) T (mid ++ ⟨#[0]⟩) ⟨#[255, 255, 255, 255]⟩) * ixb X LL) * (lsb Lb ([] ++ (scan LL T ⟨#[]⟩ mid)) * (pt D1 (.deferred (some [])) * ((scb b1 b2 b3 b4 (some X) T ⟨#[]⟩ mid) * (lsb Mb [] * (cel RB #[.bool false] 4 * (old W * 1)))))) by ac_rfl) |>.cast (by rw [List.append_nil])) ?_ ?_ ?_)
          · intro l pre x B1 W1 hp hJ
            simp only [encIt]
            have hle := hp.length_le
            have Hle := hide (show (([] ++ (scan LL T ⟨#[]⟩ mid)) ++ pre).length ≤ 1000 by rw [List.length_append] at hle ⊢; simp only [List.length_append, List.length_cons, List.length_nil] at hle ⊢; omega)
            clear hle
            gi_wp2
            obtain ⟨O, hO⟩ : ∃ N, W1.heap.size = N := ⟨_, rfl⟩
            have hJ1 := (hJ.alloc' hO (.cells #[.int .i64 x.t, .string x.k, .string x.v, .int .i64 x.p, .int .i64 x.s] 31)).cast (show _ = (pt O (.cells #[.int .i64 x.t, .string x.k, .string x.v, .int .i64 x.p, .int .i64 x.s] 31) * (((scb d1 d2 d3 d4 (some X) T (mid ++ ⟨#[0]⟩) ⟨#[255, 255, 255, 255]⟩) * ixb X LL) * lsb Lb (([] ++ (scan LL T ⟨#[]⟩ mid)) ++ pre))) * B1 by ac_rfl)
            rw [hO]
            clear hO
            refine ⟨_, hJ1, fun B2 W2 hJ2 => ?_⟩
            clear hJ hJ1 hp
            have h15 := hJ2.cast (show _ = lsb Lb (([] ++ (scan LL T ⟨#[]⟩ mid)) ++ pre) * (pt O (.cells #[.int .i64 x.t, .string x.k, .string x.v, .int .i64 x.p, .int .i64 x.s] 31) * (((scb d1 d2 d3 d4 (some X) T (mid ++ ⟨#[0]⟩) ⟨#[255, 255, 255, 255]⟩) * ixb X LL) * B2)) by ac_rfl)
            have Hls := hide (show ([] ++ (scan LL T ⟨#[]⟩ mid)) ++ (pre ++ [x]) = (([] ++ (scan LL T ⟨#[]⟩ mid)) ++ pre) ++ [x] from (List.append_assoc _ _ _).symm)
            generalize ([] ++ (scan LL T ⟨#[]⟩ mid)) ++ pre = ls at h15 Hls Hle
            obtain ⟨a5, c5, h16⟩ := h15.lsb_open
            have hb0 := At.cell (i := 0) h16 rfl
            have hx0 := At.cell (i := 0) (b := O) h16.pull3 rfl
            have hx1 := At.cell (i := 1) (b := O) h16.pull3 rfl
            have hx2 := At.cell (i := 2) (b := O) h16.pull3 rfl
            have hx3 := At.cell (i := 3) (b := O) h16.pull3 rfl
            have hx4 := At.cell (i := 4) (b := O) h16.pull3 rfl
            have hlo := Hle.out
            clear hJ2 h15
            gi_wp2_with (gi_at_builtin; go_loud (refine wpListIn_append_row rfl _ _ _ rfl 31 i0 _ 5 56 Try.underlying25 hi hz0 hz1 hz2 rfl (by decide) _ _ _ rfl (h16.alloc (.cells #[.int .i64 x.t, .string x.k, .string x.v, .int .i64 x.p, .int .i64 x.s] 31)).pull3 _ 1 1 x.cells rfl rfl (fun j u hu => new_cells rfl j u hu) x.one (by unfold maxLen; omega) (by omega) ?_))
            intro a7 c7 W7 h17
            have hb1 := At.cell (i := 0) h17.pull3 rfl
            have hbf := At.frz h17.pull3 0
            have hbl := At.lt h17.pull3
            clear hb0 hx0 hx1 hx2 hx3 hx4 h16
            gi_wp2
            have h18 := h17.pull3.set' (d := #[.slice a7 (ls.length + 1) c7]) 0 (.slice a7 (ls.length + 1) c7) rfl
            have h19 := At.lsb_shut (l := ls ++ [x]) (v := .slice a7 (ls.length + 1) c7) (by rw [List.length_append, its_snoc]; exact h18.pull2.pull2)
            have h20 := h19.pull2.r.pull2.r
            show At W ((((scb d1 d2 d3 d4 (some X) T (mid ++ ⟨#[0]⟩) ⟨#[255, 255, 255, 255]⟩) * ixb X LL) * lsb Lb (([] ++ (scan LL T ⟨#[]⟩ mid)) ++ (pre ++ [x]))) * B2) _
            rw [Hls.out]
            exact h20.cast (by ac_rfl)
          rotate_left
          · intro o D W1 hJ
            exact hJ.factl.1.elim
          intro D2 u2 h92
          have h12 := At.cast h92 (show _ = lsb Lb (([] ++ (scan LL T ⟨#[]⟩ mid)) ++ (scan LL T (mid ++ ⟨#[0]⟩) ⟨#[255, 255, 255, 255]⟩)) * (lsb Mb [] * (ixb X LL * ((scb d1 d2 d3 d4 (some X) T (mid ++ ⟨#[0]⟩) ⟨#[255, 255, 255, 255]⟩) * ((scb b1 b2 b3 b4 (some X) T ⟨#[]⟩ mid) * (pt D2 (.deferred (some [])) * (pt D1 (.deferred (some [])) * (cel RB #[.bool false] 4 * (old W * 1)))))))) by ac_rfl)
          clear h92 hon2
          have hsc3 := scan_any W _ _ (some X) T ⟨#[]⟩ ⟨#[255, 255, 255, 255]⟩ h12
          simp only at hsc3
          go_wp2_with fail
          refine hsc3.mono ?_
          rintro e v3 ⟨f1, f2, f3, f4, rfl, h83⟩
          clear hsc3 h12
          go_wp2_with fail
          have hon3 := scan_on W X f1 f2 f3 f4 LL T ⟨#[]⟩ ⟨#[255, 255, 255, 255]⟩ hss (by omega)
          refine wpIn_wide.1 (wp_rangeFunc_on (n := 9) (w0 := W) rfl (enters_of Try.func22 (by kernel_rfl) rfl) hon3 (fun _ => rfl)
            (fun pre => lsb Mb (([] : List It) ++ pre)) (fun _ => fact False) (pt D2 (.deferred (some [])) * (pt D1 (.deferred (some [])) * ((scb d1 d2 d3 d4 (some X) T (mid ++ ⟨#[0]⟩) ⟨#[255, 255, 255, 255]⟩) * ((scb b1 b2 b3 b4 (some X) T ⟨#[]⟩ mid) * (lsb Lb (([] ++ (scan LL T ⟨#[]⟩ mid)) ++ (scan LL T (mid ++ ⟨#[0]⟩) ⟨#[255, 255, 255, 255]⟩)) * (cel RB #[.bool false] 4 * (old W * 1))))))) (At.cast h83 (show _ = ((scb f1 f2 f3 f4 (some X) T ⟨#[]⟩ ⟨#[255, 255, 255, 255]⟩) * ixb X LL) * (lsb Mb [] * (pt D2 (.deferred (some [])) * (pt D1 (.deferred (some [])) * ((scb d1 d2 d3 d4 (some X) T (mid ++ ⟨#[0]⟩) ⟨#[255, 255, 255, 255]⟩) * ((scb b1 b2 b3 b4 (some X) T ⟨#[]⟩ mid) * (lsb Lb (([] ++ (scan LL T ⟨#[]⟩ mid)) ++ (scan LL T (mid ++ ⟨#[0]⟩) ⟨#[255, 255, 255, 255]⟩)) * (cel RB #[.bool false] 4 * (old W * 1)))))))) by ac_rfl)) ?_ ?_ ?_)
          · intro l pre x B1 W1 hp hJ
            simp only [encIt]
            have hle := hp.length_le
            have Hle := hide (show (([] : List It) ++ pre).length ≤ 1000 by rw [List.length_append] at hle ⊢; simp only [List.length_append, List.length_cons, List.length_nil] at hle ⊢; omega)
            clear hle
            gi_wp2
            obtain ⟨O, hO⟩ : ∃ N, W1.heap.size = N := ⟨_, rfl⟩
            have hJ1 := (hJ.alloc' hO (.cells #[.int .i64 x.t, .string x.k, .string x.v, .int .i64 x.p, .int .i64 x.s] 31)).cast (show _ = (pt O (.cells #[.int .i64 x.t, .string x.k, .string x.v, .int .i64 x.p, .int .i64 x.s] 31) * (((scb f1 f2 f3 f4 (some X) T ⟨#[]⟩ ⟨#[255, 255, 255, 255]⟩) * ixb X LL) * lsb Mb (([] : List It) ++ pre))) * B1 by ac_rfl)
            rw [hO]
            clear hO
            refine ⟨_, hJ1, fun B2 W2 hJ2 => ?_⟩
            clear hJ hJ1 hp
            have h15 := hJ2.cast (show _ = lsb Mb (([] : List It) ++ pre) * (pt O (.cells #[.int .i64 x.t, .string x.k, .string x.v, .int .i64 x.p, .int .i64 x.s] 31) * (((scb f1 f2 f3 f4 (some X) T ⟨#[]⟩ ⟨#[255, 255, 255, 255]⟩) * ixb X LL) * B2)) by ac_rfl)
            have Hls := hide (show ([] : List It) ++ (pre ++ [x]) = (([] : List It) ++ pre) ++ [x] from (List.append_assoc _ _ _).symm)
            generalize ([] : List It) ++ pre = ls at h15 Hls Hle
            obtain ⟨a5, c5, h16⟩ := h15.lsb_open
            have hb0 := At.cell (i := 0) h16 rfl
            have hx0 := At.cell (i := 0) (b := O) h16.pull3 rfl
            have hx1 := At.cell (i := 1) (b := O) h16.pull3 rfl
            have hx2 := At.cell (i := 2) (b := O) h16.pull3 rfl
            have hx3 := At.cell (i := 3) (b := O) h16.pull3 rfl
            have hx4 := At.cell (i := 4) (b := O) h16.pull3 rfl
            have hlo := Hle.out
            clear hJ2 h15
            gi_wp2_with (gi_at_builtin; go_loud (refine wpListIn_append_row rfl _ _ _ rfl 31 i0 _ 5 56 Try.underlying25 hi hz0 hz1 hz2 rfl (by decide) _ _ _ rfl (h16.alloc (.cells #[.int .i64 x.t, .string x.k, .string x.v, .int .i64 x.p, .int .i64 x.s] 31)).pull3 _ 1 1 x.cells rfl rfl (fun j u hu => new_cells rfl j u hu) x.one (by unfold maxLen; omega) (by omega) ?_))
            intro a7 c7 W7 h17
            have hb1 := At.cell (i := 0) h17.pull3 rfl
            have hbf := At.frz h17.pull3 0
            have hbl := At.lt h17.pull3
            clear hb0 hx0 hx1 hx2 hx3 hx4 h16
            gi_wp2
            have h18 := h17.pull3.set' (d := #[.slice a7 (ls.length + 1) c7]) 0 (.slice a7 (ls.length + 1) c7) rfl
            have h19 := At.lsb_shut (l := ls ++ [x]) (v := .slice a7 (ls.length + 1) c7) (by rw [List.length_append, its_snoc]; exact h18.pull2.pull2)
            have h20 := h19.pull2.r.pull2.r
            show At W ((((scb f1 f2 f3 f4 (some X) T ⟨#[]⟩ ⟨#[255, 255, 255, 255]⟩) * ixb X LL) * lsb Mb (([] : List It) ++ (pre ++ [x]))) * B2) _
            rw [Hls.out]
            exact h20.cast (by ac_rfl)
          rotate_left
          · intro o D W1 hJ
            exact hJ.factl.1.elim
          intro D3 u3 h93
          have h13 := At.cast h93 (show _ = lsb Mb ([] ++ (scan LL T ⟨#[]⟩ ⟨#[255, 255, 255, 255]⟩)) * (lsb Lb (([] ++ (scan LL T ⟨#[]⟩ mid)) ++ (scan LL T (mid ++ ⟨#[0]⟩) ⟨#[255, 255, 255, 255]⟩)) * (ixb X LL * ((scb f1 f2 f3 f4 (some X) T ⟨#[]⟩ ⟨#[255, 255, 255, 255]⟩) * ((scb d1 d2 d3 d4 (some X) T (mid ++ ⟨#[0]⟩) ⟨#[255, 255, 255, 255]⟩) * ((scb b1 b2 b3 b4 (some X) T ⟨#[]⟩ mid) * (pt D3 (.deferred (some [])) * (pt D2 (.deferred (some [])) * (pt D1 (.deferred (some [])) * (cel RB #[.bool false] 4 * (old W * 1)))))))))) by ac_rfl)
          clear h93 hon3
          have hsc4 := scan_any W _ _ (some X) T (mid ++ ⟨#[97]⟩) mid h13
          simp only at hsc4
          go_wp2_with fail
          refine hsc4.mono ?_
          rintro e v4 ⟨g1, g2, g3, g4, rfl, h84⟩
          clear hsc4 h13
          go_wp2_with fail
          have hon4 := scan_on W X g1 g2 g3 g4 LL T (mid ++ ⟨#[97]⟩) mid hss (by omega)
          rw [scan_back hss] at hon4
          refine wpIn_wide.1 (wp_rangeFunc_on (n := 9) (w0 := W) rfl (enters_of Try.func22 (by kernel_rfl) rfl) hon4 (fun _ => rfl)
            (fun _ => lsb Mb ([] ++ (scan LL T ⟨#[]⟩ ⟨#[255, 255, 255, 255]⟩))) (fun _ => fact False) (pt D3 (.deferred (some [])) * (pt D2 (.deferred (some [])) * (pt D1 (.deferred (some [])) * ((scb f1 f2 f3 f4 (some X) T ⟨#[]⟩ ⟨#[255, 255, 255, 255]⟩) * ((scb d1 d2 d3 d4 (some X) T (mid ++ ⟨#[0]⟩) ⟨#[255, 255, 255, 255]⟩) * ((scb b1 b2 b3 b4 (some X) T ⟨#[]⟩ mid) * (lsb Lb (([] ++ (scan LL T ⟨#[]⟩ mid)) ++ (scan LL T (mid ++ ⟨#[0]⟩) ⟨#[255, 255, 255, 255]⟩)) * (cel RB #[.bool false] 4 * (old W * 1))))))))) (At.cast h84 (show _ = ((scb g1 g2 g3 g4 (some X) T (mid ++ ⟨#[97]⟩) mid) * ixb X LL) * (lsb Mb ([] ++ (scan LL T ⟨#[]⟩ ⟨#[255, 255, 255, 255]⟩)) * (pt D3 (.deferred (some [])) * (pt D2 (.deferred (some [])) * (pt D1 (.deferred (some [])) * ((scb f1 f2 f3 f4 (some X) T ⟨#[]⟩ ⟨#[255, 255, 255, 255]⟩) * ((scb d1 d2 d3 d4 (some X) T (mid ++ ⟨#[0]⟩) ⟨#[255, 255, 255, 255]⟩) * ((scb b1 b2 b3 b4 (some X) T ⟨#[]⟩ mid) * (lsb Lb (([] ++ (scan LL T ⟨#[]⟩ mid)) ++ (scan LL T (mid ++ ⟨#[0]⟩) ⟨#[255, 255, 255, 255]⟩)) * (cel RB #[.bool false] 4 * (old W * 1)))))))))) by ac_rfl)) ?_ ?_ ?_)
          · intro l pre x B1 W1 hp hJ
            exact absurd hp (by simp)
          rotate_left
          · intro o D W1 hJ
            exact hJ.factl.1.elim
          intro D4 u4 h94
          clear hon4
          have eL : (([] ++ (scan LL T ⟨#[]⟩ mid)) ++ (scan LL T (mid ++ ⟨#[0]⟩) ⟨#[255, 255, 255, 255]⟩)) = scan LL T ⟨#[]⟩ ⟨#[255, 255, 255, 255]⟩ := by rw [List.nil_append]; exact scan_parts hss T mid ⟨#[255, 255, 255, 255]⟩ Hbig.out
          have eM : ([] ++ (scan LL T ⟨#[]⟩ ⟨#[255, 255, 255, 255]⟩)) = scan LL T ⟨#[]⟩ ⟨#[255, 255, 255, 255]⟩ := List.nil_append _
          rw [eL, eM] at h94
          clear eL eM
          have h30 := At.cast h94 (show _ = lsb Lb (scan LL T ⟨#[]⟩ ⟨#[255, 255, 255, 255]⟩) * (lsb Mb (scan LL T ⟨#[]⟩ ⟨#[255, 255, 255, 255]⟩) * (cel RB #[.bool false] 4 * (pt D4 (.deferred (some [])) * (pt D3 (.deferred (some [])) * (pt D2 (.deferred (some [])) * (pt D1 (.deferred (some [])) * (ixb X LL * ((scb g1 g2 g3 g4 (some X) T (mid ++ ⟨#[97]⟩) mid) * ((scb f1 f2 f3 f4 (some X) T ⟨#[]⟩ ⟨#[255, 255, 255, 255]⟩) * ((scb d1 d2 d3 d4 (some X) T (mid ++ ⟨#[0]⟩) ⟨#[255, 255, 255, 255]⟩) * ((scb b1 b2 b3 b4 (some X) T ⟨#[]⟩ mid) * (old W * 1)))))))))))) by ac_rfl)
          clear h94
          obtain ⟨RS, hRS⟩ : ∃ RS, (cel RB #[.bool false] 4 * (pt D4 (.deferred (some [])) * (pt D3 (.deferred (some [])) * (pt D2 (.deferred (some [])) * (pt D1 (.deferred (some [])) * (ixb X LL * ((scb g1 g2 g3 g4 (some X) T (mid ++ ⟨#[97]⟩) mid) * ((scb f1 f2 f3 f4 (some X) T ⟨#[]⟩ ⟨#[255, 255, 255, 255]⟩) * ((scb d1 d2 d3 d4 (some X) T (mid ++ ⟨#[0]⟩) ⟨#[255, 255, 255, 255]⟩) * ((scb b1 b2 b3 b4 (some X) T ⟨#[]⟩ mid) * (old W * 1))))))))))) = RS := ⟨_, rfl⟩
          rw [hRS] at h30
          have HRS := hide hRS
          clear hRS
          have hz120 : (scan LL T ⟨#[]⟩ ⟨#[255, 255, 255, 255]⟩).length ≤ 120 := by omega
          generalize scan LL T ⟨#[]⟩ ⟨#[255, 255, 255, 255]⟩ = Z at h30 hz120
          clear s1 s2 s3
          obtain ⟨a1, c1, h31⟩ := h30.lsb_open
          obtain ⟨a2, c2, h32⟩ := h31.pull3.lsb_open
          have hm0 := At.cell (i := 0) h32 rfl
          have hl0 := At.cell (i := 0) h32.pull3 rfl
          clear h30 h31
          go_wp2_with fail
          clear hm0 hl0
          go_loopw [87] (fun i wr => ∃ j : Nat, j ≤ Z.length ∧ i = .int .i64 j ∧ At W (cel Mb #[.slice a2 Z.length c2] 25 * (row 31 5 (.slice a2 Z.length c2) Z.length (its Z) * (cel Lb #[.slice a1 Z.length c1] 25 * (row 31 5 (.slice a1 Z.length c1) Z.length (its Z) * RS)))) wr) (fun i _ => Z.length - (intOf i).toNat)
          case atStart => exact ⟨0, Nat.zero_le _, rfl, h32⟩
          case round =>
            obtain ⟨j, hj, rfl, h33⟩ := hrel
            clear h32
            have hm0 := At.cell (i := 0) h33 rfl
            have hl0 := At.cell (i := 0) h33.pull3 rfl
            by_cases hjz : j < Z.length
            · obtain ⟨p1, q1, e1, hle1, hcell1⟩ := h33.pull2.row_ptr (by omega)
              obtain ⟨p2, q2, e2, hle2, hcell2⟩ := h33.pull4.row_ptr (by omega)
              cases e1
              cases e2
              obtain ⟨y0, y1, y2, y3, y4⟩ := its_five hjz
              have c10 := hcell1 _ _ y0
              have c11 := hcell1 _ _ y1
              have c12 := hcell1 _ _ y2
              have c13 := hcell1 _ _ y3
              have c14 := hcell1 _ _ y4
              have c20 := hcell2 _ _ y0
              have c21 := hcell2 _ _ y1
              have c22 := hcell2 _ _ y2
              have c23 := hcell2 _ _ y3
              have c24 := hcell2 _ _ y4
              clear hcell1 hcell2 y0 y1 y2 y3 y4
              generalize Z[j] = x at *
              go_wp2_with fail
              refine wp_region_line [0, 1, 2, 3, 4, 5, 6, 7, 8] rfl (by kernel_rfl) ?_
              simp only [picks_cons, picks_nil, getD_zero, getD_succ]
              go_wp2_with fail
              refine ⟨by kernel_rfl, ?_⟩
              go_wp2_with fail
              go_roundw
              case rel => exact ⟨j + 1, by omega, by go_num, h33.drew⟩
              case measure => simp [intOf]; omega
            · obtain rfl : j = Z.length := by omega
              have h34 := h33.pull4.r.pull3.r.pull2.r
              have h35 := h33.r.r.r.r
              rw [← HRS.out] at h35
              have hr0 := At.cell (i := 0) h35 rfl
              have hrf := At.frz h35 0
              have hrl := At.lt h35
              clear h34
              go_wp2_with fail
              have h36 := At.set' (d := #[.bool true]) h35 0 (.bool true) rfl
              have h37 := h36.pull2
              refine ⟨by simp, .inl ⟨_, _, rfl, run_takeDeferred (At.blk h37), ?_⟩⟩
              have h38 := (At.putObj h37 (.deferred none)).pull3
              refine ⟨by simp, .inl ⟨_, _, rfl, run_takeDeferred (At.blk h38), ?_⟩⟩
              have h39 := (At.putObj h38 (.deferred none)).pull4
              refine ⟨by simp, .inl ⟨_, _, rfl, run_takeDeferred (At.blk h39), ?_⟩⟩
              have h40 := (At.putObj h39 (.deferred none)).pull5
              refine ⟨by simp, .inl ⟨_, _, rfl, run_takeDeferred (At.blk h40), ?_⟩⟩
              have h41 := At.putObj h40 (.deferred none)
              have hc := At.cell (i := 0) h41.pull5 rfl
              refine ⟨.bool true, ?_, rfl, ?_⟩
              · simp [results, Try.results3, go_sem, hc]
              · exact (h41.r.r.r.r.r.r.r.r.r.r).below
    · have hr0 := At.cell (i := 0) h4 rfl
      have hrf := At.frz h4 0
      have hrl := At.lt h4
      go_wp2_with fail
      have h9 := At.set' (d := #[.bool true]) h4 0 (.bool true) rfl
      have hc := At.cell (i := 0) h9 rfl
      refine ⟨.bool true, ?_, rfl, h9.pull2.below⟩
      simp [results, Try.results3, go_sem, hc]
end Go.Proofs.Ytghlbhnpgbhllaa
