/-
  The statement IndexScans' walk. A contract, no statement.
-/
import Derived.Test.YtghlbhnpgbhllaaPs
namespace Go.Proofs.Ytghlbhnpgbhllaa
open Go Go.RowKit Go.Shelf Go.Maps
attribute [local go_sem] Oper.semAt_some

set_option maxRecDepth 100000 in
set_option maxHeartbeats 8000000 in
theorem scans_walk (W : World) (a : Option Addr) (n cap : Nat) (z : Nat → Cl) (ea eb : ByteArray) (g0 g1 : Int) (hn : n ≤ 9223372036854775807) (hsz : ∀ i, (z i).i.k.size ≤ 140737488355328 ∧ (z i).i.v.size ≤ 140737488355328) (hz : Cls W a n z)
    (hea : ea.size ≤ 140737488355328) (heb : eb.size ≤ 140737488355328) :
    Calls Try.prog 7 #[.slice a n cap, .agg #[.string ea, .string eb], .agg #[.int .i64 g0, .int .i64 g1]] W fun e W' => e = .returned (.bool true) ∧ Below W.heap.size W W' := by
  refine (callsIn_wide (n := 9)).1 ?_
  refine callsIn_of_wp_marks Try.func7 rfl trivial (wpIn_wide.2 ?_)
  simp only [Try.ntmps7, List.size_toArray, List.length_cons, List.length_nil, Nat.reduceAdd, Nat.reduceSub, Array.replicate_succ, Array.replicate_zero, List.push_toArray, List.append_toArray, List.nil_append, List.cons_append]
  go_wp2_with fail
  obtain ⟨EB, hEB⟩ : ∃ N, W.heap.size = N := ⟨_, rfl⟩
  have h1 := (((At.startR W).alloc' hEB (.cells #[.string ea, .string eb] 46)).alloc' (show _ = EB + 1 by simp [hEB]) (.cells #[.int .i64 g0, .int .i64 g1] 47)).alloc' (show _ = EB + 1 + 1 by simp [hEB]) (.cells #[.bool false] 4)
  have hfit := fit_any W _ _ h1
  rw [hEB]
  generalize EB + 1 = HB at h1 hfit ⊢
  generalize HB + 1 = RB at h1 hfit ⊢
  refine hfit.mono ?_
  rintro e w1 ⟨rfl, h2⟩
  have hz2 := fun w' (h : At W (cel RB #[.bool false] 4 * (pt HB (.cells #[.int .i64 g0, .int .i64 g1] 47) * (pt EB (.cells #[.string ea, .string eb] 46) * (old W * 1)))) w') => show Cls w' a n z from fun i hi => by
    obtain ⟨b, o, e, c0, c1, c2, c3, c4, c5⟩ := hz i hi
    exact ⟨b, o, e, h.pull4.old_cell c0, h.pull4.old_cell c1, h.pull4.old_cell c2, h.pull4.old_cell c3, h.pull4.old_cell c4, h.pull4.old_cell c5⟩
  have hli := light_any W _ _ a n cap z hn (fun i => by have := hsz i; omega) h2 hz2
  have Hz := hide hz
  clear hfit h1 hz hEB hsz hz2
  go_wp2_with fail
  refine hli.mono ?_
  rintro e w2 ⟨h4, hlr⟩
  have x0 := At.cell (i := 0) h4.pull3 rfl
  have x1 := At.cell (i := 1) h4.pull3 rfl
  have hr0 := At.cell (i := 0) h4 rfl
  have hrf := At.frz h4 0
  have hrl := At.lt h4
  rcases hlr with ⟨rfl, hl⟩ | rfl
  · by_cases h100 : (100 : Int) < (ea.size : Int) + (eb.size : Int)
    · clear hli h2
      go_wp2_with fail
      have h9 := At.set' (d := #[.bool true]) h4 0 (.bool true) rfl
      have hc := At.cell (i := 0) h9 rfl
      refine ⟨.bool true, ?_, rfl, h9.pull4.below⟩
      simp [results, Try.results7, go_sem, hc]
    have hn120 := hl.1
    have hzk : ∀ q, q < n → (z q).i.k.size ≤ 100 := fun q hq => by
      have h0 : (z q).i.k.size + (z q).i.v.size ≤ 100 := hl.2 q hq
      omega
    have Hzk := hide hzk
    clear hl hli h2 hzk
    obtain ⟨X, hX⟩ : ∃ N, w2.heap.size = N := ⟨_, rfl⟩
    have h5a := At.ixb_new (h4.alloc' hX (.cells #[.slice none 0 0] 27))
    have h5 := At.mpi_new h5a
    rw [show (w2.alloc (.cells #[.slice none 0 0] 27)).heap.size = X + 1 by simp [hX]] at h5
    have hmm := @run_makeMap Try.prog
    have HX := hide hX
    clear hX h4 h5a
    go_wp2_with fail
    clear hmm
    try rw [HX.out]
    clear HX
    generalize X + 1 = M at h5 ⊢
    have h6 := h5.cast (show _ = ixb X (putN z 0) * (mpi M 0 (putN z 0) * (cel RB #[.bool false] 4 * (pt HB (.cells #[.int .i64 g0, .int .i64 g1] 47) * (pt EB (.cells #[.string ea, .string eb] 46) * (old W * 1))))) by
      show mpi M 0 [] * (ixb X [] * (cel RB _ _ * _)) = ixb X [] * (mpi M 0 [] * (cel RB _ _ * _))
      ac_rfl)
    clear h5
    clear x0 x1 hr0 hrf hrl
    go_loopw [39] (fun u wr => ∃ k nn : Nat, k ≤ n ∧ nn ≤ k ∧ u = .int .i64 k ∧ At W (ixb X (putN z k) * (mpi M nn (putN z k) * (cel RB #[.bool false] 4 * (pt HB (.cells #[.int .i64 g0, .int .i64 g1] 47) * (pt EB (.cells #[.string ea, .string eb] 46) * (old W * 1)))))) wr) (fun u _ => n - (intOf u).toNat)
    case atStart => exact ⟨0, 0, Nat.zero_le _, Nat.zero_le _, rfl, h6⟩
    case round =>
      obtain ⟨k, nn, hk, hnn, rfl, h7⟩ := hrel
      clear h6
      by_cases hkn : k < n
      · obtain ⟨b, o, rfl, c0, c1, c2, c3, c4, c5⟩ := Hz.out k hkn
        have d0 := h7.pull6.old_cell c0
        have d1 := h7.pull6.old_cell c1
        have d2 := h7.pull6.old_cell c2
        have d3 := h7.pull6.old_cell c3
        have d4 := h7.pull6.old_cell c4
        have d5 := h7.pull6.old_cell c5
        have hkz : (k : Int) < (n : Int) := by omega
        have hck := Hzk.out k hkn
        have hct := and3x (z k).i.t
        have hol := putN_len z k
        have hos := putN_sorted z k
        have Hin := hide (putN_in z k)
        have Hstep := hide (show putN z (k + 1) = put (putN z k) ⟨bits .and .i64 (z k).i.t 3, (z k).i.k, (z k).i.v, (z k).i.p, (z k).i.s⟩ from rfl)
        obtain ⟨C, hC⟩ : ∃ N, wr.heap.size = N := ⟨_, rfl⟩
        have h8 := (h7.alloc' hC (.cells #[.int .i64 (z k).k, .int .i64 (bits .and .i64 (z k).i.t 3), .string (z k).i.k, .string (z k).i.v, .int .i64 (z k).i.p, .int .i64 (z k).i.s] 33))
        have HC := hide hC
        clear c0 c1 c2 c3 c4 c5 hC h7
        obtain ⟨L1, hL1⟩ : ∃ L1, putN z (k + 1) = L1 := ⟨_, rfl⟩
        rw [hL1] at Hstep
        have HL1 := hide hL1
        clear hL1
        generalize putN z k = L at *
        generalize (z k).i.t = ct at *
        generalize (z k).i.k = ck at *
        generalize (z k).i.v = cv at *
        generalize (z k).i.p = cp2 at *
        generalize (z k).i.s = cs at *
        generalize (z k).k = cc at *
        have hput := put_any W _ _ X L ⟨bits .and .i64 ct 3, ck, cv, cp2, cs⟩ hos (by omega) h8.pull2
        simp only at hput
        go_wp2_with fail
        rw [HC.out]
        clear HC d0 d1 d2 d3 d4 d5
        refine hput.mono ?_
        rintro e w8 ⟨rfl, h9⟩
        generalize bits .and .i64 ct 3 = c3t at *
        have e1 : L1 = put L ⟨c3t, ck, cv, cp2, cs⟩ := Hstep.out
        rw [← e1] at h9
        clear hput h8
        have h10 := h9.pull2
        go_wp2_with fail
        have hS : ∀ w', At W (pt C (.cells #[.int .i64 cc, .int .i64 c3t, .string ck, .string cv, .int .i64 cp2, .int .i64 cs] 33) * (ixb X L1 * (mpi M nn L * (cel RB #[.bool false] 4 * (pt HB (.cells #[.int .i64 g0, .int .i64 g1] 47) * (pt EB (.cells #[.string ea, .string eb] 46) * (old W * 1))))))) w' → (w'.cell? ⟨C, 1, none⟩ = some (.int .i64 c3t) ∧ w'.cell? ⟨C, 2, none⟩ = some (.string ck) ∧ w'.cell? ⟨C, 3, none⟩ = some (.string cv) ∧ w'.cell? ⟨C, 4, none⟩ = some (.int .i64 cp2) ∧ w'.cell? ⟨C, 5, none⟩ = some (.int .i64 cs)) := fun w' h =>
          ⟨At.cell (i := 1) (b := C) h rfl, At.cell (i := 2) (b := C) h rfl, At.cell (i := 3) (b := C) h rfl, At.cell (i := 4) (b := C) h rfl, At.cell (i := 5) (b := C) h rfl⟩
        have hcall := fun (w1 : World) h => name_any W w1 (pt C (.cells #[.int .i64 cc, .int .i64 c3t, .string ck, .string cv, .int .i64 cp2, .int .i64 cs] 33) * (ixb X L1 * (mpi M nn L * (cel RB #[.bool false] 4 * (pt HB (.cells #[.int .i64 g0, .int .i64 g1] 47) * (pt EB (.cells #[.string ea, .string eb] 46) * (old W * 1))))))) ⟨c3t, ck, cv, cp2, cs⟩ hct (by show ck.size ≤ _; omega) h
        simp only at hcall
        refine wp_region_held_line 6 [6] (fun w' => At W (pt C (.cells #[.int .i64 cc, .int .i64 c3t, .string ck, .string cv, .int .i64 cp2, .int .i64 cs] 33) * (ixb X L1 * (mpi M nn L * (cel RB #[.bool false] 4 * (pt HB (.cells #[.int .i64 g0, .int .i64 g1] 47) * (pt EB (.cells #[.string ea, .string eb] 46) * (old W * 1))))))) w') rfl (by kernel_rfl) h10.drew ?_
        simp only [List.take_succ_cons, List.take_zero]
        refine held_read (.map (some M)) rfl (fun w' hw => ?_) ?_
        · go_simp
        refine held_read (.pointer (some ⟨C, 1, none⟩)) rfl (fun w' hw => ?_) ?_
        · go_simp
        refine held_read (.agg #[.int .i64 c3t, .string ck, .string cv, .int .i64 cp2, .int .i64 cs]) rfl (fun w' hw => ?_) ?_
        · obtain ⟨q1, q2, q3, q4, q5⟩ := hS w' hw
          go_simp
        refine held_call (.string (nmB ⟨c3t, ck, cv, cp2, cs⟩)) 14 #[.agg #[.int .i64 c3t, .string ck, .string cv, .int .i64 cp2, .int .i64 cs]] rfl (fun w' => by go_simp) (fun w' hw => hcall _ hw) ?_
        refine held_read (.pointer (some ⟨C, 1, none⟩)) rfl (fun w' hw => ?_) ?_
        · go_simp
        refine held_read (.agg #[.int .i64 c3t, .string ck, .string cv, .int .i64 cp2, .int .i64 cs]) rfl (fun w' hw => ?_) ?_
        · obtain ⟨q1, q2, q3, q4, q5⟩ := hS w' hw
          go_simp
        refine held_skip fun w5 h13 => ?_
        simp only [picks_cons, picks_nil, getD_zero, getD_succ]
        obtain ⟨w6, hrun, h14⟩ := mpi_store h13.pull3 ⟨c3t, ck, cv, cp2, cs⟩ (by show ck.size ≤ _; omega) hos hct Hin.out (by unfold maxLen; omega)
        rw [← e1] at h14
        unfold It.agg at hrun
        clear h9 h10 hS hcall h13
        refine wpList_mapUpdate_eq rfl _ _ _ _ rfl (.map (some M)) (.string (nmB ⟨c3t, ck, cv, cp2, cs⟩)) (.agg #[.int .i64 c3t, .string ck, .string cv, .int .i64 cp2, .int .i64 cs]) (by go_simp) (by go_simp) (by go_simp) hrun ?_
        go_wp2_with fail
        refine ⟨by kernel_rfl, ?_⟩
        go_wp2_with fail
        go_roundw
        case rel => exact ⟨k + 1, nn + 1, by omega, by omega, by go_num, by rw [HL1.out]; exact h14.pull2.r.pull2⟩
        case measure => simp [intOf]; omega
      · obtain rfl : n = k := by omega
        have hls := putN_sorted z n
        have hll := putN_len z n
        have hin := putN_in z n
        obtain ⟨L, hL⟩ : ∃ L, putN z n = L := ⟨_, rfl⟩
        rw [hL] at hls hll hin h7
        clear hL Hz
        have y0 := At.cell (i := 0) h7.pull4 rfl
        have y1 := At.cell (i := 1) h7.pull4 rfl
        go_wp2_with fail
        refine wp_region_line [0, 1, 2, 3, 4, 5, 6, 7, 8] rfl (by kernel_rfl) ?_
        simp only [picks_cons, picks_nil, getD_zero, getD_succ]
        go_wp2_with fail
        refine ⟨by kernel_rfl, ?_⟩
        obtain ⟨SB, hSB⟩ : ∃ N, wr.heap.size = N := ⟨_, rfl⟩
        have hst := and7x g1
        have h8 := (h7.alloc' hSB (.cells #[.int .i64 (bits .and .i64 g1 7)] 3)).drew
        have h9 := At.lsb_new (h8.alloc' (show _ = SB + 1 by simp [hSB]) (.cells #[.slice none 0 0] 25))
        have HSB := hide hSB
        clear hSB y0 y1 h7 h8
        rw [HSB.out]
        generalize bits .and .i64 g1 7 = st at *
        generalize bits .and .i64 g0 3 = T at *
        have hso := sorted_any W _ _ M nn L hls hin (by omega) h9.pull4
        go_wp2_with fail
        try rw [HSB.out]
        generalize SB + 1 = Wb at h9 hso ⊢
        refine hso.mono ?_
        rintro e w9 ⟨a5, c5, rfl, h12⟩
        have h13 := h12.pull2.r.pull6.r
        clear hso h9 h12 HSB hin
        go_wp2_with fail
        rw [show ([] : List It) = wnt st T ea eb (L.take 0) from (wnt_nil st T ea eb).symm] at h13
        go_loopw [70] (fun u wr => ∃ i : Nat, i ≤ L.length ∧ u = .int .i64 i ∧ At W (row 31 5 (.slice a5 L.length c5) L.length (its L) * (lsb Wb (wnt st T ea eb (L.take i)) * (cel SB #[.int .i64 st] 3 * (ixb X L * (cel RB #[.bool false] 4 * (pt EB (.cells #[.string ea, .string eb] 46) * (old W * 1))))))) wr) (fun u _ => L.length - (intOf u).toNat)
        case atStart => exact ⟨0, Nat.zero_le _, rfl, h13⟩
        case round =>
          obtain ⟨i, hi, rfl, h14⟩ := hrel
          clear h13
          by_cases hil : i < L.length
          · obtain ⟨g, cq, q1, hle1, hcell1⟩ := h14.row_ptr (by omega)
            cases q1
            obtain ⟨f0, f1, f2, f3, f4⟩ := its_five hil
            have HY := hide (fun a b => wnt_yes (st := st) (t := T) (frm := ea) (to := eb) hil a b)
            have HN := hide (fun a => wnt_no (st := st) (t := T) (frm := ea) (to := eb) hil a)
            have HF := hide (fun a => wnt_full (st := st) (t := T) (frm := ea) (to := eb) hil a)
            have hwl := wnt_len st T ea eb (L.take i)
            rw [List.length_take] at hwl
            obtain ⟨P, hP⟩ : ∃ P, L[i] = P := ⟨_, rfl⟩
            rw [hP] at f0 f1 f2 f3 f4 HY HN
            obtain ⟨Wl, hWl⟩ : ∃ Wl, wnt st T ea eb (L.take i) = Wl := ⟨_, rfl⟩
            rw [hWl] at h14 HY HN HF hwl
            clear hP hWl
            have d0 := hcell1 _ _ f0
            have d1 := hcell1 _ _ f1
            have d2 := hcell1 _ _ f2
            have d3 := hcell1 _ _ f3
            have d4 := hcell1 _ _ f4
            have hilz : (i : Int) < (L.length : Int) := by omega
            obtain ⟨O, hO⟩ : ∃ N, wr.heap.size = N := ⟨_, rfl⟩
            have h15 := h14.alloc' hO (.cells #[.int .i64 P.t, .string P.k, .string P.v, .int .i64 P.p, .int .i64 P.s] 31)
            have HO := hide hO
            obtain ⟨a6, c6, h16⟩ := h15.pull3.lsb_open
            have k0 := At.cell (i := 0) (b := O) h15 rfl
            have k1 := At.cell (i := 1) (b := O) h15 rfl
            have k2 := At.cell (i := 2) (b := O) h15 rfl
            have k3 := At.cell (i := 3) (b := O) h15 rfl
            have k4 := At.cell (i := 4) (b := O) h15 rfl
            have m0 := At.cell (i := 0) h15.pull4 rfl
            have m1 := At.cell (i := 0) h15.pull7 rfl
            have m2 := At.cell (i := 1) h15.pull7 rfl
            have m3 := At.cell (i := 0) h16 rfl
            clear hO f0 f1 f2 f3 f4 hcell1
            obtain ⟨i0, hi0, hz0, hz1, hz2⟩ := info_parts Try.infoIt
            cases hc1 : (P.t == T) with
            | false =>
              have ho : okB T ea eb P = false := by unfold okB; rw [hc1, Bool.false_and]
              clear h16
              go_wp2_with fail
              go_roundw
              case rel => exact ⟨i + 1, by omega, by go_num, by rw [HN.out ho]; exact h15.r⟩
              case measure => simp [intOf]; omega
            | true =>
            cases hc2 : Op.bytesLess P.k.toList ea.toList with
            | true =>
              have ho : okB T ea eb P = false := by unfold okB; rw [hc2, Bool.not_true, Bool.false_and, Bool.and_false]
              clear h16
              go_wp2_with fail
              go_roundw
              case rel => exact ⟨i + 1, by omega, by go_num, by rw [HN.out ho]; exact h15.r⟩
              case measure => simp [intOf]; omega
            | false =>
            cases hc3 : (Op.bytesLess P.k.toList eb.toList || P.k.toList == eb.toList) with
            | false =>
              have ho : okB T ea eb P = false := by unfold okB leB; rw [hc3, Bool.and_false, Bool.and_false]
              clear h16
              go_wp2_with fail
              go_roundw
              case rel => exact ⟨i + 1, by omega, by go_num, by rw [HN.out ho]; exact h15.r⟩
              case measure => simp [intOf]; omega
            | true =>
            have ho : okB T ea eb P = true := by unfold okB leB; rw [hc1, hc2, hc3]; rfl
            cases hc4 : decide ((Wl.length : Int) < st) with
            | false =>
              have hof := of_decide_eq_false hc4
              clear h16
              go_wp2_with fail
              go_roundw
              case rel => exact ⟨i + 1, by omega, by go_num, by rw [HF.out hof]; exact h15.r⟩
              case measure => simp [intOf]; omega
            | true =>
              have HYY := hide (HY.out ho (of_decide_eq_true hc4))
              clear HY HN HF ho
              go_wp2_with (at_builtin; go_loud (refine wpList_append_row rfl _ _ _ rfl 31 i0 _ 5 56 Try.underlying25 hi0 hz0 hz1 hz2 rfl (by decide) _ _ _ rfl (h16.alloc (.cells #[.int .i64 P.t, .string P.k, .string P.v, .int .i64 P.p, .int .i64 P.s] 31)).pull3 _ 1 1 P.cells rfl rfl (fun j u hu => new_cells (w := wr.alloc _) (by simp) j u hu) P.one (by unfold maxLen; omega) (by omega) ?_))
              intro a7 c7 w7 h17
              have hb1 := At.cell (i := 0) h17.pull3 rfl
              have hbf := At.frz h17.pull3 0
              have hbl := At.lt h17.pull3
              clear k0 k1 k2 k3 k4 m0 m1 m2 m3 h16
              go_wp2_with fail
              have h18 := h17.pull3.set' (d := #[.slice a7 (Wl.length + 1) c7]) 0 (.slice a7 (Wl.length + 1) c7) rfl
              have h19 := At.lsb_shut (l := Wl ++ [P]) (v := .slice a7 (Wl.length + 1) c7) (by rw [List.length_append, its_snoc]; exact h18.pull2.pull2)
              go_roundw
              case rel => exact ⟨i + 1, by omega, by go_num, by rw [HYY.out]; exact (h19.pull2.r.pull2.r).pull2⟩
              case measure => simp [intOf]; omega
          · obtain rfl : i = L.length := by omega
            rw [List.take_length] at h14
            have HG := hide (fun j hj a => wnt_get (st := st) (t := T) (frm := ea) (to := eb) (j := j) hls hj a)
            have HA := hide (fun a => wnt_all (st := st) (t := T) (frm := ea) (to := eb) hls a)
            have HB9 := hide (fun a => wnt_stop (st := st) (t := T) (frm := ea) (to := eb) hls hst.1 a)
            have hwl := wnt_len st T ea eb L
            generalize wnt st T ea eb L = Wn at *
            obtain ⟨Mo, hMo⟩ : ∃ N, wr.heap.size = N := ⟨_, rfl⟩
            have h16 := h14.r.alloc' hMo (.cells #[.int .i64 0] 3)
            have x0 := At.cell (i := 0) h16.pull6 rfl
            have x1 := At.cell (i := 1) h16.pull6 rfl
            have HMo := hide hMo
            clear h14 hMo
            have hsc := scan_any W _ _ (some X) T ea eb h16
            simp only at hsc
            go_wp2_with fail
            rw [HMo.out]
            refine hsc.mono ?_
            rintro e v1 ⟨b1, b2, b3, b4, rfl, h81⟩
            clear hsc h16 x0 x1 HMo
            go_wp2_with fail
            have hon := scan_on W X b1 b2 b3 b4 L T ea eb hls (by omega)
            have hscl := scan_le L T ea eb
            refine wpIn_wide.1 (wp_rangeFunc_on (n := 9) (w0 := W) rfl (enters_of Try.func22 (by kernel_rfl) rfl) hon (fun _ => rfl)
              (fun pre => fact ((pre.length : Int) ≤ st) * (cel Mo #[.int .i64 (pre.length : Int)] 3 * (lsb Wb Wn * cel SB #[.int .i64 st] 3))) (fun o => fact (o = some 4) * (cel Mo #[.int .i64 (Wn.length : Int)] 3 * lsb Wb Wn)) (cel RB #[.bool false] 4 * (pt EB (.cells #[.string ea, .string eb] 46) * (old W * 1)))
              ((At.mkfact (show ((([] : List It).length : Nat) : Int) ≤ st from hst.1) h81).cast (show _ = (scb b1 b2 b3 b4 (some X) T ea eb * ixb X L) * ((fact ((([] : List It).length : Int) ≤ st) * (cel Mo #[.int .i64 0] 3 * (lsb Wb Wn * cel SB #[.int .i64 st] 3))) * (cel RB #[.bool false] 4 * (pt EB (.cells #[.string ea, .string eb] 46) * (old W * 1)))) by
              show fact _ * (scb _ _ _ _ _ _ _ _ * (cel Mo _ _ * _)) = _
              ac_rfl)) ?_ ?_ ?_)
            · intro l pre x B1 W1 hp hJ
              simp only [encIt]
              obtain ⟨hpl, hpx⟩ := pre_get hp
              obtain ⟨hle, hJ⟩ := (hJ.cast (show _ = fact ((pre.length : Int) ≤ st) * ((scb b1 b2 b3 b4 (some X) T ea eb * ixb X L) * (cel Mo #[.int .i64 (pre.length : Int)] 3 * (lsb Wb Wn * (cel SB #[.int .i64 st] 3 * B1)))) by ac_rfl)).factl
              have Hle := hide hle
              clear hle h81
              gi_wp2
              obtain ⟨O, hO⟩ : ∃ N, W1.heap.size = N := ⟨_, rfl⟩
              have hJ1 := (hJ.alloc' hO (.cells #[.int .i64 x.t, .string x.k, .string x.v, .int .i64 x.p, .int .i64 x.s] 31)).cast (show _ = (pt O (.cells #[.int .i64 x.t, .string x.k, .string x.v, .int .i64 x.p, .int .i64 x.s] 31) * ((scb b1 b2 b3 b4 (some X) T ea eb * ixb X L) * (cel Mo #[.int .i64 (pre.length : Int)] 3 * (lsb Wb Wn * cel SB #[.int .i64 st] 3)))) * B1 by ac_rfl)
              rw [hO]
              clear hO
              refine ⟨_, hJ1, fun B2 W2 hJ2 => ?_⟩
              clear hJ hJ1 hp
              have h15 := hJ2.cast (show _ = lsb Wb Wn * (cel Mo #[.int .i64 (pre.length : Int)] 3 * (pt O (.cells #[.int .i64 x.t, .string x.k, .string x.v, .int .i64 x.p, .int .i64 x.s] 31) * (cel SB #[.int .i64 st] 3 * ((scb b1 b2 b3 b4 (some X) T ea eb * ixb X L) * B2)))) by ac_rfl)
              obtain ⟨a6, c6, h16⟩ := h15.lsb_open
              have hb0 := At.cell (i := 0) h16 rfl
              have hm0 := At.cell (i := 0) h16.pull3 rfl
              have hmf := At.frz h16.pull3 0
              have hml := At.lt h16.pull3
              have hx0 := At.cell (i := 0) (b := O) h16.pull4 rfl
              have hx1 := At.cell (i := 1) (b := O) h16.pull4 rfl
              have hx2 := At.cell (i := 2) (b := O) h16.pull4 rfl
              have hx3 := At.cell (i := 3) (b := O) h16.pull4 rfl
              have hx4 := At.cell (i := 4) (b := O) h16.pull4 rfl
              have hs0 := At.cell (i := 0) (b := SB) h16.pull5 rfl
              cases hsp : ((pre.length : Int) == st) with
              | true =>
                clear h16
                gi_wp2
                have hes : (pre.length : Int) = st := by simpa using hsp
                have hw := HB9.out (by omega)
                show At W ((fact (some 4 = some 4) * (cel Mo #[.int .i64 (Wn.length : Int)] 3 * lsb Wb Wn)) * B2) _
                rw [show (pre.length : Int) = (Wn.length : Int) by omega] at h15
                exact (At.mkfact (show some (4 : Nat) = some 4 from rfl) h15.pull3.r.pull3.r.pull3.r).cast (by ac_rfl)
              | false =>
                have hns : (pre.length : Int) ≠ st := by simpa using hsp
                have hlo := Hle.out
                obtain ⟨hjw, hjx⟩ := HG.out pre.length hpl (by omega)
                rw [hpx] at hjx
                obtain ⟨p1, q1, e1, hle1, hcell1⟩ := h16.pull2.row_ptr (by omega)
                cases e1
                obtain ⟨y0, y1, y2, y3, y4⟩ := its_five hjw
                rw [hjx] at y0 y1 y2 y3 y4
                have c10 := hcell1 _ _ y0
                have c11 := hcell1 _ _ y1
                have c12 := hcell1 _ _ y2
                have c13 := hcell1 _ _ y3
                have c14 := hcell1 _ _ y4
                have hne : ((pre.length : Int) == (Wn.length : Int)) = false := by rw [beq_eq_false_iff_ne]; omega
                clear hcell1 y0 y1 y2 y3 y4 hpx hjx hJ2 h16
                gi_wp2
                refine wpIn_region_line [0, 1, 2, 3, 4, 5, 6, 7, 8, 9, 10, 11] rfl (by kernel_rfl) rfl ?_
                simp only [picks_cons, picks_nil, getD_zero, getD_succ]
                go_wp2_with fail
                refine ⟨by kernel_rfl, ?_⟩
                gi_wp2
                have h17 := (h15.pull2.drew.set' (d := #[.int .i64 ((pre.length : Int) + 1)]) 0 (.int .i64 ((pre.length : Int) + 1)) rfl)
                show At W (((scb b1 b2 b3 b4 (some X) T ea eb * ixb X L) * (fact (((pre ++ [x]).length : Int) ≤ st) * (cel Mo #[.int .i64 ((pre ++ [x]).length : Int)] 3 * (lsb Wb Wn * cel SB #[.int .i64 st] 3)))) * B2) _
                rw [List.length_append, List.length_singleton, show (((pre.length + 1 : Nat) : Int)) = (pre.length : Int) + 1 by omega]
                exact (At.mkfact (show (pre.length : Int) + 1 ≤ st by omega) h17.pull3.r).cast (by ac_rfl)
            · intro D1 u1 h93
              clear h81 hon
              obtain ⟨hle, h93⟩ := (h93.cast (show _ = fact (((scan L T ea eb).length : Int) ≤ st) * ((scb b1 b2 b3 b4 (some X) T ea eb * ixb X L) * (cel SB #[.int .i64 st] 3 * (pt EB (.cells #[.string ea, .string eb] 46) * (lsb Wb Wn * (cel Mo #[.int .i64 ((scan L T ea eb).length : Int)] 3 * (cel RB #[.bool false] 4 * (pt D1 (.deferred (some [])) * (old W * 1)))))))) by ac_rfl)).factl
              have h94 := h93.r.r.r
              rw [← HA.out hle] at h94
              clear h93 hle
              have hs2 := scan_any W _ _ none 0 ⟨#[]⟩ ⟨#[122]⟩ h94
              simp only at hs2
              go_wp2_with fail
              refine hs2.mono ?_
              rintro e v2 ⟨d1, d2, d3, d4, rfl, h82⟩
              clear hs2 h94
              go_wp2_with fail
              have hon2 := scan_none_on W d1 d2 d3 d4 0 ⟨#[]⟩ ⟨#[122]⟩
              refine wpIn_wide.1 (wp_rangeFunc_on (n := 9) (w0 := W) rfl (enters_of Try.func22 (by kernel_rfl) rfl) hon2 (fun _ => rfl) (fun _ => fact True) (fun _ => fact False) (lsb Wb Wn * (cel Mo #[.int .i64 (Wn.length : Int)] 3 * (cel RB #[.bool false] 4 * (pt D1 (.deferred (some [])) * (old W * 1)))))
                ((At.mkfact trivial h82).cast (show _ = scb d1 d2 d3 d4 none 0 ⟨#[]⟩ ⟨#[122]⟩ * (fact True * (lsb Wb Wn * (cel Mo #[.int .i64 (Wn.length : Int)] 3 * (cel RB #[.bool false] 4 * (pt D1 (.deferred (some [])) * (old W * 1)))))) by ac_rfl)) ?_ ?_ ?_)
              · intro l pre x B1 W1 hp hJ
                have := hp.length_le
                simp at this
              rotate_left
              · intro o D W1 hJ
                exact hJ.factl.1.elim
              intro D2 u2 h95
              have h96 := h95.cast (show _ = lsb Wb Wn * (cel Mo #[.int .i64 (Wn.length : Int)] 3 * (cel RB #[.bool false] 4 * (pt D2 (.deferred (some [])) * (pt D1 (.deferred (some [])) * (fact True * (scb d1 d2 d3 d4 none 0 ⟨#[]⟩ ⟨#[122]⟩ * (old W * 1))))))) by ac_rfl)
              clear h95 hon2 h82
              have hpn := put_nil W _ _ zeroIt h96
              simp only [zeroIt] at hpn
              go_wp2_with fail
              refine hpn.mono ?_
              rintro e u3 ⟨rfl, h97⟩
              clear hpn h96
              go_wp2_with fail
              refine (remove_nil _ _ _).mono ?_
              rintro e u4 ⟨rfl, rfl⟩
              have hfn := find_nil _ 0 ⟨#[]⟩ W _ h97
              simp only [zeroIt, It.agg] at hfn
              go_wp2_with fail
              refine hfn.mono ?_
              rintro e u5 ⟨rfl, h98⟩
              have h99 := h98.alloc (.cells #[.int .i64 0, .string ⟨#[]⟩, .string ⟨#[]⟩, .int .i64 0, .int .i64 0] 31)
              obtain ⟨a8, c8, h100a⟩ := h99.pull2.lsb_open
              have hb0 := At.cell (i := 0) h100a rfl
              have hm0 := At.cell (i := 0) h99.pull3 rfl
              have hr0 := At.cell (i := 0) h99.pull4 rfl
              have hrf := At.frz h99.pull4 0
              have hrl := At.lt h99.pull4
              clear hfn h97 h98 h100a
              go_wp2_with fail
              refine (len_nil _).mono ?_
              rintro e u6 ⟨rfl, rfl⟩
              go_wp2_with fail
              have h101 := (At.set' (d := #[.bool true]) h99.pull4 0 (.bool true) rfl).pull5
              refine ⟨by simp, .inl ⟨_, _, rfl, run_takeDeferred (At.blk h101), ?_⟩⟩
              have h102 := (At.putObj h101 (.deferred none)).pull6
              refine ⟨by simp, .inl ⟨_, _, rfl, run_takeDeferred (At.blk h102), ?_⟩⟩
              have h103 := At.putObj h102 (.deferred none)
              have hc := At.cell (i := 0) h103.pull3 rfl
              refine ⟨.bool true, ?_, rfl, ?_⟩
              · simp [results, Try.results7, go_sem, hc]
              · exact (h103.r.r.r.r.r.r.r.r).below
            · intro o D1 u1 h93
              clear h81 hon
              obtain ⟨ho, h93b⟩ := (h93.cast (show _ = fact (o = some 4) * (pt EB (.cells #[.string ea, .string eb] 46) * (lsb Wb Wn * (cel Mo #[.int .i64 (Wn.length : Int)] 3 * (cel RB #[.bool false] 4 * (pt D1 (.deferred (some [])) * (old W * 1)))))) by ac_rfl)).factl
              clear h93
              subst ho
              unfold pend
              refine wpIn_wide.2 ?_
              have h94 := h93b.r
              clear h93b
              have hs2 := scan_any W _ _ none 0 ⟨#[]⟩ ⟨#[122]⟩ h94
              simp only at hs2
              go_wp2_with fail
              refine hs2.mono ?_
              rintro e v2 ⟨d1, d2, d3, d4, rfl, h82⟩
              clear hs2 h94
              go_wp2_with fail
              have hon2 := scan_none_on W d1 d2 d3 d4 0 ⟨#[]⟩ ⟨#[122]⟩
              refine wpIn_wide.1 (wp_rangeFunc_on (n := 9) (w0 := W) rfl (enters_of Try.func22 (by kernel_rfl) rfl) hon2 (fun _ => rfl) (fun _ => fact True) (fun _ => fact False) (lsb Wb Wn * (cel Mo #[.int .i64 (Wn.length : Int)] 3 * (cel RB #[.bool false] 4 * (pt D1 (.deferred (some [])) * (old W * 1)))))
                ((At.mkfact trivial h82).cast (show _ = scb d1 d2 d3 d4 none 0 ⟨#[]⟩ ⟨#[122]⟩ * (fact True * (lsb Wb Wn * (cel Mo #[.int .i64 (Wn.length : Int)] 3 * (cel RB #[.bool false] 4 * (pt D1 (.deferred (some [])) * (old W * 1)))))) by ac_rfl)) ?_ ?_ ?_)
              · intro l pre x B1 W1 hp hJ
                have := hp.length_le
                simp at this
              rotate_left
              · intro o D W1 hJ
                exact hJ.factl.1.elim
              intro D2 u2 h95
              have h96 := h95.cast (show _ = lsb Wb Wn * (cel Mo #[.int .i64 (Wn.length : Int)] 3 * (cel RB #[.bool false] 4 * (pt D2 (.deferred (some [])) * (pt D1 (.deferred (some [])) * (fact True * (scb d1 d2 d3 d4 none 0 ⟨#[]⟩ ⟨#[122]⟩ * (old W * 1))))))) by ac_rfl)
              clear h95 hon2 h82
              have hpn := put_nil W _ _ zeroIt h96
              simp only [zeroIt] at hpn
              go_wp2_with fail
              refine hpn.mono ?_
              rintro e u3 ⟨rfl, h97⟩
              clear hpn h96
              go_wp2_with fail
              refine (remove_nil _ _ _).mono ?_
              rintro e u4 ⟨rfl, rfl⟩
              have hfn := find_nil _ 0 ⟨#[]⟩ W _ h97
              simp only [zeroIt, It.agg] at hfn
              go_wp2_with fail
              refine hfn.mono ?_
              rintro e u5 ⟨rfl, h98⟩
              have h99 := h98.alloc (.cells #[.int .i64 0, .string ⟨#[]⟩, .string ⟨#[]⟩, .int .i64 0, .int .i64 0] 31)
              obtain ⟨a8, c8, h100a⟩ := h99.pull2.lsb_open
              have hb0 := At.cell (i := 0) h100a rfl
              have hm0 := At.cell (i := 0) h99.pull3 rfl
              have hr0 := At.cell (i := 0) h99.pull4 rfl
              have hrf := At.frz h99.pull4 0
              have hrl := At.lt h99.pull4
              clear hfn h97 h98 h100a
              go_wp2_with fail
              refine (len_nil _).mono ?_
              rintro e u6 ⟨rfl, rfl⟩
              go_wp2_with fail
              have h101 := (At.set' (d := #[.bool true]) h99.pull4 0 (.bool true) rfl).pull5
              refine ⟨by simp, .inl ⟨_, _, rfl, run_takeDeferred (At.blk h101), ?_⟩⟩
              have h102 := (At.putObj h101 (.deferred none)).pull6
              refine ⟨by simp, .inl ⟨_, _, rfl, run_takeDeferred (At.blk h102), ?_⟩⟩
              have h103 := At.putObj h102 (.deferred none)
              have hc := At.cell (i := 0) h103.pull3 rfl
              refine ⟨.bool true, ?_, rfl, ?_⟩
              · simp [results, Try.results7, go_sem, hc]
              · exact (h103.r.r.r.r.r.r.r.r).below
  · clear hli h2
    go_wp2_with fail
    have h9 := At.set' (d := #[.bool true]) h4 0 (.bool true) rfl
    have hc := At.cell (i := 0) h9 rfl
    refine ⟨.bool true, ?_, rfl, h9.pull4.below⟩
    simp [results, Try.results7, go_sem, hc]
end Go.Proofs.Ytghlbhnpgbhllaa
