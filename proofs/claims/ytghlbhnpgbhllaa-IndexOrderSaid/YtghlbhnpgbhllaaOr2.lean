/-
  The statement IndexOrder' walk. A contract, no statement.
-/
import Derived.Test.YtghlbhnpgbhllaaRu
import Derived.Test.YtghlbhnpgbhllaaSt
import Derived.Test.YtghlbhnpgbhllaaOd
namespace Go.Proofs.Ytghlbhnpgbhllaa
open Go Go.RowKit Go.Shelf Go.Maps
attribute [local go_sem] Oper.semAt_some

theorem ordN_in (z : Nat → Cl) : ∀ k, ∀ x ∈ ordN z k, InR x
  | 0 => fun x hx => by cases hx
  | k + 1 => by
    unfold ordN
    split
    · exact ordN_in z k
    · intro x hx
      rw [List.mem_append, List.mem_singleton] at hx
      rcases hx with hx | rfl
      · exact ordN_in z k x hx
      · exact and3x _
theorem srtN_in (z : Nat → Cl) (k : Nat) : ∀ x ∈ srt (ordN z k), InR x := fun x hx => ordN_in z k x ((srt_mem (ordN_one z k) x).1 hx)

theorem turn_at (t : Int) (m : Nat) (h0 : 0 < m) (hm : m ≤ 120) : ∃ T : Nat, (wrap64 (t.tmod m + m)).tmod m = (T : Int) ∧ T < m := by
  have h1 := Int.tmod_lt_of_pos t (show (0 : Int) < m by omega)
  have h2 := Int.lt_tmod_of_pos t (show (0 : Int) < m by omega)
  rw [IntWalk.wrap64_in _ (by omega), Int.tmod_eq_emod_of_nonneg (by omega)]
  have h3 := Int.emod_nonneg (t.tmod m + m) (show (m : Int) ≠ 0 by omega)
  have h4 := Int.emod_lt_of_pos (t.tmod m + m) (show (0 : Int) < m by omega)
  exact ⟨((t.tmod m + m) % m).toNat, by omega, by omega⟩

theorem foldl_len : ∀ (l a : List It), Sorted a → (l.foldl put a).length ≤ a.length + l.length
  | [], a, _ => Nat.le_refl _
  | c :: l, a, h => by
    have h1 := foldl_len l (put a c) (sorted_put h c)
    have h2 : (put a c).length ≤ a.length + 1 := by rw [len_put h]; split <;> omega
    show (l.foldl put (put a c)).length ≤ _
    rw [List.length_cons]
    omega
theorem srt_len (l : List It) : (srt l).length ≤ l.length := by
  have := foldl_len l [] sorted_nil
  rw [List.length_nil, Nat.zero_add] at this
  exact this

set_option maxRecDepth 100000 in
set_option maxHeartbeats 8000000 in
theorem order_walk (W : World) (a : Option Addr) (n cap : Nat) (z : Nat → Cl) (turn : Int) (hn : n ≤ 9223372036854775807) (hsz : ∀ i, (z i).i.k.size ≤ 140737488355328 ∧ (z i).i.v.size ≤ 140737488355328) (hz : Cls W a n z)
    (_ht1 : -9223372036854775808 ≤ turn) (_ht2 : turn ≤ 9223372036854775807) :
    Calls Try.prog 4 #[.slice a n cap, .int .i64 turn] W fun e W' => e = .returned (.bool true) ∧ Below W.heap.size W W' := by
  refine (callsIn_wide (n := 9)).1 ?_
  refine callsIn_of_wp_marks Try.func4 rfl trivial (wpIn_wide.2 ?_)
  simp only [Try.ntmps4, List.size_toArray, List.length_cons, List.length_nil, Nat.reduceAdd, Nat.reduceSub, Array.replicate_succ, Array.replicate_zero, List.push_toArray, List.append_toArray, List.nil_append, List.cons_append]
  go_wp2_with fail
  obtain ⟨RB, hRB⟩ : ∃ N, W.heap.size = N := ⟨_, rfl⟩
  have h1 := (At.startR W).alloc' hRB (.cells #[.bool false] 4)
  have hfit := fit_any W _ _ h1
  rw [hRB]
  refine hfit.mono ?_
  rintro e w1 ⟨rfl, h2⟩
  have hz2 := fun w' (h : At W (pt RB (.cells #[.bool false] 4) * (old W * 1)) w') => show Cls w' a n z from fun i hi => by
    obtain ⟨b, o, e, c0, c1, c2, c3, c4, c5⟩ := hz i hi
    exact ⟨b, o, e, h.pull2.old_cell c0, h.pull2.old_cell c1, h.pull2.old_cell c2, h.pull2.old_cell c3, h.pull2.old_cell c4, h.pull2.old_cell c5⟩
  have hli := light_any W _ _ a n cap z hn (fun i => by have := hsz i; omega) h2 hz2
  have Hz := hide hz
  clear hfit h1 hz hRB hsz hz2
  go_wp2_with fail
  refine hli.mono ?_
  rintro e w2 ⟨h4, hlr⟩
  rcases hlr with ⟨rfl, hl⟩ | rfl
  · have hn120 := hl.1
    have hzk : ∀ q, q < n → (z q).i.k.size ≤ 100 := fun q hq => by
      have h0 : (z q).i.k.size + (z q).i.v.size ≤ 100 := hl.2 q hq
      omega
    have Hzk := hide hzk
    clear hl hli h2 hzk
    rcases Nat.eq_zero_or_pos n with rfl | hn0
    · have hr0 := At.cell (i := 0) h4 rfl
      have hrf := At.frz h4 0
      have hrl := At.lt h4
      go_wp2_with fail
      have h9 := At.set' (d := #[.bool true]) h4 0 (.bool true) rfl
      have hc := At.cell (i := 0) h9 rfl
      refine ⟨.bool true, ?_, rfl, h9.pull2.below⟩
      simp [results, Try.results4, go_sem, hc]
    obtain ⟨M, hM⟩ : ∃ N, w2.heap.size = N := ⟨_, rfl⟩
    have h5 := At.mpi_new h4
    rw [hM] at h5
    have hmm := @run_makeMap Try.prog
    have hnz : ((n : Int) == 0) = false := by rw [beq_eq_false_iff_ne]; omega
    have HM := hide hM
    clear hM h4
    go_wp2_with fail
    clear hmm hnz
    try rw [HM.out]
    clear HM
    have h6 := (h5.cast (show _ = mpi M 0 (srt (ordN z 0)) * (cel RB #[.bool false] 4 * (old W * 1)) by rfl)).row_nil 31 5
    clear h5
    go_loopw [6, 32] (fun u6 u wr => ∃ (k nn : Nat) (a' : Option Addr) (cp' : Nat), k ≤ n ∧ nn ≤ k ∧ u6 = .slice a' (ordN z k).length cp' ∧ u = .int .i64 k ∧ At W (row 31 5 (.slice a' (ordN z k).length cp') (ordN z k).length (its (ordN z k)) * (mpi M nn (srt (ordN z k)) * (cel RB #[.bool false] 4 * (old W * 1)))) wr) (fun _ u _ => n - (intOf u).toNat)
    case atStart => exact ⟨0, 0, none, 0, Nat.zero_le _, Nat.zero_le _, rfl, rfl, h6⟩
    case round =>
      obtain ⟨k, nn, a', cp', hk, hnn, rfl, rfl, h7⟩ := hrel
      clear h6
      by_cases hkn : k < n
      · obtain ⟨b, o, rfl, c0, c1, c2, c3, c4, c5⟩ := Hz.out k hkn
        have d0 := h7.pull4.old_cell c0
        have d1 := h7.pull4.old_cell c1
        have d2 := h7.pull4.old_cell c2
        have d3 := h7.pull4.old_cell c3
        have d4 := h7.pull4.old_cell c4
        have d5 := h7.pull4.old_cell c5
        have hkz : (k : Int) < (n : Int) := by omega
        have hck := Hzk.out k hkn
        have hct := and3x (z k).i.t
        have hol := ordN_len z k
        have hos := srt_sorted (ordN z k)
        have Hin := hide (srtN_in z k)
        have Hstep := hide (show ordN z (k + 1) = if has (srt (ordN z k)) (bits .and .i64 (z k).i.t 3) (z k).i.k then ordN z k else ordN z k ++ [⟨bits .and .i64 (z k).i.t 3, (z k).i.k, (z k).i.v, (z k).i.p, (z k).i.s⟩] from rfl)
        obtain ⟨C, hC⟩ : ∃ N, wr.heap.size = N := ⟨_, rfl⟩
        have h8 := (h7.alloc' hC (.cells #[.int .i64 (z k).k, .int .i64 (bits .and .i64 (z k).i.t 3), .string (z k).i.k, .string (z k).i.v, .int .i64 (z k).i.p, .int .i64 (z k).i.s] 33))
        have HC := hide hC
        clear c0 c1 c2 c3 c4 c5 hC h7
        obtain ⟨L1, hL1⟩ : ∃ L1, ordN z (k + 1) = L1 := ⟨_, rfl⟩
        rw [hL1] at Hstep
        have HL1 := hide hL1
        clear hL1
        generalize ordN z k = ls at *
        generalize (z k).i.t = ct at *
        generalize (z k).i.k = ck at *
        generalize (z k).i.v = cv at *
        generalize (z k).i.p = cp2 at *
        generalize (z k).i.s = cs at *
        generalize (z k).k = cc at *
        have hnm := name_any W _ _ ⟨bits .and .i64 ct 3, ck, cv, cp2, cs⟩ hct (by show ck.size ≤ _; omega) h8
        simp only at hnm
        go_wp2_with fail
        rw [HC.out]
        clear HC d0 d1 d2 d3 d4 d5
        refine hnm.mono ?_
        rintro e w8 ⟨rfl, h9⟩
        generalize bits .and .i64 ct 3 = c3t at *
        have hlk := mpi_look h9.pull3 ⟨c3t, ck, cv, cp2, cs⟩ (by show ck.size ≤ _; omega) hos hct Hin.out
        simp only at hlk
        obtain ⟨F, hF⟩ : ∃ F, (fnd (srt ls) c3t ck).getD zeroIt = F := ⟨_, rfl⟩
        rw [hF] at hlk
        unfold It.agg at hlk
        obtain ⟨J, hJ⟩ : ∃ N, w8.heap.size = N := ⟨_, rfl⟩
        have h10 := h9.alloc' hJ (.cells #[.int .i64 F.t, .string F.k, .string F.v, .int .i64 F.p, .int .i64 F.s] 31)
        have HJ := hide hJ
        clear hF hJ hnm h8 h9
        cases hh : has (srt ls) c3t ck with
        | true =>
          rw [hh] at hlk Hstep
          clear hh
          go_wp2_with (at_lookup; go_loud (refine wpList_lookup_eq rfl _ _ _ rfl _ _ rfl rfl hlk ?_))
          go_roundw
          case rel => exact ⟨k + 1, nn, a', cp', by omega, by omega, by rw [HL1.out, Hstep.out, if_pos trivial], by go_num, by rw [HL1.out, Hstep.out, if_pos trivial]; exact h10.r.r⟩
          case measure => simp [intOf]; omega
        | false =>
          rw [hh] at hlk Hstep
          clear hh
          go_wp2_with (at_lookup; go_loud (refine wpList_lookup_eq rfl _ _ _ rfl _ _ rfl rfl hlk ?_))
          have hS : ∀ w', At W (pt J (.cells #[.int .i64 F.t, .string F.k, .string F.v, .int .i64 F.p, .int .i64 F.s] 31) * (pt C (.cells #[.int .i64 cc, .int .i64 c3t, .string ck, .string cv, .int .i64 cp2, .int .i64 cs] 33) * (row 31 5 (.slice a' ls.length cp') ls.length (its ls) * (mpi M nn (srt ls) * (cel RB #[.bool false] 4 * (old W * 1)))))) w' → (w'.cell? ⟨C, 1, none⟩ = some (.int .i64 c3t) ∧ w'.cell? ⟨C, 2, none⟩ = some (.string ck) ∧ w'.cell? ⟨C, 3, none⟩ = some (.string cv) ∧ w'.cell? ⟨C, 4, none⟩ = some (.int .i64 cp2) ∧ w'.cell? ⟨C, 5, none⟩ = some (.int .i64 cs)) := fun w' h =>
            ⟨At.cell (i := 1) (b := C) h.pull2 rfl, At.cell (i := 2) (b := C) h.pull2 rfl, At.cell (i := 3) (b := C) h.pull2 rfl, At.cell (i := 4) (b := C) h.pull2 rfl, At.cell (i := 5) (b := C) h.pull2 rfl⟩
          have hcall := fun (w1 : World) h => name_any W w1 (pt J (.cells #[.int .i64 F.t, .string F.k, .string F.v, .int .i64 F.p, .int .i64 F.s] 31) * (pt C (.cells #[.int .i64 cc, .int .i64 c3t, .string ck, .string cv, .int .i64 cp2, .int .i64 cs] 33) * (row 31 5 (.slice a' ls.length cp') ls.length (its ls) * (mpi M nn (srt ls) * (cel RB #[.bool false] 4 * (old W * 1)))))) ⟨c3t, ck, cv, cp2, cs⟩ hct (by show ck.size ≤ _; omega) h
          simp only at hcall
          refine wp_region_held_line 6 [6] (fun w' => At W (pt J (.cells #[.int .i64 F.t, .string F.k, .string F.v, .int .i64 F.p, .int .i64 F.s] 31) * (pt C (.cells #[.int .i64 cc, .int .i64 c3t, .string ck, .string cv, .int .i64 cp2, .int .i64 cs] 33) * (row 31 5 (.slice a' ls.length cp') ls.length (its ls) * (mpi M nn (srt ls) * (cel RB #[.bool false] 4 * (old W * 1)))))) w') rfl (by kernel_rfl) h10.drew ?_
          simp only [List.take_succ_cons, List.take_zero]
          refine held_read (.map (some M)) rfl (fun w' hw => ?_) ?_
          · go_simp
          refine held_read (.pointer (some ⟨C, 1, none⟩)) rfl (fun w' hw => ?_) ?_
          · go_simp
          refine held_read (.agg #[.int .i64 c3t, .string ck, .string cv, .int .i64 cp2, .int .i64 cs]) rfl (fun w' hw => ?_) ?_
          · obtain ⟨q1, q2, q3, q4, q5⟩ := hS w' hw
            go_simp
          refine held_call (.string (nmB ⟨c3t, ck, cv, cp2, cs⟩)) 14 #[.agg #[.int .i64 c3t, .string ck, .string cv, .int .i64 cp2, .int .i64 cs]] rfl (fun w' => by go_simp) (fun w' hw => hcall _ hw) ?_
          refine held_read (.pointer (some ⟨C, 1, none⟩)) rfl (fun w' hw => ?_) ?_
          · go_simp
          refine held_read (.agg #[.int .i64 c3t, .string ck, .string cv, .int .i64 cp2, .int .i64 cs]) rfl (fun w' hw => ?_) ?_
          · obtain ⟨q1, q2, q3, q4, q5⟩ := hS w' hw
            go_simp
          refine held_skip fun w5 h13 => ?_
          simp only [picks_cons, picks_nil, getD_zero, getD_succ]
          obtain ⟨w6, hrun, h14⟩ := mpi_store h13.pull4 ⟨c3t, ck, cv, cp2, cs⟩ (by show ck.size ≤ _; omega) hos hct Hin.out (by unfold maxLen; omega)
          rw [← srt_snoc] at h14
          unfold It.agg at hrun
          have h15 := h14.cast (show _ = row 31 5 (.slice a' ls.length cp') ls.length (its ls) * (mpi M (nn + 1) (srt (ls ++ [⟨c3t, ck, cv, cp2, cs⟩])) * (pt C (.cells #[.int .i64 cc, .int .i64 c3t, .string ck, .string cv, .int .i64 cp2, .int .i64 cs] 33) * (pt J (.cells #[.int .i64 F.t, .string F.k, .string F.v, .int .i64 F.p, .int .i64 F.s] 31) * (cel RB #[.bool false] 4 * (old W * 1))))) by
            show mpi _ _ _ * (pt J _ * (pt C _ * (row _ 5 _ _ _ * _))) = _
            ac_rfl)
          have k1 := At.cell (i := 1) (b := C) h15.pull3 rfl
          have k2 := At.cell (i := 2) (b := C) h15.pull3 rfl
          have k3 := At.cell (i := 3) (b := C) h15.pull3 rfl
          have k4 := At.cell (i := 4) (b := C) h15.pull3 rfl
          have k5 := At.cell (i := 5) (b := C) h15.pull3 rfl
          obtain ⟨i0, hi0, hz0, hz1, hz2⟩ := info_parts Try.infoIt
          clear h10 hS hcall h13 h14
          refine wpList_mapUpdate_eq rfl _ _ _ _ rfl (.map (some M)) (.string (nmB ⟨c3t, ck, cv, cp2, cs⟩)) (.agg #[.int .i64 c3t, .string ck, .string cv, .int .i64 cp2, .int .i64 cs]) (by go_simp) (by go_simp) (by go_simp) hrun ?_
          go_wp2_with fail
          refine ⟨by kernel_rfl, ?_⟩
          clear hrun
          go_wp2_with (at_builtin; go_loud (refine wpList_append_row rfl _ _ _ rfl 31 i0 _ 5 56 Try.underlying25 hi0 hz0 hz1 hz2 rfl (by decide) _ _ _ rfl (h15.alloc (.cells #[.int .i64 c3t, .string ck, .string cv, .int .i64 cp2, .int .i64 cs] 31)).pull2 _ 1 1 (It.cells ⟨c3t, ck, cv, cp2, cs⟩) rfl rfl (fun j u hu => new_cells rfl j u hu) (It.one ⟨c3t, ck, cv, cp2, cs⟩) (by unfold maxLen; omega) (by omega) ?_))
          intro a7 c7 w7 h17
          clear h15 k1 k2 k3 k4 k5
          go_wp2_with fail
          go_roundw
          case rel =>
            have e : L1 = ls ++ [⟨c3t, ck, cv, cp2, cs⟩] := by rw [Hstep.out, if_neg (by simp)]
            refine ⟨k + 1, nn + 1, a7, c7, by omega, by omega, by rw [HL1.out, e, List.length_append, List.length_singleton], by go_num, ?_⟩
            rw [HL1.out, e, List.length_append, List.length_singleton, its_snoc]
            exact h17.pull2.r.pull3.r.pull3.r
          case measure => simp [intOf]; omega
      · obtain rfl : n = k := by omega
        have hlen := ordN_len z n
        have hpos := ordN_pos z n hn0
        have hone := ordN_one z n
        have Hin := hide (srtN_in z n)
        clear Hz
        generalize ordN z n = ls at *
        have Hone := hide hone
        clear hone
        have hz0 : ((ls.length : Int) == 0) = false := by rw [beq_eq_false_iff_ne]; omega
        have hz1 : (ls.length : Int) ≠ 0 := by omega
        obtain ⟨X, hX⟩ : ∃ N, wr.heap.size = N := ⟨_, rfl⟩
        have h8 := At.ixb_new (h7.alloc' hX (.cells #[.slice none 0 0] 27))
        have h9 := At.ixb_new (h8.alloc' (show _ = X + 1 by simp [hX]) (.cells #[.slice none 0 0] 27))
        have HX := hide hX
        clear hX h7 h8
        go_wp2_with fail
        clear hz0 hz1
        try rw [HX.out]
        clear HX
        obtain ⟨T, hT, hTl⟩ := turn_at turn ls.length hpos (by omega)
        rw [hT]
        clear hT
        generalize X + 1 = Y at h9 ⊢
        have h10 := h9.cast (show _ = (ixb Y (srt (turned ls T 0 zeroIt)) * (ixb X (srt (ls.take 0)) * (row 31 5 (.slice a' ls.length cp') ls.length (its ls) * (mpi M nn (srt ls) * (cel RB #[.bool false] 4 * (old W * 1)))))) by rfl)
        clear h9
        go_loopw [13, 78] (fun _ u wr => ∃ i : Nat, i ≤ ls.length ∧ u = .int .i64 i ∧ At W (ixb Y (srt (turned ls T i zeroIt)) * (ixb X (srt (ls.take i)) * (row 31 5 (.slice a' ls.length cp') ls.length (its ls) * (mpi M nn (srt ls) * (cel RB #[.bool false] 4 * (old W * 1)))))) wr) (fun _ u _ => ls.length - (intOf u).toNat)
        case atStart => exact ⟨0, Nat.zero_le _, rfl, h10⟩
        case round =>
          rename_i wx _
          obtain ⟨i, hi, rfl, h11⟩ := hrel
          clear h10
          by_cases hil : i < ls.length
          · obtain ⟨g, cq, e1, hle1, hcell1⟩ := h11.pull3.row_ptr (by omega)
            cases e1
            have hj : (i + T) % ls.length < ls.length := Nat.mod_lt _ (by omega)
            have hjv : ((i : Int) + (T : Int)).tmod (ls.length : Int) = (((i + T) % ls.length : Nat) : Int) := by
              rw [Int.tmod_eq_emod_of_nonneg (by omega)]
              simp
            have ht1 := turned_snoc ls T i zeroIt
            rw [List.getElem?_eq_getElem hj, Option.getD_some] at ht1
            have ht2 : ls.take (i + 1) = ls.take i ++ [ls[i]] := List.take_succ_eq_append_getElem hil
            have hlX := srt_len (ls.take i)
            have hlY := srt_len (turned ls T i zeroIt)
            have htl : (ls.take i).length ≤ 120 := by rw [List.length_take]; omega
            have htu : (turned ls T i zeroIt).length = i := by unfold turned; simp
            obtain ⟨e0, e1, e2, e3, e4⟩ := its_five hil
            obtain ⟨f0, f1, f2, f3, f4⟩ := its_five hj
            have hcX := srt_snoc (ls.take i) ls[i]
            have hcY := srt_snoc (turned ls T i zeroIt) ls[(i + T) % ls.length]
            rw [← ht2] at hcX
            rw [← ht1] at hcY
            obtain ⟨P, hP⟩ : ∃ P, ls[i] = P := ⟨_, rfl⟩
            obtain ⟨Q, hQ⟩ : ∃ Q, ls[(i + T) % ls.length] = Q := ⟨_, rfl⟩
            rw [hP] at e0 e1 e2 e3 e4 hcX
            rw [hQ] at f0 f1 f2 f3 f4 hcY
            have c0 := hcell1 _ _ e0
            have c1 := hcell1 _ _ e1
            have c2 := hcell1 _ _ e2
            have c3 := hcell1 _ _ e3
            have c4 := hcell1 _ _ e4
            have hpX := put_any W _ _ X (srt (ls.take i)) P (srt_sorted _) (by omega) h11.pull2
            have hilz : (i : Int) < (ls.length : Int) := by omega
            have HcX := hide hcX
            have HcY := hide hcY
            clear ht1 ht2 hP hQ hcX hcY e0 e1 e2 e3 e4 hcell1
            go_wp2_with fail
            refine hpX.mono ?_
            rintro e w5 ⟨rfl, h12⟩
            rw [← HcX.out] at h12
            clear c0 c1 c2 c3 c4 hpX h11
            obtain ⟨g2, cq2, e2, hle2, hcell2⟩ := h12.pull3.row_ptr (by omega)
            cases e2
            have c0 := hcell2 _ _ f0
            have c1 := hcell2 _ _ f1
            have c2 := hcell2 _ _ f2
            have c3 := hcell2 _ _ f3
            have c4 := hcell2 _ _ f4
            have hpY := put_any W _ _ Y (srt (turned ls T i zeroIt)) Q (srt_sorted _) (by omega) h12.pull2
            have hjz : ((((i + T) % ls.length : Nat)) : Int) < (ls.length : Int) := by omega
            clear f0 f1 f2 f3 f4 hcell2
            generalize hjg : (i + T) % ls.length = jj at *
            have Hjg := hide hjg
            clear hjg
            go_wp2_with fail
            refine hpY.mono ?_
            rintro e w6 ⟨rfl, h13⟩
            rw [← HcY.out] at h13
            clear c0 c1 c2 c3 c4 hpY h12
            go_wp2_with fail
            go_roundw
            case rel => exact ⟨i + 1, by omega, by go_num, h13⟩
            case measure => simp [intOf]; omega
          · obtain rfl : i = ls.length := by omega
            have hLX : srt (ls.take ls.length) = srt ls := by rw [List.take_length]
            have hLY : srt (turned ls T ls.length zeroIt) = srt ls := srt_same Hone.out (turned_mem T zeroIt hpos)
            rw [hLX, hLY] at h11
            have hls := srt_sorted ls
            have hll := srt_len ls
            have hin := Hin.out
            clear hLX hLY
            obtain ⟨L, hL⟩ : ∃ L, srt ls = L := ⟨_, rfl⟩
            rw [hL] at h11 hls hll hin
            clear hL Hone Hin
            have hso := sorted_any W _ _ M nn L hls hin (by omega) h11.pull4
            go_wp2_with fail
            refine hso.mono ?_
            rintro e w9 ⟨a5, c5, rfl, h12⟩
            obtain ⟨Lb, hLb⟩ : ∃ N, w9.heap.size = N := ⟨_, rfl⟩
            have h13 := At.lsb_shut (l := L) (h12.alloc' hLb (.cells #[.slice a5 L.length c5] 25))
            have h14 := (h13.alloc' (show _ = Lb + 1 by simp [hLb]) (.cells #[.int .i64 0] 3)).alloc' (show _ = Lb + 1 + 1 by simp [hLb]) (.cells #[.int .i64 0] 3)
            have HLb := hide hLb
            clear hso h11 h12 h13 hLb
            go_wp2_with fail
            rw [HLb.out]
            clear HLb
            generalize Lb + 1 = Ma at h14 ⊢
            generalize Ma + 1 = Mb at h14 ⊢
            have hon1 := all_on W X L (by omega)
            refine wpIn_wide.1 (wp_rangeFunc_on (n := 9) (w0 := W) rfl (enters_of Try.func16 (by kernel_rfl) rfl) hon1 (fun _ => rfl)
              (fun pre => cel Ma #[.int .i64 (pre.length : Int)] 3 * lsb Lb L) (fun _ => fact False) (cel Mb #[.int .i64 0] 3 * (ixb Y L * (row 31 5 (.slice a' ls.length cp') ls.length (its ls) * (mpi M nn L * (cel RB #[.bool false] 4 * (old W * 1)))))) (h14.cast (show _ = ixb X L * ((cel Ma #[.int .i64 0] 3 * lsb Lb L) * (cel Mb #[.int .i64 0] 3 * (ixb Y L * (row 31 5 (.slice a' ls.length cp') ls.length (its ls) * (mpi M nn L * (cel RB #[.bool false] 4 * (old W * 1))))))) by
                show cel Mb _ _ * (cel Ma _ _ * (lsb Lb L * _)) = _
                ac_rfl)) ?_ ?_ ?_)
            · intro l pre x B1 W1 hp hJ
              simp only [encIt]
              obtain ⟨hpl, hpx⟩ := pre_get hp
              gi_wp2
              obtain ⟨O, hO⟩ : ∃ N, W1.heap.size = N := ⟨_, rfl⟩
              have hJ1 := (hJ.alloc' hO (.cells #[.int .i64 x.t, .string x.k, .string x.v, .int .i64 x.p, .int .i64 x.s] 31)).cast (show _ = (pt O (.cells #[.int .i64 x.t, .string x.k, .string x.v, .int .i64 x.p, .int .i64 x.s] 31) * (ixb X L * (cel Ma #[.int .i64 (pre.length : Int)] 3 * lsb Lb L))) * B1 by ac_rfl)
              rw [hO]
              clear hO
              refine ⟨_, hJ1, fun B2 W2 hJ2 => ?_⟩
              clear hJ hJ1 hp
              have h15 := hJ2.cast (show _ = lsb Lb L * (cel Ma #[.int .i64 (pre.length : Int)] 3 * (pt O (.cells #[.int .i64 x.t, .string x.k, .string x.v, .int .i64 x.p, .int .i64 x.s] 31) * (ixb X L * B2))) by ac_rfl)
              obtain ⟨a5, c5, h16⟩ := h15.lsb_open
              obtain ⟨p1, q1, e1, hle1, hcell1⟩ := h16.pull2.row_ptr (by omega)
              cases e1
              obtain ⟨y0, y1, y2, y3, y4⟩ := its_five hpl
              rw [hpx] at y0 y1 y2 y3 y4
              have c10 := hcell1 _ _ y0
              have c11 := hcell1 _ _ y1
              have c12 := hcell1 _ _ y2
              have c13 := hcell1 _ _ y3
              have c14 := hcell1 _ _ y4
              have hb0 := At.cell (i := 0) h16 rfl
              have hm0 := At.cell (i := 0) h16.pull3 rfl
              have hmf := At.frz h16.pull3 0
              have hml := At.lt h16.pull3
              have hx0 := At.cell (i := 0) (b := O) h16.pull4 rfl
              have hx1 := At.cell (i := 1) (b := O) h16.pull4 rfl
              have hx2 := At.cell (i := 2) (b := O) h16.pull4 rfl
              have hx3 := At.cell (i := 3) (b := O) h16.pull4 rfl
              have hx4 := At.cell (i := 4) (b := O) h16.pull4 rfl
              have hne : ((pre.length : Int) == (L.length : Int)) = false := by rw [beq_eq_false_iff_ne]; omega
              clear hcell1 y0 y1 y2 y3 y4 hpx hJ2 h16
              gi_wp2
              refine wpIn_region_line [0, 1, 2, 3, 4, 5, 6, 7, 8, 9, 10, 11] rfl (by kernel_rfl) rfl ?_
              simp only [picks_cons, picks_nil, getD_zero, getD_succ]
              go_wp2_with fail
              refine ⟨by kernel_rfl, ?_⟩
              gi_wp2
              have h17 := (h15.pull2.drew.set' (d := #[.int .i64 ((pre.length : Int) + 1)]) 0 (.int .i64 ((pre.length : Int) + 1)) rfl)
              show At W ((ixb X L * (cel Ma #[.int .i64 ((pre ++ [x]).length : Int)] 3 * lsb Lb L)) * B2) _
              rw [List.length_append, List.length_singleton, show (((pre.length + 1 : Nat) : Int)) = (pre.length : Int) + 1 by omega]
              have h18 := h17.pull3.r
              exact h18.cast (by ac_rfl)
            rotate_left
            · intro o D W1 hJ
              exact hJ.factl.1.elim
            intro D1 u1 h91
            clear h14 hon1
            go_wp2_with fail
            have hon2 := all_on W Y L (by omega)
            refine wpIn_wide.1 (wp_rangeFunc_on (n := 9) (w0 := W) rfl (enters_of Try.func16 (by kernel_rfl) rfl) hon2 (fun _ => rfl)
              (fun pre => cel Mb #[.int .i64 (pre.length : Int)] 3 * lsb Lb L) (fun _ => fact False) (cel Ma #[.int .i64 (L.length : Int)] 3 * (ixb X L * (pt D1 (.deferred (some [])) * (row 31 5 (.slice a' ls.length cp') ls.length (its ls) * (mpi M nn L * (cel RB #[.bool false] 4 * (old W * 1))))))) (h91.cast (show _ = ixb Y L * ((cel Mb #[.int .i64 0] 3 * lsb Lb L) * (cel Ma #[.int .i64 (L.length : Int)] 3 * (ixb X L * (pt D1 (.deferred (some [])) * (row 31 5 (.slice a' ls.length cp') ls.length (its ls) * (mpi M nn L * (cel RB #[.bool false] 4 * (old W * 1)))))))) by
                ac_rfl)) ?_ ?_ ?_)
            · intro l pre x B1 W1 hp hJ
              simp only [encIt]
              obtain ⟨hpl, hpx⟩ := pre_get hp
              gi_wp2
              obtain ⟨O, hO⟩ : ∃ N, W1.heap.size = N := ⟨_, rfl⟩
              have hJ1 := (hJ.alloc' hO (.cells #[.int .i64 x.t, .string x.k, .string x.v, .int .i64 x.p, .int .i64 x.s] 31)).cast (show _ = (pt O (.cells #[.int .i64 x.t, .string x.k, .string x.v, .int .i64 x.p, .int .i64 x.s] 31) * (ixb Y L * (cel Mb #[.int .i64 (pre.length : Int)] 3 * lsb Lb L))) * B1 by ac_rfl)
              rw [hO]
              clear hO
              refine ⟨_, hJ1, fun B2 W2 hJ2 => ?_⟩
              clear hJ hJ1 hp
              have h15 := hJ2.cast (show _ = lsb Lb L * (cel Mb #[.int .i64 (pre.length : Int)] 3 * (pt O (.cells #[.int .i64 x.t, .string x.k, .string x.v, .int .i64 x.p, .int .i64 x.s] 31) * (ixb Y L * B2))) by ac_rfl)
              obtain ⟨a5, c5, h16⟩ := h15.lsb_open
              obtain ⟨p1, q1, e1, hle1, hcell1⟩ := h16.pull2.row_ptr (by omega)
              cases e1
              obtain ⟨y0, y1, y2, y3, y4⟩ := its_five hpl
              rw [hpx] at y0 y1 y2 y3 y4
              have c10 := hcell1 _ _ y0
              have c11 := hcell1 _ _ y1
              have c12 := hcell1 _ _ y2
              have c13 := hcell1 _ _ y3
              have c14 := hcell1 _ _ y4
              have hb0 := At.cell (i := 0) h16 rfl
              have hm0 := At.cell (i := 0) h16.pull3 rfl
              have hmf := At.frz h16.pull3 0
              have hml := At.lt h16.pull3
              have hx0 := At.cell (i := 0) (b := O) h16.pull4 rfl
              have hx1 := At.cell (i := 1) (b := O) h16.pull4 rfl
              have hx2 := At.cell (i := 2) (b := O) h16.pull4 rfl
              have hx3 := At.cell (i := 3) (b := O) h16.pull4 rfl
              have hx4 := At.cell (i := 4) (b := O) h16.pull4 rfl
              have hne : ((pre.length : Int) == (L.length : Int)) = false := by rw [beq_eq_false_iff_ne]; omega
              clear hcell1 y0 y1 y2 y3 y4 hpx hJ2 h16
              gi_wp2
              refine wpIn_region_line [0, 1, 2, 3, 4, 5, 6, 7, 8, 9, 10, 11] rfl (by kernel_rfl) rfl ?_
              simp only [picks_cons, picks_nil, getD_zero, getD_succ]
              go_wp2_with fail
              refine ⟨by kernel_rfl, ?_⟩
              gi_wp2
              have h17 := (h15.pull2.drew.set' (d := #[.int .i64 ((pre.length : Int) + 1)]) 0 (.int .i64 ((pre.length : Int) + 1)) rfl)
              show At W ((ixb Y L * (cel Mb #[.int .i64 ((pre ++ [x]).length : Int)] 3 * lsb Lb L)) * B2) _
              rw [List.length_append, List.length_singleton, show (((pre.length + 1 : Nat) : Int)) = (pre.length : Int) + 1 by omega]
              have h18 := h17.pull3.r
              exact h18.cast (by ac_rfl)
            rotate_left
            · intro o D W1 hJ
              exact hJ.factl.1.elim
            intro D2 u2 h93
            have h94 := h93.cast (show _ = lsb Lb L * (cel Ma #[.int .i64 (L.length : Int)] 3 * (cel Mb #[.int .i64 (L.length : Int)] 3 * (cel RB #[.bool false] 4 * (pt D2 (.deferred (some [])) * (pt D1 (.deferred (some [])) * (ixb Y L * (ixb X L * (row 31 5 (.slice a' ls.length cp') ls.length (its ls) * (mpi M nn L * (old W * 1)))))))))) by ac_rfl)
            obtain ⟨a5, c5, h95⟩ := h94.lsb_open
            have hb0 := At.cell (i := 0) h95 rfl
            have hm0 := At.cell (i := 0) h95.pull3 rfl
            have hk0 := At.cell (i := 0) h95.pull4 rfl
            have hr0 := At.cell (i := 0) h94.pull4 rfl
            have hrf := At.frz h94.pull4 0
            have hrl := At.lt h94.pull4
            clear h93 h95 h91 hon2
            go_wp2_with fail
            have h96 := (At.set' (d := #[.bool true]) h94.pull4 0 (.bool true) rfl).pull5
            refine ⟨by simp, .inl ⟨_, _, rfl, run_takeDeferred (At.blk h96), ?_⟩⟩
            have h97 := (At.putObj h96 (.deferred none)).pull6
            refine ⟨by simp, .inl ⟨_, _, rfl, run_takeDeferred (At.blk h97), ?_⟩⟩
            have h98 := At.putObj h97 (.deferred none)
            have hc := At.cell (i := 0) h98.pull3 rfl
            refine ⟨.bool true, ?_, rfl, ?_⟩
            · simp [results, Try.results4, go_sem, hc]
            · exact (h98.r.r.r.r.r.r.r.r.r.r).below
  · clear hli h2
    have hr0 := At.cell (i := 0) h4 rfl
    have hrf := At.frz h4 0
    have hrl := At.lt h4
    go_wp2_with fail
    have h9 := At.set' (d := #[.bool true]) h4 0 (.bool true) rfl
    have hc := At.cell (i := 0) h9 rfl
    refine ⟨.bool true, ?_, rfl, h9.pull2.below⟩
    simp [results, Try.results4, go_sem, hc]
end Go.Proofs.Ytghlbhnpgbhllaa
