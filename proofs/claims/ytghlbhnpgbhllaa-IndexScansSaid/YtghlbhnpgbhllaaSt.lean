/-
  The statement IndexStops' walk. A contract, no statement.
-/
import Derived.Test.YtghlbhnpgbhllaaRu
namespace Go.Proofs.Ytghlbhnpgbhllaa
open Go Go.RowKit Go.Shelf Go.Maps
attribute [local go_sem] Oper.semAt_some

theorem putN_in (z : Nat → Cl) : ∀ k, ∀ x ∈ putN z k, InR x
  | 0 => fun x hx => by cases hx
  | k + 1 => by
    intro x hx
    rcases mem_put.1 (show x ∈ put (putN z k) (it3 (z k).i) from hx) with rfl | ⟨hx, _⟩
    · exact and3x _
    · exact putN_in z k x hx
theorem and31x (x : Int) : 0 ≤ bits .and .i64 x 31 ∧ bits .and .i64 x 31 ≤ 31 := by
  show 0 ≤ IntKind.i64.wrap ((BitVec.ofInt 64 x &&& BitVec.ofInt 64 31).toNat : Int) ∧ IntKind.i64.wrap ((BitVec.ofInt 64 x &&& BitVec.ofInt 64 31).toNat : Int) ≤ 31
  have h : (BitVec.ofInt 64 x &&& BitVec.ofInt 64 31).toNat ≤ 31 := by
    rw [BitVec.toNat_and]
    exact Nat.and_le_right
  rw [IntWalk.i64_in _ (by omega)]
  omega

set_option maxRecDepth 100000 in
set_option maxHeartbeats 8000000 in
theorem stops_walk (W : World) (a : Option Addr) (n cap : Nat) (z : Nat → Cl) (stop : Int) (hn : n ≤ 9223372036854775807) (hsz : ∀ i, (z i).i.k.size ≤ 140737488355328 ∧ (z i).i.v.size ≤ 140737488355328) (hz : Cls W a n z)
    (_ht1 : -9223372036854775808 ≤ stop) (_ht2 : stop ≤ 9223372036854775807) :
    Calls Try.prog 5 #[.slice a n cap, .int .i64 stop] W fun e W' => e = .returned (.bool true) ∧ Below W.heap.size W W' := by
  refine (callsIn_wide (n := 9)).1 ?_
  refine callsIn_of_wp_marks Try.func5 rfl trivial (wpIn_wide.2 ?_)
  simp only [Try.ntmps5, List.size_toArray, List.length_cons, List.length_nil, Nat.reduceAdd, Nat.reduceSub, Array.replicate_succ, Array.replicate_zero, List.push_toArray, List.append_toArray, List.nil_append, List.cons_append]
  clear _ht1 _ht2
  go_wp2_with fail
  obtain ⟨SB, hSB⟩ : ∃ N, W.heap.size = N := ⟨_, rfl⟩
  obtain ⟨RB, hRB⟩ : ∃ N, W.heap.size + 1 = N := ⟨_, rfl⟩
  have h1 := ((At.startR W).alloc' hSB (.cells #[.int .i64 stop] 3)).alloc' (show _ = RB by simp [hRB]) (.cells #[.bool false] 4)
  have hfit := fit_any W _ _ h1
  rw [hRB, hSB]
  refine hfit.mono ?_
  rintro e w1 ⟨rfl, h2⟩
  have hz2 := fun w' (h : At W (pt RB (.cells #[.bool false] 4) * (pt SB (.cells #[.int .i64 stop] 3) * (old W * 1))) w') => show Cls w' a n z from fun i hi => by
    obtain ⟨b, o, e, c0, c1, c2, c3, c4, c5⟩ := hz i hi
    exact ⟨b, o, e, h.pull3.old_cell c0, h.pull3.old_cell c1, h.pull3.old_cell c2, h.pull3.old_cell c3, h.pull3.old_cell c4, h.pull3.old_cell c5⟩
  have hli := light_any W _ _ a n cap z hn (fun i => by have := hsz i; omega) h2 hz2
  have Hz := hide hz
  clear hfit h1 hz hRB hSB hsz hz2
  go_wp2_with fail
  refine hli.mono ?_
  rintro e w2 ⟨h4, hlr⟩
  rcases hlr with ⟨rfl, hl⟩ | rfl
  · have hn120 := hl.1
    have hzk : ∀ q, q < n → (z q).i.k.size ≤ 100 := fun q hq => by
      have h0 : (z q).i.k.size + (z q).i.v.size ≤ 100 := hl.2 q hq
      omega
    have Hzk := hide hzk
    clear hl hli h2 hzk
    obtain ⟨X, hX⟩ : ∃ N, w2.heap.size = N := ⟨_, rfl⟩
    have h5a := At.ixb_new (h4.alloc' hX (.cells #[.slice none 0 0] 27))
    have h5 := At.mpi_new h5a
    rw [show (w2.alloc (.cells #[.slice none 0 0] 27)).heap.size = X + 1 by simp [hX]] at h5
    have hmm := @run_makeMap Try.prog
    have HX := hide hX
    clear hX h4 h5a
    go_wp2_with fail
    clear hmm
    try rw [HX.out]
    clear HX
    generalize X + 1 = M at h5 ⊢
    have h6 := h5.cast (show _ = ixb X (putN z 0) * (mpi M 0 (putN z 0) * (cel RB #[.bool false] 4 * (pt SB (.cells #[.int .i64 stop] 3) * (old W * 1)))) by
      show mpi M 0 [] * (ixb X [] * (cel RB _ _ * _)) = ixb X [] * (mpi M 0 [] * (cel RB _ _ * _))
      ac_rfl)
    clear h5
    go_loopw [20] (fun u wr => ∃ k nn : Nat, k ≤ n ∧ nn ≤ k ∧ u = .int .i64 k ∧ At W (ixb X (putN z k) * (mpi M nn (putN z k) * (cel RB #[.bool false] 4 * (pt SB (.cells #[.int .i64 stop] 3) * (old W * 1))))) wr) (fun u _ => n - (intOf u).toNat)
    case atStart => exact ⟨0, 0, Nat.zero_le _, Nat.zero_le _, rfl, h6⟩
    case round =>
      obtain ⟨k, nn, hk, hnn, rfl, h7⟩ := hrel
      clear h6
      by_cases hkn : k < n
      · obtain ⟨b, o, rfl, c0, c1, c2, c3, c4, c5⟩ := Hz.out k hkn
        have d0 := h7.pull5.old_cell c0
        have d1 := h7.pull5.old_cell c1
        have d2 := h7.pull5.old_cell c2
        have d3 := h7.pull5.old_cell c3
        have d4 := h7.pull5.old_cell c4
        have d5 := h7.pull5.old_cell c5
        have hkz : (k : Int) < (n : Int) := by omega
        have hck := Hzk.out k hkn
        have hct := and3x (z k).i.t
        have hol := putN_len z k
        have hos := putN_sorted z k
        have Hin := hide (putN_in z k)
        have Hstep := hide (show putN z (k + 1) = put (putN z k) ⟨bits .and .i64 (z k).i.t 3, (z k).i.k, (z k).i.v, (z k).i.p, (z k).i.s⟩ from rfl)
        obtain ⟨C, hC⟩ : ∃ N, wr.heap.size = N := ⟨_, rfl⟩
        have h8 := (h7.alloc' hC (.cells #[.int .i64 (z k).k, .int .i64 (bits .and .i64 (z k).i.t 3), .string (z k).i.k, .string (z k).i.v, .int .i64 (z k).i.p, .int .i64 (z k).i.s] 33))
        have HC := hide hC
        clear c0 c1 c2 c3 c4 c5 hC h7
        obtain ⟨L1, hL1⟩ : ∃ L1, putN z (k + 1) = L1 := ⟨_, rfl⟩
        rw [hL1] at Hstep
        have HL1 := hide hL1
        clear hL1
        generalize putN z k = L at *
        generalize (z k).i.t = ct at *
        generalize (z k).i.k = ck at *
        generalize (z k).i.v = cv at *
        generalize (z k).i.p = cp2 at *
        generalize (z k).i.s = cs at *
        generalize (z k).k = cc at *
        have hput := put_any W _ _ X L ⟨bits .and .i64 ct 3, ck, cv, cp2, cs⟩ hos (by omega) h8.pull2
        simp only at hput
        go_wp2_with fail
        rw [HC.out]
        clear HC d0 d1 d2 d3 d4 d5
        refine hput.mono ?_
        rintro e w8 ⟨rfl, h9⟩
        generalize bits .and .i64 ct 3 = c3t at *
        have e1 : L1 = put L ⟨c3t, ck, cv, cp2, cs⟩ := Hstep.out
        rw [← e1] at h9
        clear hput h8
        have h10 := h9.pull2
        go_wp2_with fail
        have hS : ∀ w', At W (pt C (.cells #[.int .i64 cc, .int .i64 c3t, .string ck, .string cv, .int .i64 cp2, .int .i64 cs] 33) * (ixb X L1 * (mpi M nn L * (cel RB #[.bool false] 4 * (pt SB (.cells #[.int .i64 stop] 3) * (old W * 1)))))) w' → (w'.cell? ⟨C, 1, none⟩ = some (.int .i64 c3t) ∧ w'.cell? ⟨C, 2, none⟩ = some (.string ck) ∧ w'.cell? ⟨C, 3, none⟩ = some (.string cv) ∧ w'.cell? ⟨C, 4, none⟩ = some (.int .i64 cp2) ∧ w'.cell? ⟨C, 5, none⟩ = some (.int .i64 cs)) := fun w' h =>
          ⟨At.cell (i := 1) (b := C) h rfl, At.cell (i := 2) (b := C) h rfl, At.cell (i := 3) (b := C) h rfl, At.cell (i := 4) (b := C) h rfl, At.cell (i := 5) (b := C) h rfl⟩
        have hcall := fun (w1 : World) h => name_any W w1 (pt C (.cells #[.int .i64 cc, .int .i64 c3t, .string ck, .string cv, .int .i64 cp2, .int .i64 cs] 33) * (ixb X L1 * (mpi M nn L * (cel RB #[.bool false] 4 * (pt SB (.cells #[.int .i64 stop] 3) * (old W * 1)))))) ⟨c3t, ck, cv, cp2, cs⟩ hct (by show ck.size ≤ _; omega) h
        simp only at hcall
        refine wp_region_held_line 6 [6] (fun w' => At W (pt C (.cells #[.int .i64 cc, .int .i64 c3t, .string ck, .string cv, .int .i64 cp2, .int .i64 cs] 33) * (ixb X L1 * (mpi M nn L * (cel RB #[.bool false] 4 * (pt SB (.cells #[.int .i64 stop] 3) * (old W * 1)))))) w') rfl (by kernel_rfl) h10.drew ?_
        simp only [List.take_succ_cons, List.take_zero]
        refine held_read (.map (some M)) rfl (fun w' hw => ?_) ?_
        · go_simp
        refine held_read (.pointer (some ⟨C, 1, none⟩)) rfl (fun w' hw => ?_) ?_
        · go_simp
        refine held_read (.agg #[.int .i64 c3t, .string ck, .string cv, .int .i64 cp2, .int .i64 cs]) rfl (fun w' hw => ?_) ?_
        · obtain ⟨q1, q2, q3, q4, q5⟩ := hS w' hw
          go_simp
        refine held_call (.string (nmB ⟨c3t, ck, cv, cp2, cs⟩)) 14 #[.agg #[.int .i64 c3t, .string ck, .string cv, .int .i64 cp2, .int .i64 cs]] rfl (fun w' => by go_simp) (fun w' hw => hcall _ hw) ?_
        refine held_read (.pointer (some ⟨C, 1, none⟩)) rfl (fun w' hw => ?_) ?_
        · go_simp
        refine held_read (.agg #[.int .i64 c3t, .string ck, .string cv, .int .i64 cp2, .int .i64 cs]) rfl (fun w' hw => ?_) ?_
        · obtain ⟨q1, q2, q3, q4, q5⟩ := hS w' hw
          go_simp
        refine held_skip fun w5 h13 => ?_
        simp only [picks_cons, picks_nil, getD_zero, getD_succ]
        obtain ⟨w6, hrun, h14⟩ := mpi_store h13.pull3 ⟨c3t, ck, cv, cp2, cs⟩ (by show ck.size ≤ _; omega) hos hct Hin.out (by unfold maxLen; omega)
        rw [← e1] at h14
        unfold It.agg at hrun
        clear h9 h10 hS hcall h13
        refine wpList_mapUpdate_eq rfl _ _ _ _ rfl (.map (some M)) (.string (nmB ⟨c3t, ck, cv, cp2, cs⟩)) (.agg #[.int .i64 c3t, .string ck, .string cv, .int .i64 cp2, .int .i64 cs]) (by go_simp) (by go_simp) (by go_simp) hrun ?_
        go_wp2_with fail
        refine ⟨by kernel_rfl, ?_⟩
        go_wp2_with fail
        go_roundw
        case rel => exact ⟨k + 1, nn + 1, by omega, by omega, by go_num, by rw [HL1.out]; exact h14.pull2.r.pull2⟩
        case measure => simp [intOf]; omega
      · obtain rfl : n = k := by omega
        have hls := putN_sorted z n
        have hll := putN_len z n
        have hin := putN_in z n
        obtain ⟨L, hL⟩ : ∃ L, putN z n = L := ⟨_, rfl⟩
        rw [hL] at hls hll hin h7
        clear hL
        have hso := sorted_any W _ _ M nn L hls hin (by omega) h7.pull2
        clear Hz
        go_wp2_with fail
        refine hso.mono ?_
        rintro e w9 ⟨a5, c5, rfl, h8⟩
        obtain ⟨Lb, hLb⟩ : ∃ N, w9.heap.size = N := ⟨_, rfl⟩
        have h9 := At.lsb_shut (l := L) (h8.alloc' hLb (.cells #[.slice a5 L.length c5] 25))
        have hs0 := At.cell (i := 0) h9.pull5 rfl
        have hsf := At.frz h9.pull5 0
        have hsl := At.lt h9.pull5
        have hst := and31x stop
        have HLb := hide hLb
        clear hso h7 h8 hLb
        go_wp2_with fail
        rw [HLb.out]
        have h10 := (h9.pull5.set' (d := #[.int .i64 (bits .and .i64 stop 31)]) 0 (.int .i64 (bits .and .i64 stop 31)) rfl).alloc' (show _ = Lb + 1 by simp [HLb.out]) (.cells #[.int .i64 0] 3)
        clear HLb hs0 hsf hsl h9
        generalize Lb + 1 = Mo at h10 ⊢
        generalize bits .and .i64 stop 31 = st at *
        have hon2 := all_on W X L (by omega)
        refine wpIn_wide.1 (wp_rangeFunc_on (n := 9) (w0 := W) rfl (enters_of Try.func16 (by kernel_rfl) rfl) hon2 (fun _ => rfl)
          (fun pre => fact ((pre.length : Int) ≤ st) * (cel Mo #[.int .i64 (pre.length : Int)] 3 * (lsb Lb L * cel SB #[.int .i64 st] 3))) (fun o => fact (o = some 2 ∧ st ≤ (L.length : Int)) * (ixb X L * (cel Mo #[.int .i64 st] 3 * (lsb Lb L * cel SB #[.int .i64 st] 3)))) (mpi M nn L * (cel RB #[.bool false] 4 * (old W * 1)))
          ((At.mkfact (show ((([] : List It).length : Nat) : Int) ≤ st from hst.1) h10).cast (show _ = ixb X L * ((fact ((([] : List It).length : Int) ≤ st) * (cel Mo #[.int .i64 0] 3 * (lsb Lb L * cel SB #[.int .i64 st] 3))) * (mpi M nn L * (cel RB #[.bool false] 4 * (old W * 1)))) by
            show fact _ * (cel Mo _ _ * (cel SB _ _ * (lsb Lb L * _))) = _
            ac_rfl)) ?_ ?_ ?_)
        · intro l pre x B1 W1 hp hJ
          simp only [encIt]
          obtain ⟨hpl, hpx⟩ := pre_get hp
          obtain ⟨hle, hJ⟩ := (hJ.cast (show _ = fact ((pre.length : Int) ≤ st) * (ixb X L * (cel Mo #[.int .i64 (pre.length : Int)] 3 * (lsb Lb L * (cel SB #[.int .i64 st] 3 * B1)))) by ac_rfl)).factl
          have Hle := hide hle
          clear hle
          gi_wp2
          obtain ⟨O, hO⟩ : ∃ N, W1.heap.size = N := ⟨_, rfl⟩
          have hJ1 := (hJ.alloc' hO (.cells #[.int .i64 x.t, .string x.k, .string x.v, .int .i64 x.p, .int .i64 x.s] 31)).cast (show _ = (pt O (.cells #[.int .i64 x.t, .string x.k, .string x.v, .int .i64 x.p, .int .i64 x.s] 31) * (ixb X L * (cel Mo #[.int .i64 (pre.length : Int)] 3 * (lsb Lb L * cel SB #[.int .i64 st] 3)))) * B1 by ac_rfl)
          rw [hO]
          clear hO
          refine ⟨_, hJ1, fun B2 W2 hJ2 => ?_⟩
          clear hJ hJ1 hp
          have h15 := hJ2.cast (show _ = lsb Lb L * (cel Mo #[.int .i64 (pre.length : Int)] 3 * (pt O (.cells #[.int .i64 x.t, .string x.k, .string x.v, .int .i64 x.p, .int .i64 x.s] 31) * (cel SB #[.int .i64 st] 3 * (ixb X L * B2)))) by ac_rfl)
          obtain ⟨a5, c5, h16⟩ := h15.lsb_open
          obtain ⟨p1, q1, e1, hle1, hcell1⟩ := h16.pull2.row_ptr (by omega)
          cases e1
          obtain ⟨y0, y1, y2, y3, y4⟩ := its_five hpl
          rw [hpx] at y0 y1 y2 y3 y4
          have c10 := hcell1 _ _ y0
          have c11 := hcell1 _ _ y1
          have c12 := hcell1 _ _ y2
          have c13 := hcell1 _ _ y3
          have c14 := hcell1 _ _ y4
          have hb0 := At.cell (i := 0) h16 rfl
          have hm0 := At.cell (i := 0) h16.pull3 rfl
          have hmf := At.frz h16.pull3 0
          have hml := At.lt h16.pull3
          have hx0 := At.cell (i := 0) (b := O) h16.pull4 rfl
          have hx1 := At.cell (i := 1) (b := O) h16.pull4 rfl
          have hx2 := At.cell (i := 2) (b := O) h16.pull4 rfl
          have hx3 := At.cell (i := 3) (b := O) h16.pull4 rfl
          have hx4 := At.cell (i := 4) (b := O) h16.pull4 rfl
          have hs0 := At.cell (i := 0) (b := SB) h16.pull5 rfl
          have hne : ((pre.length : Int) == (L.length : Int)) = false := by rw [beq_eq_false_iff_ne]; omega
          clear hcell1 y0 y1 y2 y3 y4 hpx hJ2 h16
          cases hsp : ((pre.length : Int) == st) with
          | true =>
            gi_wp2
            have hes : (pre.length : Int) = st := by simpa using hsp
            show At W ((fact (some 2 = some 2 ∧ st ≤ (L.length : Int)) * (ixb X L * (cel Mo #[.int .i64 st] 3 * (lsb Lb L * cel SB #[.int .i64 st] 3)))) * B2) _
            rw [hes] at h15
            exact (At.mkfact (show some (2 : Nat) = some 2 ∧ st ≤ (L.length : Int) from ⟨rfl, by omega⟩) h15.pull3.r).cast (by ac_rfl)
          | false =>
            gi_wp2
            refine wpIn_region_line [0, 1, 2, 3, 4, 5, 6, 7, 8, 9, 10, 11] rfl (by kernel_rfl) rfl ?_
            simp only [picks_cons, picks_nil, getD_zero, getD_succ]
            go_wp2_with fail
            refine ⟨by kernel_rfl, ?_⟩
            gi_wp2
            have h17 := (h15.pull2.drew.set' (d := #[.int .i64 ((pre.length : Int) + 1)]) 0 (.int .i64 ((pre.length : Int) + 1)) rfl)
            have hns : (pre.length : Int) ≠ st := by simpa using hsp
            have hlo := Hle.out
            show At W ((ixb X L * (fact (((pre ++ [x]).length : Int) ≤ st) * (cel Mo #[.int .i64 ((pre ++ [x]).length : Int)] 3 * (lsb Lb L * cel SB #[.int .i64 st] 3)))) * B2) _
            rw [List.length_append, List.length_singleton, show (((pre.length + 1 : Nat) : Int)) = (pre.length : Int) + 1 by omega]
            exact (At.mkfact (show (pre.length : Int) + 1 ≤ st by omega) h17.pull3.r).cast (by ac_rfl)
        · intro D2 u2 h93
          clear h10 hon2
          obtain ⟨hle, h93⟩ := (h93.cast (show _ = fact ((L.length : Int) ≤ st) * (ixb X L * ((cel Mo #[.int .i64 (L.length : Int)] 3 * (lsb Lb L * cel SB #[.int .i64 st] 3)) * (pt D2 (.deferred (some [])) * (mpi M nn L * (cel RB #[.bool false] 4 * (old W * 1)))))) by ac_rfl)).factl
          rcases Int.lt_or_eq_of_le hle with hlt | heq
          · clear hle
            have h94 := h93.cast (show _ = lsb Lb L * (cel Mo #[.int .i64 (L.length : Int)] 3 * (cel RB #[.bool false] 4 * (cel SB #[.int .i64 st] 3 * (pt D2 (.deferred (some [])) * (ixb X L * (mpi M nn L * (old W * 1))))))) by ac_rfl)
            obtain ⟨a5, c5, h95⟩ := h94.lsb_open
            have hb0 := At.cell (i := 0) h95 rfl
            have hm0 := At.cell (i := 0) h95.pull3 rfl
            have hs0 := At.cell (i := 0) h95.pull5 rfl
            have hr0 := At.cell (i := 0) h94.pull3 rfl
            have hrf := At.frz h94.pull3 0
            have hrl := At.lt h94.pull3
            clear h95
            go_wp2_with fail
            all_goals
              have h96 := (At.set' (d := #[.bool true]) h94.pull3 0 (.bool true) rfl).pull5
              refine ⟨by simp, .inl ⟨_, _, rfl, run_takeDeferred (At.blk h96), ?_⟩⟩
              have h98 := At.putObj h96 (.deferred none)
              have hc := At.cell (i := 0) h98.pull2 rfl
              refine ⟨.bool true, ?_, rfl, ?_⟩
              · simp [results, Try.results5, go_sem, hc]
              · exact (h98.r.r.r.r.r.r.r).below
          · subst heq
            have h94 := h93.cast (show _ = lsb Lb L * (cel Mo #[.int .i64 (L.length : Int)] 3 * (cel RB #[.bool false] 4 * (cel SB #[.int .i64 (L.length : Int)] 3 * (pt D2 (.deferred (some [])) * (ixb X L * (mpi M nn L * (old W * 1))))))) by ac_rfl)
            obtain ⟨a5, c5, h95⟩ := h94.lsb_open
            have hb0 := At.cell (i := 0) h95 rfl
            have hm0 := At.cell (i := 0) h95.pull3 rfl
            have hs0 := At.cell (i := 0) h95.pull5 rfl
            have hr0 := At.cell (i := 0) h94.pull3 rfl
            have hrf := At.frz h94.pull3 0
            have hrl := At.lt h94.pull3
            clear h95
            go_wp2_with fail
            all_goals
              have h96 := (At.set' (d := #[.bool true]) h94.pull3 0 (.bool true) rfl).pull5
              refine ⟨by simp, .inl ⟨_, _, rfl, run_takeDeferred (At.blk h96), ?_⟩⟩
              have h98 := At.putObj h96 (.deferred none)
              have hc := At.cell (i := 0) h98.pull2 rfl
              refine ⟨.bool true, ?_, rfl, ?_⟩
              · simp [results, Try.results5, go_sem, hc]
              · exact (h98.r.r.r.r.r.r.r).below
        · intro o D2 u2 h93
          clear h10 hon2
          obtain ⟨⟨ho, hle⟩, h93b⟩ := (h93.cast (show _ = fact (o = some 2 ∧ st ≤ (L.length : Int)) * (ixb X L * ((cel Mo #[.int .i64 st] 3 * (lsb Lb L * cel SB #[.int .i64 st] 3)) * (pt D2 (.deferred (some [])) * (mpi M nn L * (cel RB #[.bool false] 4 * (old W * 1)))))) by ac_rfl)).factl
          clear h93
          subst ho
          unfold pend
          refine wpIn_wide.2 ?_
          rcases Int.lt_or_eq_of_le hle with hlt | heq
          · clear hle
            have h94 := h93b.cast (show _ = lsb Lb L * (cel Mo #[.int .i64 st] 3 * (cel RB #[.bool false] 4 * (cel SB #[.int .i64 st] 3 * (pt D2 (.deferred (some [])) * (ixb X L * (mpi M nn L * (old W * 1))))))) by ac_rfl)
            obtain ⟨a5, c5, h95⟩ := h94.lsb_open
            have hb0 := At.cell (i := 0) h95 rfl
            have hm0 := At.cell (i := 0) h95.pull3 rfl
            have hs0 := At.cell (i := 0) h95.pull5 rfl
            have hr0 := At.cell (i := 0) h94.pull3 rfl
            have hrf := At.frz h94.pull3 0
            have hrl := At.lt h94.pull3
            clear h95
            go_wp2_with fail
            all_goals
              have h96 := (At.set' (d := #[.bool true]) h94.pull3 0 (.bool true) rfl).pull5
              refine ⟨by simp, .inl ⟨_, _, rfl, run_takeDeferred (At.blk h96), ?_⟩⟩
              have h98 := At.putObj h96 (.deferred none)
              have hc := At.cell (i := 0) h98.pull2 rfl
              refine ⟨.bool true, ?_, rfl, ?_⟩
              · simp [results, Try.results5, go_sem, hc]
              · exact (h98.r.r.r.r.r.r.r).below
          · subst heq
            have h94 := h93b.cast (show _ = lsb Lb L * (cel Mo #[.int .i64 (L.length : Int)] 3 * (cel RB #[.bool false] 4 * (cel SB #[.int .i64 (L.length : Int)] 3 * (pt D2 (.deferred (some [])) * (ixb X L * (mpi M nn L * (old W * 1))))))) by ac_rfl)
            obtain ⟨a5, c5, h95⟩ := h94.lsb_open
            have hb0 := At.cell (i := 0) h95 rfl
            have hm0 := At.cell (i := 0) h95.pull3 rfl
            have hs0 := At.cell (i := 0) h95.pull5 rfl
            have hr0 := At.cell (i := 0) h94.pull3 rfl
            have hrf := At.frz h94.pull3 0
            have hrl := At.lt h94.pull3
            clear h95
            go_wp2_with fail
            all_goals
              have h96 := (At.set' (d := #[.bool true]) h94.pull3 0 (.bool true) rfl).pull5
              refine ⟨by simp, .inl ⟨_, _, rfl, run_takeDeferred (At.blk h96), ?_⟩⟩
              have h98 := At.putObj h96 (.deferred none)
              have hc := At.cell (i := 0) h98.pull2 rfl
              refine ⟨.bool true, ?_, rfl, ?_⟩
              · simp [results, Try.results5, go_sem, hc]
              · exact (h98.r.r.r.r.r.r.r).below
  · clear hli h2
    have hr0 := At.cell (i := 0) h4 rfl
    have hrf := At.frz h4 0
    have hrl := At.lt h4
    go_wp2_with fail
    have h9 := At.set' (d := #[.bool true]) h4 0 (.bool true) rfl
    have hc := At.cell (i := 0) h9 rfl
    refine ⟨.bool true, ?_, rfl, h9.pull3.below⟩
    simp [results, Try.results5, go_sem, hc]
end Go.Proofs.Ytghlbhnpgbhllaa
