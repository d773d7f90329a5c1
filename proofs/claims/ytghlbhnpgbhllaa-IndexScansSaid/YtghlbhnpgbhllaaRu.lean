/-
  The statement IndexRuns' walk. A contract, no statement.
-/
import Derived.Test.YtghlbhnpgbhllaaNa
import Derived.Test.YtghlbhnpgbhllaaRh
import Derived.Test.YtghlbhnpgbhllaaSo
namespace Go.Proofs.Ytghlbhnpgbhllaa
open Go Go.RowKit Go.Shelf Go.Maps
attribute [local go_sem] Oper.semAt_some

section
variable {P : Program} {ops : Array Oper} {rest : List Oper} {o : Oper} {a : Act} {w : World} {Q : Exit → Act → World → Prop}
theorem wpList_lookup_eq (hg : o.guard = none) (m x : Operand) (t : TypeId) (hop : o.op = Op.lookup t m x true) (vm vx : Value) (hm : a.eval m = vm) (hx : a.eval x = vx) {v' : Value} {w' : World}
    (hr : (Instr.lookup t vm vx true).run P w = .ok v' w') (h : wpList P ops Q rest (a.put o.dst v') w') : wpList P ops Q (o :: rest) a w := by
  refine wpList_plain hg fun K' hK' => ?_
  unfold Oper.wp
  simp [execOp, hop, hm, hx, hr, Result.andThen]
  exact hK' _ _ h
theorem wpList_len_eq (hw : Region.wanted o (yielded ops a.tmps) = true) (m : Operand) (t : TypeId) (hop : o.op = Op.call { callee := Callee.builtin Builtin.len, args := #[m], argTypes := #[t] }) (vm : Value) (hm : a.eval m = vm) {v' : Value} {w' : World}
    (hr : (Builtin.len_ #[t] o.type #[vm]).run P w = .ok v' w') (h : wpList P ops Q rest (a.put o.dst v') w') : wpList P ops Q (o :: rest) a w := by
  refine wpList_step fun K' hK' => ?_
  rw [if_pos hw]
  unfold Oper.wp
  simp [execOp, hop, resolve, invoke, builtin, hm, hr, Result.andThen]
  exact hK' _ _ h
end

theorem find_both (w0 w : World) (R : HP) (b : Nat) (l : List It) (t : Int) (k : ByteArray) (hs : Sorted l) (hn : l.length ≤ 1000) (h : At w0 (ixb b l * R) w) :
    Calls Try.prog 17 #[.pointer (some ⟨b, 0, none⟩), .int .i64 t, .string k] w fun e w' => e = .returned (.tuple #[((fnd l t k).getD zeroIt).agg, .bool (has l t k)]) ∧ At w0 (ixb b l * R) w' := by
  cases hh : has l t k with
  | true =>
    obtain ⟨y, _, hfy, _⟩ := fnd_has hs hh
    rw [hfy]
    exact find_yes w0 w R b l t k y hs hn hfy h
  | false =>
    have : fnd l t k = none := by
      cases hf : fnd l t k with
      | none => rfl
      | some x =>
        have := has_iff.2 ⟨x, (fnd_iff hs).1 hf⟩
        rw [hh] at this; cases this
    rw [this]
    exact find_no w0 w R b l t k hs hn hh h

theorem pre_get {α : Type} {l pre : List α} {x : α} (hp : pre ++ [x] <+: l) : ∃ h : pre.length < l.length, l[pre.length] = x := by
  have h1 := hp.length_le
  rw [List.length_append, List.length_singleton] at h1
  refine ⟨by omega, ?_⟩
  have h2 := hp.getElem (i := pre.length) (by simp)
  rw [← h2]
  simp

/-- What the calls come to, one by one. -/
def runN (z : Nat → Cl) : Nat → List It
  | 0 => []
  | k + 1 => if bits .and .i64 (z k).k 1 == 0 then put (runN z k) (it3 (z k).i) else del (runN z k) (it3 (z k).i).t (it3 (z k).i).k
theorem runN_sorted (z : Nat → Cl) : ∀ k, Sorted (runN z k)
  | 0 => sorted_nil
  | k + 1 => by
    unfold runN
    split
    · exact sorted_put (runN_sorted z k) _
    · exact sorted_del (runN_sorted z k) _ _
theorem runN_len (z : Nat → Cl) : ∀ k, (runN z k).length ≤ k
  | 0 => Nat.le_refl _
  | k + 1 => by
    have h1 := runN_len z k
    unfold runN
    split
    · rw [len_put (runN_sorted z k)]
      split <;> omega
    · have : (del (runN z k) (it3 (z k).i).t (it3 (z k).i).k).length ≤ (runN z k).length := List.length_filter_le _ _
      omega
theorem runN_in (z : Nat → Cl) : ∀ k, ∀ x ∈ runN z k, InR x
  | 0 => fun x hx => by cases hx
  | k + 1 => by
    unfold runN
    split
    · intro x hx
      rcases mem_put.1 hx with rfl | ⟨hx, _⟩
      · exact and3x _
      · exact runN_in z k x hx
    · intro x hx
      exact runN_in z k x (mem_del.1 hx).1

set_option maxRecDepth 100000 in
set_option maxHeartbeats 8000000 in
theorem runs_walk (W : World) (a : Option Addr) (n cap : Nat) (z : Nat → Cl) (hn : n ≤ 9223372036854775807) (hsz : ∀ i, (z i).i.k.size ≤ 140737488355328 ∧ (z i).i.v.size ≤ 140737488355328) (hz : Cls W a n z) :
    Calls Try.prog 8 #[.slice a n cap] W fun e W' => e = .returned (.bool true) ∧ Below W.heap.size W W' := by
  refine (callsIn_wide (n := 9)).1 ?_
  refine callsIn_of_wp_marks Try.func8 rfl trivial (wpIn_wide.2 ?_)
  simp only [Try.ntmps8, List.size_toArray, List.length_cons, List.length_nil, Nat.reduceAdd, Nat.reduceSub, Array.replicate_succ, Array.replicate_zero, List.push_toArray, List.append_toArray, List.nil_append, List.cons_append]
  go_wp2_with fail
  obtain ⟨RB, hRB⟩ : ∃ N, W.heap.size = N := ⟨_, rfl⟩
  have h1 := (At.startR W).alloc' hRB (.cells #[.bool false] 4)
  have hfit := fit_any W _ _ h1
  rw [hRB]
  refine hfit.mono ?_
  rintro e w1 ⟨rfl, h2⟩
  have hz2 := fun w' (h : At W (pt RB (.cells #[.bool false] 4) * (old W * 1)) w') => show Cls w' a n z from fun i hi => by
    obtain ⟨b, o, e, c0, c1, c2, c3, c4, c5⟩ := hz i hi
    exact ⟨b, o, e, h.pull2.old_cell c0, h.pull2.old_cell c1, h.pull2.old_cell c2, h.pull2.old_cell c3, h.pull2.old_cell c4, h.pull2.old_cell c5⟩
  have hli := light_any W _ _ a n cap z hn (fun i => by have := hsz i; omega) h2 hz2
  have Hz := hide hz
  have HRB := hide hRB
  clear hfit h1 hz hRB hsz hz2
  go_wp2_with fail
  refine hli.mono ?_
  rintro e w2 ⟨h4, hlr⟩
  rcases hlr with ⟨rfl, hl⟩ | rfl
  · have hn120 := hl.1
    have hzk : ∀ q, q < n → (z q).i.k.size ≤ 100 := fun q hq => by
      have h0 : (z q).i.k.size + (z q).i.v.size ≤ 100 := hl.2 q hq
      omega
    have Hzk := hide hzk
    clear hl hli h2 hzk
    obtain ⟨X, hX⟩ : ∃ N, w2.heap.size = N := ⟨_, rfl⟩
    have h5a := At.ixb_new (h4.alloc' hX (.cells #[.slice none 0 0] 27))
    have h5 := At.mpi_new h5a
    rw [show (w2.alloc (.cells #[.slice none 0 0] 27)).heap.size = X + 1 by simp [hX]] at h5
    have hmm := @run_makeMap Try.prog
    have HX := hide hX
    clear hX h4 h5a
    go_wp2_with fail
    clear hmm
    try rw [HX.out]
    clear HX
    generalize X + 1 = M at h5 ⊢
    have h6 := h5.cast (show _ = ixb X (runN z 0) * (mpi M 0 (runN z 0) * (cel RB #[.bool false] 4 * (old W * 1))) by
      show mpi M 0 [] * (ixb X [] * (cel RB _ _ * _)) = ixb X [] * (mpi M 0 [] * (cel RB _ _ * _))
      ac_rfl)
    clear h5
    go_loopw [22] (fun u wr => ∃ k nn : Nat, k ≤ n ∧ nn ≤ k ∧ u = .int .i64 k ∧ At W (ixb X (runN z k) * (mpi M nn (runN z k) * (cel RB #[.bool false] 4 * (old W * 1)))) wr) (fun u _ => n - (intOf u).toNat)
    case atStart => exact ⟨0, 0, Nat.zero_le _, Nat.zero_le _, rfl, h6⟩
    case round =>
      obtain ⟨k, nn, hk, hnn, rfl, h7⟩ := hrel
      clear h6
      by_cases hkn : k < n
      · obtain ⟨b, o, rfl, c0, c1, c2, c3, c4, c5⟩ := Hz.out k hkn
        have d0 := h7.pull4.old_cell c0
        have d1 := h7.pull4.old_cell c1
        have d2 := h7.pull4.old_cell c2
        have d3 := h7.pull4.old_cell c3
        have d4 := h7.pull4.old_cell c4
        have d5 := h7.pull4.old_cell c5
        have hkz : (k : Int) < (n : Int) := by omega
        have hck := Hzk.out k hkn
        have hct := and3x (z k).i.t
        have hol := runN_len z k
        have hos := runN_sorted z k
        have Hin := hide (runN_in z k)
        have Hstep := hide (show runN z (k + 1) = if bits .and .i64 (z k).k 1 == 0 then put (runN z k) ⟨bits .and .i64 (z k).i.t 3, (z k).i.k, (z k).i.v, (z k).i.p, (z k).i.s⟩ else del (runN z k) (bits .and .i64 (z k).i.t 3) (z k).i.k from rfl)
        obtain ⟨C, hC⟩ : ∃ N, wr.heap.size = N := ⟨_, rfl⟩
        have h8 := (h7.alloc' hC (.cells #[.int .i64 (z k).k, .int .i64 (bits .and .i64 (z k).i.t 3), .string (z k).i.k, .string (z k).i.v, .int .i64 (z k).i.p, .int .i64 (z k).i.s] 33))
        have HC := hide hC
        clear c0 c1 c2 c3 c4 c5 hC h7
        have Hin1 := hide (runN_in z (k + 1))
        have hos1 := runN_sorted z (k + 1)
        have hol1 := runN_len z (k + 1)
        obtain ⟨L1, hL1⟩ : ∃ L1, runN z (k + 1) = L1 := ⟨_, rfl⟩
        rw [hL1] at Hstep Hin1 hos1 hol1
        have HL1 := hide hL1
        clear hL1
        generalize runN z k = L at *
        generalize (z k).i.t = ct at *
        generalize (z k).i.k = ck at *
        generalize (z k).i.v = cv at *
        generalize (z k).i.p = cp2 at *
        generalize (z k).i.s = cs at *
        generalize (z k).k = cc at *
        have hput := put_any W _ _ X L ⟨bits .and .i64 ct 3, ck, cv, cp2, cs⟩ hos (by omega) h8.pull2
        have hrm := remove_any W _ _ X L (bits .and .i64 ct 3) ck hos (by omega) h8.pull2
        simp only at hput
        cases hkd : (bits .and .i64 cc 1 == 0) with
        | true =>
          rw [hkd] at Hstep
          clear hrm
          go_wp2_with fail
          rw [HC.out]
          clear HC d0 d1 d2 d3 d4 d5
          refine hput.mono ?_
          rintro e w8 ⟨rfl, h9⟩
          generalize bits .and .i64 ct 3 = c3t at *
          have e1 : L1 = put L ⟨c3t, ck, cv, cp2, cs⟩ := by rw [Hstep.out, if_pos trivial]
          rw [← e1] at h9
          clear hput h8
          have h10 := h9.pull2
          go_wp2_with fail
          have hS : ∀ w', At W (pt C (.cells #[.int .i64 cc, .int .i64 c3t, .string ck, .string cv, .int .i64 cp2, .int .i64 cs] 33) * (ixb X L1 * (mpi M nn L * (cel RB #[.bool false] 4 * (old W * 1))))) w' → (w'.cell? ⟨C, 1, none⟩ = some (.int .i64 c3t) ∧ w'.cell? ⟨C, 2, none⟩ = some (.string ck) ∧ w'.cell? ⟨C, 3, none⟩ = some (.string cv) ∧ w'.cell? ⟨C, 4, none⟩ = some (.int .i64 cp2) ∧ w'.cell? ⟨C, 5, none⟩ = some (.int .i64 cs)) := fun w' h =>
            ⟨At.cell (i := 1) (b := C) h rfl, At.cell (i := 2) (b := C) h rfl, At.cell (i := 3) (b := C) h rfl, At.cell (i := 4) (b := C) h rfl, At.cell (i := 5) (b := C) h rfl⟩
          have hcall := fun (w1 : World) h => name_any W w1 (pt C (.cells #[.int .i64 cc, .int .i64 c3t, .string ck, .string cv, .int .i64 cp2, .int .i64 cs] 33) * (ixb X L1 * (mpi M nn L * (cel RB #[.bool false] 4 * (old W * 1))))) ⟨c3t, ck, cv, cp2, cs⟩ hct (by show ck.size ≤ _; omega) h
          simp only at hcall
          refine wp_region_held_line 6 [6] (fun w' => At W (pt C (.cells #[.int .i64 cc, .int .i64 c3t, .string ck, .string cv, .int .i64 cp2, .int .i64 cs] 33) * (ixb X L1 * (mpi M nn L * (cel RB #[.bool false] 4 * (old W * 1))))) w') rfl (by kernel_rfl) h10.drew ?_
          simp only [List.take_succ_cons, List.take_zero]
          refine held_read (.map (some M)) rfl (fun w' hw => ?_) ?_
          · go_simp
          refine held_read (.pointer (some ⟨C, 1, none⟩)) rfl (fun w' hw => ?_) ?_
          · go_simp
          refine held_read (.agg #[.int .i64 c3t, .string ck, .string cv, .int .i64 cp2, .int .i64 cs]) rfl (fun w' hw => ?_) ?_
          · obtain ⟨q1, q2, q3, q4, q5⟩ := hS w' hw
            go_simp
          refine held_call (.string (nmB ⟨c3t, ck, cv, cp2, cs⟩)) 14 #[.agg #[.int .i64 c3t, .string ck, .string cv, .int .i64 cp2, .int .i64 cs]] rfl (fun w' => by go_simp) (fun w' hw => hcall _ hw) ?_
          refine held_read (.pointer (some ⟨C, 1, none⟩)) rfl (fun w' hw => ?_) ?_
          · go_simp
          refine held_read (.agg #[.int .i64 c3t, .string ck, .string cv, .int .i64 cp2, .int .i64 cs]) rfl (fun w' hw => ?_) ?_
          · obtain ⟨q1, q2, q3, q4, q5⟩ := hS w' hw
            go_simp
          refine held_skip fun w5 h13 => ?_
          simp only [picks_cons, picks_nil, getD_zero, getD_succ]
          obtain ⟨w6, hrun, h14⟩ := mpi_store h13.pull3 ⟨c3t, ck, cv, cp2, cs⟩ (by show ck.size ≤ _; omega) hos hct Hin.out (by unfold maxLen; omega)
          rw [← e1] at h14
          unfold It.agg at hrun
          clear h9 h10 hS hcall h13
          refine wpList_mapUpdate_eq rfl _ _ _ _ rfl (.map (some M)) (.string (nmB ⟨c3t, ck, cv, cp2, cs⟩)) (.agg #[.int .i64 c3t, .string ck, .string cv, .int .i64 cp2, .int .i64 cs]) (by go_simp) (by go_simp) (by go_simp) hrun ?_
          go_wp2_with fail
          refine ⟨by kernel_rfl, ?_⟩
          have h15 := h14.cast (show _ = ixb X L1 * (mpi M (nn + 1) L1 * (pt C (.cells #[.int .i64 cc, .int .i64 c3t, .string ck, .string cv, .int .i64 cp2, .int .i64 cs] 33) * (cel RB #[.bool false] 4 * (old W * 1)))) by
            show mpi _ _ _ * (pt C _ * (ixb X L1 * _)) = _
            ac_rfl)
          clear h14 hrun e1
          have k1 := At.cell (i := 1) (b := C) h15.pull3 rfl
          have k2 := At.cell (i := 2) (b := C) h15.pull3 rfl
          have k3 := At.cell (i := 3) (b := C) h15.pull3 rfl
          have k4 := At.cell (i := 4) (b := C) h15.pull3 rfl
          have k5 := At.cell (i := 5) (b := C) h15.pull3 rfl
          have hf := find_both W _ _ X L1 c3t ck hos1 (by omega) h15
          obtain ⟨F, hF⟩ : ∃ F, (fnd L1 c3t ck).getD zeroIt = F := ⟨_, rfl⟩
          obtain ⟨B, hB⟩ : ∃ B, has L1 c3t ck = B := ⟨_, rfl⟩
          rw [hF, hB] at hf
          unfold It.agg at hf
          have HF := hide hF
          have HB := hide hB
          clear hF hB
          go_wp2_with fail
          refine hf.mono ?_
          rintro e v1 ⟨rfl, h20⟩
          obtain ⟨I, hI⟩ : ∃ N, v1.heap.size = N := ⟨_, rfl⟩
          have h21 := h20.alloc' hI (.cells #[.int .i64 F.t, .string F.k, .string F.v, .int .i64 F.p, .int .i64 F.s] 31)
          have hnm2 := name_any W _ _ ⟨c3t, ck, cv, cp2, cs⟩ hct (by show ck.size ≤ _; omega) h21
          have HI := hide hI
          clear hI hf k1 k2 k3 k4 k5 h15
          have k1 := At.cell (i := 1) (b := C) h21.pull4 rfl
          have k2 := At.cell (i := 2) (b := C) h21.pull4 rfl
          have k3 := At.cell (i := 3) (b := C) h21.pull4 rfl
          have k4 := At.cell (i := 4) (b := C) h21.pull4 rfl
          have k5 := At.cell (i := 5) (b := C) h21.pull4 rfl
          go_wp2_with fail
          rw [HI.out]
          clear HI
          refine hnm2.mono ?_
          rintro e v2 ⟨rfl, h22⟩
          have hlk := mpi_look h22.pull3 ⟨c3t, ck, cv, cp2, cs⟩ (by show ck.size ≤ _; omega) hos1 hct Hin1.out
          simp only at hlk
          rw [HF.out, HB.out] at hlk
          unfold It.agg at hlk
          obtain ⟨J, hJ⟩ : ∃ N, v2.heap.size = N := ⟨_, rfl⟩
          have h23 := h22.alloc' hJ (.cells #[.int .i64 F.t, .string F.k, .string F.v, .int .i64 F.p, .int .i64 F.s] 31)
          clear h20 h21 hnm2 k1 k2 k3 k4 k5
          have HJ := hide hJ
          have i0 := At.cell (i := 0) (b := I) h23.pull2 rfl
          have i1 := At.cell (i := 1) (b := I) h23.pull2 rfl
          have i2 := At.cell (i := 2) (b := I) h23.pull2 rfl
          have i3 := At.cell (i := 3) (b := I) h23.pull2 rfl
          have i4 := At.cell (i := 4) (b := I) h23.pull2 rfl
          have j0 := At.cell (i := 0) h23 rfl
          have j1 := At.cell (i := 1) h23 rfl
          have j2 := At.cell (i := 2) h23 rfl
          have j3 := At.cell (i := 3) h23 rfl
          have j4 := At.cell (i := 4) h23 rfl
          rw [← hJ] at j0 j1 j2 j3 j4
          have hln := len_any W _ _ X L1 h23.pull3
          have hml := fun ty => mpi_len h23.pull4 ty
          clear hJ
          go_wp2_with (at_lookup; go_loud (refine wpList_lookup_eq rfl _ _ _ rfl _ _ rfl rfl hlk ?_))
          refine hln.mono ?_
          rintro e v3 ⟨rfl, rfl⟩
          clear hln hlk
          go_wp2_with (at_builtin; go_loud (refine wpList_len_eq rfl _ _ rfl _ rfl (hml _) ?_))
          go_roundw
          case rel => exact ⟨k + 1, nn + 1, by omega, by omega, by go_num, by rw [HL1.out]; exact h23.r.r.pull3.r⟩
          case measure => simp [intOf]; omega
        | false =>
          rw [hkd] at Hstep
          clear hput
          go_wp2_with fail
          rw [HC.out]
          clear HC d0 d1 d2 d3 d4 d5
          refine hrm.mono ?_
          rintro e w8 ⟨rfl, h9⟩
          generalize bits .and .i64 ct 3 = c3t at *
          have e1 : L1 = del L c3t ck := by rw [Hstep.out, if_neg (by simp)]
          rw [← e1] at h9
          clear hrm h8
          have h10 := h9.pull2
          have hnm := name_any W _ _ ⟨c3t, ck, cv, cp2, cs⟩ hct (by show ck.size ≤ _; omega) h10
          have k1 := At.cell (i := 1) (b := C) h10 rfl
          have k2 := At.cell (i := 2) (b := C) h10 rfl
          have k3 := At.cell (i := 3) (b := C) h10 rfl
          have k4 := At.cell (i := 4) (b := C) h10 rfl
          have k5 := At.cell (i := 5) (b := C) h10 rfl
          go_wp2_with fail
          refine hnm.mono ?_
          rintro e w9 ⟨rfl, h13⟩
          clear hnm k1 k2 k3 k4 k5 h10 h9
          obtain ⟨w6, hrun, h14⟩ := mpi_drop h13.pull3 ⟨c3t, ck, cv, cp2, cs⟩ (by show ck.size ≤ _; omega) hos hct Hin.out 0
          simp only at h14
          rw [← e1] at h14
          have h15 := h14.cast (show _ = ixb X L1 * (mpi M nn L1 * (pt C (.cells #[.int .i64 cc, .int .i64 c3t, .string ck, .string cv, .int .i64 cp2, .int .i64 cs] 33) * (cel RB #[.bool false] 4 * (old W * 1)))) by
            show mpi _ _ _ * (pt C _ * (ixb X L1 * _)) = _
            ac_rfl)
          clear h14 e1 h13
          have k1 := At.cell (i := 1) (b := C) h15.pull3 rfl
          have k2 := At.cell (i := 2) (b := C) h15.pull3 rfl
          have k3 := At.cell (i := 3) (b := C) h15.pull3 rfl
          have k4 := At.cell (i := 4) (b := C) h15.pull3 rfl
          have k5 := At.cell (i := 5) (b := C) h15.pull3 rfl
          have hf := find_both W _ _ X L1 c3t ck hos1 (by omega) h15
          obtain ⟨F, hF⟩ : ∃ F, (fnd L1 c3t ck).getD zeroIt = F := ⟨_, rfl⟩
          obtain ⟨B, hB⟩ : ∃ B, has L1 c3t ck = B := ⟨_, rfl⟩
          rw [hF, hB] at hf
          unfold It.agg at hf
          have HF := hide hF
          have HB := hide hB
          clear hF hB
          go_wp2_with (at_builtin; go_loud (refine wpList_delete_eq rfl _ _ _ _ rfl _ _ rfl rfl hrun ?_))
          refine hf.mono ?_
          rintro e v1 ⟨rfl, h20⟩
          obtain ⟨I, hI⟩ : ∃ N, v1.heap.size = N := ⟨_, rfl⟩
          have h21 := h20.alloc' hI (.cells #[.int .i64 F.t, .string F.k, .string F.v, .int .i64 F.p, .int .i64 F.s] 31)
          have hnm2 := name_any W _ _ ⟨c3t, ck, cv, cp2, cs⟩ hct (by show ck.size ≤ _; omega) h21
          have HI := hide hI
          clear hI hf k1 k2 k3 k4 k5 h15
          have k1 := At.cell (i := 1) (b := C) h21.pull4 rfl
          have k2 := At.cell (i := 2) (b := C) h21.pull4 rfl
          have k3 := At.cell (i := 3) (b := C) h21.pull4 rfl
          have k4 := At.cell (i := 4) (b := C) h21.pull4 rfl
          have k5 := At.cell (i := 5) (b := C) h21.pull4 rfl
          go_wp2_with fail
          rw [HI.out]
          clear HI
          refine hnm2.mono ?_
          rintro e v2 ⟨rfl, h22⟩
          have hlk := mpi_look h22.pull3 ⟨c3t, ck, cv, cp2, cs⟩ (by show ck.size ≤ _; omega) hos1 hct Hin1.out
          simp only at hlk
          rw [HF.out, HB.out] at hlk
          unfold It.agg at hlk
          obtain ⟨J, hJ⟩ : ∃ N, v2.heap.size = N := ⟨_, rfl⟩
          have h23 := h22.alloc' hJ (.cells #[.int .i64 F.t, .string F.k, .string F.v, .int .i64 F.p, .int .i64 F.s] 31)
          clear h20 h21 hnm2 k1 k2 k3 k4 k5
          have HJ := hide hJ
          have i0 := At.cell (i := 0) (b := I) h23.pull2 rfl
          have i1 := At.cell (i := 1) (b := I) h23.pull2 rfl
          have i2 := At.cell (i := 2) (b := I) h23.pull2 rfl
          have i3 := At.cell (i := 3) (b := I) h23.pull2 rfl
          have i4 := At.cell (i := 4) (b := I) h23.pull2 rfl
          have j0 := At.cell (i := 0) h23 rfl
          have j1 := At.cell (i := 1) h23 rfl
          have j2 := At.cell (i := 2) h23 rfl
          have j3 := At.cell (i := 3) h23 rfl
          have j4 := At.cell (i := 4) h23 rfl
          rw [← hJ] at j0 j1 j2 j3 j4
          have hln := len_any W _ _ X L1 h23.pull3
          have hml := fun ty => mpi_len h23.pull4 ty
          clear hJ
          go_wp2_with (at_lookup; go_loud (refine wpList_lookup_eq rfl _ _ _ rfl _ _ rfl rfl hlk ?_))
          refine hln.mono ?_
          rintro e v3 ⟨rfl, rfl⟩
          clear hln hlk
          go_wp2_with (at_builtin; go_loud (refine wpList_len_eq rfl _ _ rfl _ rfl (hml _) ?_))
          go_roundw
          case rel => exact ⟨k + 1, nn, by omega, by omega, by go_num, by rw [HL1.out]; exact h23.r.r.pull3.r⟩
          case measure => simp [intOf]; omega
      · obtain rfl : n = k := by omega
        have hls := runN_sorted z n
        have hll := runN_len z n
        have hin := runN_in z n
        obtain ⟨L, hL⟩ : ∃ L, runN z n = L := ⟨_, rfl⟩
        rw [hL] at hls hll hin h7
        clear hL
        have hso := sorted_any W _ _ M nn L hls hin (by omega) h7.pull2
        clear Hz
        go_wp2_with fail
        refine hso.mono ?_
        rintro e w9 ⟨a5, c5, rfl, h8⟩
        obtain ⟨Lb, hLb⟩ : ∃ N, w9.heap.size = N := ⟨_, rfl⟩
        have h9 := At.lsb_shut (l := L) (h8.alloc' hLb (.cells #[.slice a5 L.length c5] 25))
        have h10 := h9.alloc' (show _ = Lb + 1 by simp [hLb]) (.cells #[.int .i64 0] 3)
        clear hso h7 h8 h9
        go_wp2_with fail
        try rw [hLb]
        clear hLb
        generalize Lb + 1 = Mo at h10 ⊢
        have hon2 := all_on W X L (by omega)
        refine wpIn_wide.1 (wp_rangeFunc_on (n := 9) (w0 := W) rfl (enters_of Try.func16 (by kernel_rfl) rfl) hon2 (fun _ => rfl)
          (fun pre => cel Mo #[.int .i64 (pre.length : Int)] 3 * lsb Lb L) (fun _ => fact False) (mpi M nn L * (cel RB #[.bool false] 4 * (old W * 1))) (h10.cast (show _ = ixb X L * ((cel Mo #[.int .i64 0] 3 * lsb Lb L) * (mpi M nn L * (cel RB #[.bool false] 4 * (old W * 1)))) by
            show cel Mo _ _ * (lsb Lb L * _) = _
            ac_rfl)) ?_ ?_ ?_)
        · intro l pre x B1 W1 hp hJ
          simp only [encIt]
          obtain ⟨hpl, hpx⟩ := pre_get hp
          gi_wp2
          obtain ⟨O, hO⟩ : ∃ N, W1.heap.size = N := ⟨_, rfl⟩
          have hJ1 := (hJ.alloc' hO (.cells #[.int .i64 x.t, .string x.k, .string x.v, .int .i64 x.p, .int .i64 x.s] 31)).cast (show _ = (pt O (.cells #[.int .i64 x.t, .string x.k, .string x.v, .int .i64 x.p, .int .i64 x.s] 31) * (ixb X L * (cel Mo #[.int .i64 (pre.length : Int)] 3 * lsb Lb L))) * B1 by ac_rfl)
          rw [hO]
          clear hO
          refine ⟨_, hJ1, fun B2 W2 hJ2 => ?_⟩
          clear hJ hJ1 hp
          have h15 := hJ2.cast (show _ = lsb Lb L * (cel Mo #[.int .i64 (pre.length : Int)] 3 * (pt O (.cells #[.int .i64 x.t, .string x.k, .string x.v, .int .i64 x.p, .int .i64 x.s] 31) * (ixb X L * B2))) by ac_rfl)
          obtain ⟨a5, c5, h16⟩ := h15.lsb_open
          obtain ⟨p1, q1, e1, hle1, hcell1⟩ := h16.pull2.row_ptr (by omega)
          cases e1
          obtain ⟨y0, y1, y2, y3, y4⟩ := its_five hpl
          rw [hpx] at y0 y1 y2 y3 y4
          have c10 := hcell1 _ _ y0
          have c11 := hcell1 _ _ y1
          have c12 := hcell1 _ _ y2
          have c13 := hcell1 _ _ y3
          have c14 := hcell1 _ _ y4
          have hb0 := At.cell (i := 0) h16 rfl
          have hm0 := At.cell (i := 0) h16.pull3 rfl
          have hmf := At.frz h16.pull3 0
          have hml := At.lt h16.pull3
          have hx0 := At.cell (i := 0) (b := O) h16.pull4 rfl
          have hx1 := At.cell (i := 1) (b := O) h16.pull4 rfl
          have hx2 := At.cell (i := 2) (b := O) h16.pull4 rfl
          have hx3 := At.cell (i := 3) (b := O) h16.pull4 rfl
          have hx4 := At.cell (i := 4) (b := O) h16.pull4 rfl
          have hne : ((pre.length : Int) == (L.length : Int)) = false := by rw [beq_eq_false_iff_ne]; omega
          clear hcell1 y0 y1 y2 y3 y4 hpx hJ2 h16
          gi_wp2
          refine wpIn_region_line [0, 1, 2, 3, 4, 5, 6, 7, 8, 9, 10, 11] rfl (by kernel_rfl) rfl ?_
          simp only [picks_cons, picks_nil, getD_zero, getD_succ]
          go_wp2_with fail
          refine ⟨by kernel_rfl, ?_⟩
          gi_wp2
          have h17 := (h15.pull2.drew.set' (d := #[.int .i64 ((pre.length : Int) + 1)]) 0 (.int .i64 ((pre.length : Int) + 1)) rfl)
          show At W ((ixb X L * (cel Mo #[.int .i64 ((pre ++ [x]).length : Int)] 3 * lsb Lb L)) * B2) _
          rw [List.length_append, List.length_singleton, show (((pre.length + 1 : Nat) : Int)) = (pre.length : Int) + 1 by omega]
          have h18 := h17.pull3.r
          exact h18.cast (by ac_rfl)
        rotate_left
        · intro o D W1 hJ
          exact hJ.factl.1.elim
        intro D2 u2 h93
        have h94 := h93.cast (show _ = lsb Lb L * (cel Mo #[.int .i64 (L.length : Int)] 3 * (cel RB #[.bool false] 4 * (pt D2 (.deferred (some [])) * (ixb X L * (mpi M nn L * (old W * 1)))))) by ac_rfl)
        obtain ⟨a5, c5, h95⟩ := h94.lsb_open
        have hb0 := At.cell (i := 0) h95 rfl
        have hm0 := At.cell (i := 0) h95.pull3 rfl
        have hr0 := At.cell (i := 0) h94.pull3 rfl
        have hrf := At.frz h94.pull3 0
        have hrl := At.lt h94.pull3
        clear h93 h95 h10 hon2
        go_wp2_with fail
        have h96 := (At.set' (d := #[.bool true]) h94.pull3 0 (.bool true) rfl).pull4
        refine ⟨by simp, .inl ⟨_, _, rfl, run_takeDeferred (At.blk h96), ?_⟩⟩
        have h98 := At.putObj h96 (.deferred none)
        have hc := At.cell (i := 0) h98.pull2 rfl
        refine ⟨.bool true, ?_, rfl, ?_⟩
        · simp [results, Try.results8, go_sem, hc]
        · exact (h98.r.r.r.r.r.r).below
  · clear hli h2
    have hr0 := At.cell (i := 0) h4 rfl
    have hrf := At.frz h4 0
    have hrl := At.lt h4
    go_wp2_with fail
    have h9 := At.set' (d := #[.bool true]) h4 0 (.bool true) rfl
    have hc := At.cell (i := 0) h9 rfl
    refine ⟨.bool true, ?_, rfl, h9.pull2.below⟩
    simp [results, Try.results8, go_sem, hc]
end Go.Proofs.Ytghlbhnpgbhllaa
