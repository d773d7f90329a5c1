/-
  LaneWipes: the law's walk: whatever comes in, it returns true. A contract, no statement.
-/
import Derived.Test.YtgkibjjcdcpkfaaLk
import Derived.Test.YtgkibjjcdcpkfaaMp
import Derived.Still
import Derived.BigQuiet
import Derived.StillTactics
import Derived.Maps.OwnOps
namespace Go.Proofs.Ytgkibjjcdcpkfaa
open Go Go.RowKit Go.Maps

theorem wpStill_value {P : Program} {ops : Array Oper} {w : World} {Q : Act → Prop} {a : Act} {o : Oper} {rest : List Oper} (hw : Region.wanted o (yielded ops a.tmps) = true) {v : Value} (hr : (execOp a.eval o).run P w = .ok (.value v) w)
    (h : wpStill P ops w Q rest (a.put o.dst v)) : wpStill P ops w Q (o :: rest) a := by
  unfold wpStill
  rw [if_pos hw]
  unfold Oper.still
  rw [hr]
  exact ⟨rfl, h⟩
theorem wpStill_lookup {P : Program} {ops : Array Oper} {w : World} {Q : Act → Prop} {a : Act} {o : Oper} {rest : List Oper} (hg : o.guard = none) (m x : Operand) (t : TypeId) (hop : o.op = Op.lookup t m x false) (vm vx : Value) (hm : a.eval m = vm) (hx : a.eval x = vx) {v' : Value}
    (hr : (Instr.lookup t vm vx false).run P w = .ok v' w) (h : wpStill P ops w Q rest (a.put o.dst v')) : wpStill P ops w Q (o :: rest) a := by
  refine wpStill_value (by simp [Region.wanted, hg]) ?_ h
  unfold execOp
  simp only [hop, hm, hx, Sem.run_bind, hr, Result.andThen_ok]
  rfl
theorem setD_at (l : List Int) (s : Int) : (setD l).atKey (.int .i64 s) (.lit (.bool false)) = .lit (.bool (decide (s ∈ l))) := by
  have key : ∀ (l : List Int) (D : DataW Unit), IsMap D → (l.foldl (fun D s => D.put (.int .i64 s) (.lit (.bool true))) D).atKey (.int .i64 s) (.lit (.bool false)) = if s ∈ l then .lit (.bool true) else D.atKey (.int .i64 s) (.lit (.bool false)) := by
    intro l
    induction l with
    | nil => intro D _; simp
    | cons a l ih =>
      intro D hm
      rw [List.foldl_cons, ih _ (hm.put _ _)]
      by_cases hs : s ∈ l
      · rw [if_pos hs, if_pos (List.mem_cons_of_mem _ hs)]
      · rw [if_neg hs]
        by_cases ha : s = a
        · subst ha
          rw [if_pos List.mem_cons_self]
          exact atKey_put_same hm (show WideAt.IsKeyLit (.int .i64 s) from trivial) _ _
        · rw [if_neg (fun h => (List.mem_cons.1 h).elim ha hs)]
          exact atKey_put_other (by simpa using ha) ..
  unfold setD
  rw [key l _ isMap_empty]
  by_cases hs : s ∈ l
  · rw [if_pos hs, decide_eq_true hs]
  · rw [if_neg hs, decide_eq_false hs]
    rfl
theorem At.drop2x {w0 w : World} {A B C X : HP} (h : At w0 (A * (B * (C * X))) w) : At w0 (A * (B * X)) w := (h.cast (show _ = A * (B * X) * C by ac_rfl)).l
/-- A wipe that ends behind the last sector: it's refused. -/
theorem Dk.wipes_out {r : Nat} : ∀ (n s : Nat) {m : Dk}, m.Wf → r < m.regs.length → m.armd r = false → s ≤ m.size → m.size < s + n → (Dk.wipes r n s m).1 = 1
  | 0, s, m, _, _, _, h1, h2 => absurd h2 (by omega)
  | n + 1, s, m, hm, hr, hu, h1, h2 => by
    rw [Dk.wipes_succ]
    by_cases hs : m.size ≤ s
    · rw [if_pos hs]
    · rw [if_neg hs]
      split
      · exact Dk.wipes_out n (s + 1) hm hr hu (by omega) (by omega)
      · have e : m.wr r s [] = (0, m.write r s []) := by
          unfold Dk.wr
          rw [if_neg hs, Dk.down_un hu]
          rfl
        rw [e, thenD_0 rfl]
        refine Dk.wipes_out n (s + 1) (hm.write (by omega) (by simp)) ?_ ?_ ?_ ?_
        · rw [(Dk.write_same (m := m) (r := r) (s := s) (x := [])).regs]; exact hr
        · rw [Dk.write_armd]; exact hu
        · show s + 1 ≤ m.size; omega
        · show m.size < s + 1 + n; omega
theorem Dk.wipe_out {m : Dk} (hm : m.Wf) {r s t : Nat} (hr : r < m.regs.length) (hu : m.armd r = false) (h1 : s ≤ m.size) (h2 : m.size < t) : (m.wipe r s t).1 = 1 := by
  unfold Dk.wipe
  have := Dk.wipes_out (t - s) s hm hr hu h1 (by omega)
  rw [thenD_e (by omega), this]
/-- What was written so far: b, 1 in the sectors l. -/
structure Marked (m : Dk) (l : List Nat) : Prop where
  wf : m.Wf
  regs : m.regs.length = 1
  size : m.size = 64
  armd : m.armd 0 = false
  yes : ∀ t, t ∈ l → ∃ b : UInt8, m.sec 0 t = pad [b, 1]
  no : ∀ t, t < 64 → t ∉ l → m.sec 0 t = zbys 64
theorem Marked.write {m : Dk} {l : List Nat} (h : Marked m l) {k : Nat} (hk : k < 64) (b : UInt8) : m.wr 0 k [b, 1] = (0, m.write 0 k [b, 1]) ∧ Marked (m.write 0 k [b, 1]) (l ++ [k]) := by
  have hr : 0 < m.regs.length := by rw [h.regs]; decide
  refine ⟨?_, h.wf.write (by rw [h.size]; exact hk) (by simp), by rw [(Dk.write_same (m := m) (r := 0) (s := k) (x := [b, 1])).regs]; exact h.regs, h.size, by rw [Dk.write_armd]; exact h.armd, fun t ht => ?_, fun t ht hn => ?_⟩
  · unfold Dk.wr
    rw [if_neg (by rw [h.size]; omega), Dk.down_un h.armd]
    rfl
  · rw [Dk.write_sec hr]
    by_cases e : t = k
    · rw [if_pos e]
      exact ⟨b, rfl⟩
    · rw [if_neg e]
      refine h.yes t ?_
      rcases List.mem_append.1 ht with h1 | h1
      · exact h1
      · exact absurd (List.mem_singleton.1 h1) e
  · rw [Dk.write_sec hr, if_neg (fun e => hn (by rw [e]; simp))]
    exact h.no t ht fun h1 => hn (List.mem_append_left _ h1)
theorem Marked.new : Marked (Dk.new 1 64) [] := by
  have hN := Dk.new_at 1 64 0 (by decide)
  refine ⟨Dk.new_wf (by decide) (by decide) (by decide), rfl, rfl, hN.2, fun t h => by simp at h, fun t ht _ => ?_⟩
  rw [Dk.sec_nil hN.1]
  unfold Dk.dat Dk.new
  simp only [Nat.zero_mul, Nat.zero_add, Nat.one_mul, List.getElem?_replicate, if_pos ht]
  rfl
theorem u8_byv (x : Int) : ∃ b : UInt8, Value.int .u8 (IntKind.u8.wrap x) = byv b := by
  refine ⟨UInt8.ofNat (IntKind.u8.wrap x).toNat, ?_⟩
  have h : 0 ≤ IntKind.u8.wrap x ∧ IntKind.u8.wrap x < 256 := by rw [IntKind.wrap_u8]; omega
  unfold byv
  rw [UInt8.toNat_ofNat']
  congr 1
  omega

set_option maxRecDepth 100000 in
set_option maxHeartbeats 32000000 in
theorem wipes_walk (W : World) (a : Option Addr) (n cap : Nat) (z : Nat → Int) (f0 t0 : Int) (hn : n ≤ 9223372036854775807) (_hzb : ∀ i, -9223372036854775808 ≤ z i ∧ z i ≤ 9223372036854775807) (hz : ∀ i, i < n → ∃ b o, a = some ⟨b, o, none⟩ ∧ W.cell? ⟨b, o + i, none⟩ = some (.int .i64 (z i))) :
    Calls Try.prog 3 #[.slice a n cap, .int .i64 f0, .int .i64 t0] W fun e W' => e = .returned (.bool true) ∧ Below W.heap.size W W' := by
  have hfit := lawFit_any W W _ (At.startR W)
  have Hz := hide hz
  clear hz _hzb
  go_enter Try.func3, Try.ntmps3
  go_wp2_with fail
  refine hfit.mono ?_
  rintro e w1 ⟨rfl, h1⟩
  clear hfit
  by_cases hbig : 50 < n
  · have hbel := h1.below
    have hbz : 50 < (n : Int) := by omega
    clear hbig
    go_wp2_with fail
    go_ret
    exact ⟨rfl, hbel⟩
  have hn50 : n ≤ 50 := by omega
  have hbz : ¬ 50 < (n : Int) := by omega
  obtain ⟨f, hf, hf63⟩ := and63i f0
  obtain ⟨t, ht, ht63⟩ := and63i t0
  have hnew := diskNew_any W w1 _ 1 64 (by decide) (by decide) (by decide) (by decide) h1
  change Calls _ _ #[.int .i64 1, .int .i64 64] _ _ at hnew
  clear h1 hbig
  go_wp2_with fail
  refine hnew.mono ?_
  rintro e w2 ⟨D, rfl, h2⟩
  clear hnew hf ht
  have hmk := Marked.new
  have hwr : (Dk.new 1 64).writes = 0 := rfl
  generalize Dk.new 1 64 = m0 at *
  have hmm := @run_makeMap Try.prog
  have h3 := h2.mp_new Try.prog 3 4
  generalize hM : w2.heap.size = M at h3
  have Hmk := hide hmk
  clear h2 hmk
  go_wp2_with fail
  clear hM
  go_loopw [27] (fun u27 wr => ∃ (i : Nat) (l : List Nat) (m : Dk), i ≤ n ∧ u27 = .int .i64 i ∧ Hid (Marked m l) ∧ m.writes = i ∧ At W (mp Try.prog 3 4 M i (setD (l.map (fun (x : Nat) => (x : Int)))) * (dsk D m * (old W * 1))) wr) (fun u _ => n - (intOf u).toNat)
  case atStart => exact ⟨0, [], m0, Nat.zero_le _, rfl, Hmk, hwr, h3⟩
  case round =>
    obtain ⟨i, l, m, hin, rfl, Hm, hwr2, h4⟩ := hrel
    clear h3 Hmk hwr
    by_cases hil : i < n
    · have hilz : (i : Int) < (n : Int) := by omega
      obtain ⟨zb, zo, hda, hzc⟩ := Hz.out i hil
      subst hda
      have hzc' : wr.cell? ⟨zb, zo + i, none⟩ = some (.int .i64 (z i)) := h4.r.r.old_cell hzc
      obtain ⟨v, hv⟩ : ∃ v, z i = v := ⟨_, rfl⟩
      rw [hv] at hzc'
      obtain ⟨k, hk, hk63⟩ := and63i v
      obtain ⟨b, hb⟩ := u8_byv v
      obtain ⟨bv, hbv⟩ : ∃ bv : Int, IntKind.u8.wrap v = bv := ⟨_, rfl⟩
      rw [hbv] at hb
      obtain ⟨N, hN⟩ : ∃ N, wr.heap.size = N := ⟨_, rfl⟩
      have h5 := (h4.alloc' hN (.cells #[.int .u8 bv, .int .u8 1] 5)).cast (show _ = dsk D m * (cel N #[byv b, byv 1] 5 * (mp Try.prog 3 4 M i (setD (l.map (fun (x : Nat) => (x : Int)))) * (old W * 1))) by
        rw [← hb]
        show pt N _ * _ = _ * (pt N _ * _)
        ac_rfl)
      obtain ⟨hw1, hm2⟩ := Hm.out.write (show k < 64 by omega) b
      have hwrt := diskWr_any W _ (cel N #[byv b, byv 1] 5 * (mp Try.prog 3 4 M i (setD (l.map (fun (x : Nat) => (x : Int)))) * (old W * 1))) D m 0 k (some ⟨N, 0, none⟩) 2 [b, 1] (by simp) (fun w' h' => .inr ⟨N, 0, 2, rfl, by simp [bys], fun j u hu => by
        rw [Nat.zero_add]
        exact At.cell h' (by simpa [bys] using hu)⟩) (by rw [Hm.out.regs]; decide) (by omega) h5
      rw [hw1] at hwrt
      change Calls _ _ #[_, .int .i64 0, _, .slice (some ⟨N, 0, none⟩) 2 2] _ _ at hwrt
      have Hm2 := hide hm2
      have hwr3 : (m.write 0 k [b, 1]).writes = i + 1 := by
        show m.writes + 1 = i + 1
        rw [hwr2]
      generalize m.write 0 k [b, 1] = m2 at hwrt Hm2 hwr3
      have Hb := hide hb
      have Hmap := hide (show (l ++ [k]).map (fun (x : Nat) => (x : Int)) = l.map (fun (x : Nat) => (x : Int)) ++ [(k : Int)] by simp)
      have hwf : (Lit.int .i64 (k : Int)).wf = true := by
        simp [Lit.wf, IntKind.min, IntKind.max, IntKind.signed, IntKind.bits]
        omega
      clear hzc hv h4 h5 hw1 hm2 hb hwr2
      go_wp2_with fail
      try rw [hN]
      refine Calls.mono hwrt ?_
      rintro e w6 ⟨rfl, h6⟩
      clear hwrt hzc' hbv
      have h7 := h6.pull3
      have hown := h7.mp_own
      go_wp2_with (at_mapUpdate; go_loud (refine wpList_mapUpdate_own _ rfl _ _ _ 26 rfl 3 4 (Maps.int_keyed Try.underlying3) Try.underlying26 _ M i _ rfl hown (by unfold maxLen; omega) _ _ _ rfl rfl (Maps.keyOf_int_mk Try.underlying3 hwf) _ [] (plainElem_bool Try.underlying4 true) ?_))
      intro w11 hown11 hg11
      have h11 := h7.mp_grown hg11 hown11
      clear h7 h6 hown hown11 hg11
      go_wp2_with fail
      go_roundw
      case rel =>
        refine ⟨i + 1, l ++ [k], m2, by omega, by go_num, Hm2, hwr3, ?_⟩
        rw [Hmap.out, setD_snoc]
        exact h11.drop2x
      case measure => simp [intOf]; omega
    · obtain rfl : i = n := by omega
      have hiz : ¬ ((i : Int) < (i : Int)) := by omega
      have hr0 : 0 < m.regs.length := by rw [Hm.out.regs]; decide
      have hba := diskBar_any W wr _ D m 0 hr0 (by omega) h4.pull2
      have hbe : m.bar 0 = (0, m.keep 0 fullMask) := by
        unfold Dk.bar
        rw [Dk.down_un Hm.out.armd]
        rfl
      rw [hbe] at hba
      change Calls _ _ #[_, .int .i64 0] _ (fun e w' => e = .returned (.int .i64 0) ∧ At W (dsk D (m.keep 0 fullMask) * (mp Try.prog 3 4 M i (setD (l.map (fun (x : Nat) => (x : Int)))) * (old W * 1))) w') at hba
      have hk := m.keep_regs 0 fullMask
      have hkw := Hm.out.wf.keep fullMask hr0
      have hkd : ∀ s, s < 64 → (m.keep 0 fullMask).sec 0 s = m.sec 0 s := fun s hs => by
        rw [Dk.sec_nil (Dk.keep_wts hr0), Dk.keep_dat Hm.out.wf hr0 (by rw [Hm.out.size]; exact hs)]
      have hka : (m.keep 0 fullMask).armd 0 = false := (Dk.keep_armd hr0 0).trans Hm.out.armd
      have hks : (m.keep 0 fullMask).size = 64 := hk.2.1.trans Hm.out.size
      have hkr : 0 < (m.keep 0 fullMask).regs.length := by rw [hk.1]; exact hr0
      have hkwr : (m.keep 0 fullMask).writes = i := hk.2.2.trans hwr2
      have hkt := Dk.keep_wts (mask := fullMask) hr0
      generalize m.keep 0 fullMask = mB at *
      clear h4 hbe hk hwr2
      go_wp2_with fail
      refine hba.mono ?_
      rintro e w5 ⟨rfl, h5⟩
      clear hba
      have hwp := laneWipe_any W w5 _ D mB 0 f t hkr (by omega) (by omega) (by omega) h5
      have hla := Dk.wipe_laid hkw (r := 0) (s := f) (t := t) hkr (by omega) (by omega)
      have hw0 := hla.un hka
      have hwd := Dk.wipe_dat hkw (r := 0) (s := f) (t := t) hkr (by omega) (by omega) hw0
      have hwk := mB.wipe_keeps 0 f t
      have hwt := (hla.ok hw0).1
      have hww := hla.wf
      rw [hw0] at hwp
      change Calls _ _ #[_, .int .i64 0, _, _] _ (fun e w' => e = .returned (.int .i64 0) ∧ At W (dsk D (mB.wipe 0 f t).2 * (mp Try.prog 3 4 M i (setD (l.map (fun (x : Nat) => (x : Int)))) * (old W * 1))) w') at hwp
      generalize (mB.wipe 0 f t).2 = mW at *
      clear h5 hla hw0
      go_wp2_with fail
      refine hwp.mono ?_
      rintro e w6 ⟨rfl, h6⟩
      clear hwp
      have hcr := diskCrash_any W w6 _ D mW 0 (by decide) (by omega) h6
      change Calls _ _ #[_, .int .u64 0] _ _ at hcr
      obtain ⟨c1, c2, c3, c4, c5⟩ := Dk.crash_at (mask := 0) hww
      obtain ⟨c6, c7, c8⟩ := c5 0 (by rw [hwk.1]; exact hkr)
      have hsec : ∀ s, s < 64 → (mW.crash 0).sec 0 s = if f ≤ s ∧ s < t then zbys 64 else m.sec 0 s := fun s hs => by
        rw [Dk.sec_nil c6]
        have hd : (mW.crash 0).dat 0 s = mW.dat 0 s := by
          rcases c8 s (by omega) with h | h
          · exact h
          · rw [hwt] at h
            cases h
        rw [hd, hwd s (by omega), hkd s hs]
      have hcr0 : 0 < (mW.crash 0).regs.length := by rw [c2, hwk.1]; exact hkr
      have hcs : (mW.crash 0).size = 64 := by rw [c3, hwk.2.1]; exact hks
      have hcw : (mW.crash 0).writes ≤ 200 := by omega
      generalize mW.crash 0 = mC at *
      have Hsec := hide hsec
      have Hcu := hide c7
      have Hcwf := hide c1
      clear h6 c1 c2 c3 c4 c5 c6 c7 c8 hsec hwd hwt hww hkd hka hks hkw hkr hkt hwk
      go_wp2_with fail
      refine hcr.mono ?_
      rintro e w7 ⟨rfl, h7⟩
      clear hcr
      go_wp2_with fail
      go_loopw [51] (fun u51 wr => ∃ (q : Nat), q ≤ 64 ∧ u51 = .int .i64 q ∧ At W (dsk D mC * (mp Try.prog 3 4 M i (setD (l.map (fun (x : Nat) => (x : Int)))) * (old W * 1))) wr) (fun u _ => 64 - (intOf u).toNat)
      case atStart => exact ⟨0, Nat.zero_le _, rfl, h7⟩
      case round =>
        obtain ⟨q, hqk, rfl, h8⟩ := hrel
        clear h7
        by_cases hql : q < 64
        · have hqz : (q : Int) < 64 := by omega
          have hrd := diskRead_in W wr _ D mC 0 q hcr0 (by omega) (by omega) h8
          change Calls _ _ #[_, .int .i64 0, _] _ _ at hrd
          have hsq := Hsec.out q hql
          generalize mC.sec 0 q = x at hrd hsq
          clear h8
          go_wp2_with fail
          refine hrd.mono ?_
          rintro e w8 ⟨ax, cx, rfl, h10⟩
          clear hrd
          obtain ⟨g, cq, hax, hc64⟩ := h10.row_some (by decide)
          simp only [Value.slice.injEq] at hax
          obtain ⟨rfl, _, rfl⟩ := hax
          have hcell : ∀ v : UInt8, x[1]? = some v → w8.cell? ⟨g, 1, none⟩ = some (.int .u8 (v.toNat : Int)) := fun v hv => (h10.row_cell rfl (by
            unfold bys
            rw [List.getElem?_map, hv]
            rfl)).2
          have hwf : (Lit.int .i64 (q : Int)).wf = true := by
            simp [Lit.wf, IntKind.min, IntKind.max, IntKind.signed, IntKind.bits]
            omega
          have hkey : keyOf Try.prog 3 (.int .i64 (q : Int)) = some (.int .i64 (q : Int)) := Maps.keyOf_int_mk Try.underlying3 hwf
          have hlka : ∀ w' , At W (mp Try.prog 3 4 M i (setD (l.map (fun (x : Nat) => (x : Int)))) * (row 5 1 (.slice (some ⟨g, 0, none⟩) 64 cx) 64 (bys x) * (dsk D mC * (old W * 1)))) w' → (Instr.lookup 26 (.map (some M)) (.int .i64 q) false).run Try.prog w' = .ok (.bool (decide (q ∈ l))) w' := fun w' h' => by
            obtain ⟨u, hlk, hu⟩ := own_lookup_bool h'.mp_own (Maps.int_keyed Try.underlying3) Try.underlying26 Try.underlying4 (by kernel_rfl) hkey
            rw [hlk]
            rw [setD_at] at hu
            injection hu with h1
            injection h1 with h2
            rw [← h2]
            congr 2
            rw [decide_eq_decide, List.mem_map]
            constructor
            · rintro ⟨y, hy, e⟩
              have : y = q := by omega
              rw [← this]; exact hy
            · exact fun h => ⟨q, h, rfl⟩
          have hlk : ∀ nq, (Instr.lookup 26 (.map (some M)) (.int .i64 q) false).run Try.prog (w8.drewN nq) = .ok (.bool (decide (q ∈ l))) (w8.drewN nq) := fun nq => hlka _ (h10.pull3.drewN nq)
          clear hlka
          have hpad : ∀ b : UInt8, (pad [b, 1])[1]? = some 1 := fun b => rfl
          have hzb : (zbys 64)[1]? = some 0 := rfl
          clear hkey hwf
          by_cases hin : q ∈ l
          · rw [decide_eq_true hin] at hlk
            obtain ⟨b, hb⟩ := Hm.out.yes q hin
            rw [hb] at hsq
            by_cases hqf : q < f
            · rw [if_neg (by omega)] at hsq
              have hc1 := hcell 1 (by rw [hsq]; exact hpad b)
              have hdz : decide ((q : Int) < (f : Int)) = true := decide_eq_true (by omega)
              have hqfz : (q : Int) < (f : Int) := by omega
              clear hcell hsq hb  hin hqf
              go_upto_region 22 with fail
              go_quiet (fail)
              go_wp2_with fail
              go_roundw
              case rel => exact ⟨q + 1, by omega, by go_num, h10.r.drewN _⟩
              case measure => simp [intOf]; omega
            · by_cases hqt : t ≤ q
              · rw [if_neg (by omega)] at hsq
                have hc1 := hcell 1 (by rw [hsq]; exact hpad b)
                have hdz : decide ((q : Int) < (f : Int)) = false := decide_eq_false (by omega)
                have hdz2 : decide (q < f) = false := decide_eq_false (by omega)
                have hqtz : (t : Int) ≤ (q : Int) := by omega
                clear hcell hsq hb  hin hqf hqt
                go_upto_region 22 with fail
                go_quiet (fail)
                go_wp2_with fail
                go_roundw
                case rel => exact ⟨q + 1, by omega, by go_num, h10.r.drewN _⟩
                case measure => simp [intOf]; omega
              · rw [if_pos (by omega)] at hsq
                have hc1 := hcell 0 (by rw [hsq]; exact hzb)
                have hdz : decide ((q : Int) < (f : Int)) = false := decide_eq_false (by omega)
                have hdz2 : decide (q < f) = false := decide_eq_false (by omega)
                have hqtz : ¬ (t : Int) ≤ (q : Int) := by omega
                clear hcell hsq hb  hin hqf hqt
                go_upto_region 22 with fail
                go_quiet (fail)
                go_wp2_with fail
                go_roundw
                case rel => exact ⟨q + 1, by omega, by go_num, h10.r.drewN _⟩
                case measure => simp [intOf]; omega
          · rw [decide_eq_false hin] at hlk
            have hz0 : x[1]? = some 0 := by
              rw [hsq]
              split
              · exact hzb
              · rw [Hm.out.no q hql hin]; exact hzb
            have hc1 := hcell 0 hz0
            clear hcell hsq  hin hz0
            go_upto_region 22 with fail
            go_quiet (fail)
            go_wp2_with fail
            go_roundw
            case rel => exact ⟨q + 1, by omega, by go_num, h10.r.drewN _⟩
            case measure => simp [intOf]; omega
        · obtain rfl : q = 64 := by omega
          have hwp2 := laneWipe_any W wr _ D mC 0 60 70 hcr0 (by decide) (by decide) (by omega) h8
          rw [Dk.wipe_out Hcwf.out hcr0 Hcu.out (by omega) (by omega)] at hwp2
          change Calls _ _ #[_, .int .i64 0, .int .i64 60, .int .i64 70] _ (fun e w' => e = .returned (.int .i64 1) ∧ At W (dsk D (mC.wipe 0 60 70).2 * (mp Try.prog 3 4 M i (setD (l.map (fun (x : Nat) => (x : Int)))) * (old W * 1))) w') at hwp2
          clear h8
          go_wp2_with fail
          refine hwp2.mono ?_
          rintro e w8 ⟨rfl, h9⟩
          clear hwp2
          have hbel := h9.r.r.below
          go_wp2_with fail
          go_ret
          exact ⟨rfl, hbel⟩
end Go.Proofs.Ytgkibjjcdcpkfaa
