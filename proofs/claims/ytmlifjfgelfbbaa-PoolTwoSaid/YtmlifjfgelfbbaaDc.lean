/-
  The package disk: Barrier, Crash, New: what they come to, in terms of blocks: contracts, no statement.
-/
import Derived.Test.YtmlifjfgelfbbaaDp
namespace Go.Proofs.Ytmlifjfgelfbbaa
open Go Go.RowKit

def fullMask : Nat := 18446744073709551615
theorem diskBarrier_down (w0 w : World) (R : HP) (b : Nat) (m : Dk) (r : Nat) (hr : r < m.regs.length) (hd : m.regs[r].down = true) (h : At w0 (dsk b m * R) w) :
    Calls Try.prog 55 #[.pointer (some ⟨b, 0, none⟩), .int .i64 r] w fun e w' => e = .returned (.int .i64 10) ∧ w = w' := by
  have hat := diskAt_in w0 w R b m r 0 hr h.dsk_open.1.size0 h
  have hdn := diskDown_any w0 w R b m r hr h
  rw [hd] at hdn
  generalize r * m.size + 0 = q at *
  clear h
  go_enter Try.func55, Try.ntmps55
  go_wp2_with fail
  refine hat.mono ?_
  rintro e w1 ⟨rfl, rfl⟩
  go_wp2_with fail
  refine hdn.mono ?_
  rintro e w1 ⟨rfl, rfl⟩
  go_wp2_with fail
  go_ret
  exact ⟨rfl, rfl⟩
theorem diskBarrier_ok (w0 w : World) (R : HP) (b : Nat) (m : Dk) (r : Nat) (hr : r < m.regs.length) (hd : m.regs[r].down = false) (hwn : m.writes ≤ 1000000000) (h : At w0 (dsk b m * R) w) :
    Calls Try.prog 55 #[.pointer (some ⟨b, 0, none⟩), .int .i64 r] w fun e w' => e = .returned (.int .i64 0) ∧ At w0 (dsk b (m.keep r fullMask) * R) w' := by
  have hat := diskAt_in w0 w R b m r 0 hr h.dsk_open.1.size0 h
  have hdn := diskDown_any w0 w R b m r hr h
  have hkp := diskKeep_any w0 w R b m r fullMask hr (by decide) hwn h
  rw [hd] at hdn
  generalize r * m.size + 0 = q at *
  clear h
  change Calls _ _ #[_, _, .int .u64 18446744073709551615] _ _ at hkp
  go_enter Try.func55, Try.ntmps55
  go_wp2_with fail
  refine hat.mono ?_
  rintro e w1 ⟨rfl, rfl⟩
  go_wp2_with fail
  refine hdn.mono ?_
  rintro e w1 ⟨rfl, rfl⟩
  go_wp2_with fail
  refine hkp.mono ?_
  rintro e w1 ⟨rfl, h1⟩
  go_wp2_with fail
  go_ret
  exact ⟨rfl, h1⟩

/-- A region's flag. -/
theorem At.reg_armed {w0 w : World} {R : HP} {b : Nat} {m : Dk} {r g rc : Nat} {ar : Bool} {dv : Value} {vs : List Value} (hr : r < m.regs.length) (hvs : vs.length = m.regs.length) (hm : m.Wf)
    (h : At w0 (row 95 3 (.slice (some ⟨g, 0, none⟩) m.regs.length rc) m.regs.length ((rgcs m.regs vs).set (r * 3 + 1) (.bool ar)) *
      (cel b #[.int .i64 m.size, dv, .slice (some ⟨g, 0, none⟩) m.regs.length rc, .int .i64 m.writes] 82 * (row 96 64 dv m.data.length (secs m.data) * (rgsP m.regs vs * R)))) w) : At w0 (dsk b (m.setReg r ⟨m.regs[r].waits, ar, m.regs[r].left⟩) * R) w := by
  refine At.reg_flags (g := g) (rc := rc) (dv := dv) (hm.lefts _ (List.getElem_mem hr)) hr hvs hm (h.cast ?_)
  have e : (rgcs m.regs vs).set (r * 3 + 2) (.int .i64 m.regs[r].left) = rgcs m.regs vs := by
    have := (rgcs_at hr hvs).2.2
    obtain ⟨h1, h2⟩ := List.getElem?_eq_some_iff.1 this
    rw [← h2]
    exact List.set_self' _ _ h1
  rw [List.set_comm _ _ (by omega), e]
/-- A crash in one region, and in all. -/
def Dk.crash1 (mask : Nat) (m : Dk) (r : Nat) : Dk := match m.regs[r]? with
  | some x => (m.keep r mask).setReg r ⟨[], false, x.left⟩
  | none => m
def Dk.crashTo (mask : Nat) (m : Dk) (n : Nat) : Dk := (List.range n).foldl (Dk.crash1 mask) m
def Dk.crash (mask : Nat) (m : Dk) : Dk := m.crashTo mask m.regs.length
theorem Dk.crashTo_succ (mask : Nat) (m : Dk) (n : Nat) : m.crashTo mask (n + 1) = (m.crashTo mask n).crash1 mask n := by
  unfold Dk.crashTo
  rw [List.range_succ, List.foldl_append]
  rfl
theorem Dk.keep_regs (m : Dk) (r mask : Nat) : (m.keep r mask).regs.length = m.regs.length ∧ (m.keep r mask).size = m.size ∧ (m.keep r mask).writes = m.writes := by
  unfold Dk.keep
  split <;> simp
theorem Dk.crash1_regs (mask : Nat) (m : Dk) (r : Nat) : (m.crash1 mask r).regs.length = m.regs.length ∧ (m.crash1 mask r).size = m.size ∧ (m.crash1 mask r).writes = m.writes := by
  unfold Dk.crash1
  split
  · have := m.keep_regs r mask
    simp [Dk.setReg, this]
  · simp
theorem Dk.crashTo_regs (mask : Nat) (m : Dk) : ∀ n, (m.crashTo mask n).regs.length = m.regs.length ∧ (m.crashTo mask n).size = m.size ∧ (m.crashTo mask n).writes = m.writes
  | 0 => ⟨rfl, rfl, rfl⟩
  | n + 1 => by
    have h1 := m.crashTo_regs mask n
    have h2 := (m.crashTo mask n).crash1_regs mask n
    rw [m.crashTo_succ]
    exact ⟨h2.1.trans h1.1, h2.2.1.trans h1.2.1, h2.2.2.trans h1.2.2⟩
theorem Dk.crash1_eq (mask : Nat) {m : Dk} {r : Nat} (hr : r < m.regs.length) : m.crash1 mask r = (m.keep r mask).setReg r ⟨[], false, m.regs[r].left⟩ := by
  unfold Dk.crash1
  rw [List.getElem?_eq_getElem hr]

set_option maxRecDepth 100000 in
set_option maxHeartbeats 4000000 in
theorem diskCrash_any (w0 w : World) (R : HP) (b : Nat) (m : Dk) (mask : Nat) (hmk : mask < 18446744073709551616) (hwn : m.writes ≤ 1000000000) (h : At w0 (dsk b m * R) w) :
    Calls Try.prog 24 #[.pointer (some ⟨b, 0, none⟩), .int .u64 mask] w fun e w' => e = .returned (.tuple #[]) ∧ At w0 (dsk b (m.crash mask) * R) w' := by
  obtain ⟨hm, dv, rv, vs, hvs, h1⟩ := h.dsk_open
  obtain ⟨ra, rc, rfl⟩ := h1.pull3.row_len
  have c2 := At.cell (i := 2) h1 rfl
  have hn := hm.regs
  have Hh := hide h
  clear h1 hm h
  obtain ⟨n, hnr⟩ : ∃ n, m.regs.length = n := ⟨_, rfl⟩
  have Hnr := hide hnr
  rw [hnr] at hn c2
  clear hnr hvs
  go_enter Try.func24, Try.ntmps24
  go_wp2_with fail
  go_loopw [12] (fun u wr => ∃ i : Nat, i ≤ n ∧ u = .int .i64 i ∧ At w0 (dsk b (m.crashTo mask i) * R) wr) (fun u _ => n - (intOf u).toNat)
  case atStart => exact ⟨0, Nat.zero_le _, rfl, Hh.out⟩
  case round =>
    obtain ⟨i, hi, rfl, h5⟩ := hrel
    clear c2
    obtain ⟨M, hM⟩ : ∃ M, m.crashTo mask i = M := ⟨_, rfl⟩
    have hMr := m.crashTo_regs mask i
    rw [hM] at hMr h5
    by_cases hil : i < n
    · have hiM : i < M.regs.length := by rw [hMr.1, Hnr.out]; exact hil
      have hilz : (i : Int) < (n : Int) := by omega
      have hkp := diskKeep_any w0 wr R b M i mask hiM hmk (by rw [hMr.2.2]; exact hwn) h5
      have HM := hide hM
      have HMr := hide hMr
      clear hM hMr h5
      go_wp2_with fail
      refine hkp.mono ?_
      rintro e w6 ⟨rfl, h6⟩
      have hkr := M.keep_regs i mask
      have hiK : i < (M.keep i mask).regs.length := by rw [hkr.1]; exact hiM
      obtain ⟨hm6, dv6, rv6, vs6, hvs6, h7⟩ := h6.dsk_open
      obtain ⟨g6, rc6, rfl, hrc6, hcell6⟩ := h7.pull3.row_ptr (by omega)
      have hK : (M.keep i mask).regs.length = n := by rw [hkr.1, HMr.out.1, Hnr.out]
      have k2 := At.cell (i := 2) h7 rfl
      have h8 := h7.pull3
      have u0 := (h8.row_cell rfl (rgcs_at hiK hvs6).2.1).2
      have u1 := h8.row_fz (i * 3 + 1)
      have u2 := h8.row_lt
      have hzl : (i : Int) < ((M.keep i mask).regs.length : Int) := by omega
      have hwf := hide hm6
      have hfin : (M.keep i mask).setReg i ⟨(M.keep i mask).regs[i].waits, false, (M.keep i mask).regs[i].left⟩ = m.crashTo mask (i + 1) := by
        rw [m.crashTo_succ, HM.out, Dk.crash1_eq mask hiM]
        have : (M.keep i mask).regs[i] = ⟨[], M.regs[i].armed, M.regs[i].left⟩ := by
          simp only [Dk.keep_eq mask hiM, List.getElem_set_self]
        rw [this]
      have Hfin := hide hfin
      clear hkp h6 h7 hcell6 hm6 hfin hkr
      go_wp2_with fail
      go_roundw
      case rel =>
        refine ⟨i + 1, by omega, by go_num, ?_⟩
        have h9 := At.reg_armed (ar := false) hiK hvs6 hwf.out (h8.row_set (i * 3 + 1) (.bool false))
        rw [Hfin.out] at h9
        exact h9
      case measure => simp [intOf]; omega
    · obtain rfl : i = n := by omega
      have hfin : M = m.crash mask := by rw [← hM]; unfold Dk.crash; rw [Hnr.out]
      have Hfin := hide hfin
      clear hfin hM hMr
      go_wp2_with fail
      go_end0
      exact ⟨rfl, by rw [← Hfin.out]; exact h5⟩
end Go.Proofs.Ytmlifjfgelfbbaa
