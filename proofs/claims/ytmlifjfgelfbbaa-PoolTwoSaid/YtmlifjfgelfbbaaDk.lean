/-
  The package disk: at, Down, Arm: what they come to, in terms of blocks: contracts, no statement.
-/
import Derived.Test.YtmlifjfgelfbbaaDD
import Derived.Test.YtmlifjfgelfbbaaRR
import Derived.Test.YtmlifjfgelfbbaaProg
import Derived.Deep.LoopGhost
import Derived.Deep.RegionHeld3
namespace Go.Proofs.Ytmlifjfgelfbbaa
open Go Go.RowKit

theorem prod_le {r n s : Nat} (hr : r < n) (hn : n ≤ 64) (hs : s ≤ 65536) : r * s ≤ 4194304 :=
  Nat.le_trans (Nat.mul_le_mul (show r ≤ 64 by omega) hs) (by decide)

set_option maxRecDepth 100000 in
set_option maxHeartbeats 2000000 in
theorem diskAt_in (w0 w : World) (R : HP) (b : Nat) (m : Dk) (r s : Nat) (hr : r < m.regs.length) (hs : s < m.size) (h : At w0 (dsk b m * R) w) :
    Calls Try.prog 31 #[.pointer (some ⟨b, 0, none⟩), .int .i64 r, .int .i64 s] w fun e w' => e = .returned (.int .i64 (r * m.size + s : Nat)) ∧ w = w' := by
  obtain ⟨hm, dv, rv, vs, hvs, h1⟩ := h.dsk_open
  obtain ⟨ra, rc, rfl⟩ := h1.pull3.row_len
  have c0 := At.cell (i := 0) h1 rfl
  have c2 := At.cell (i := 2) h1 rfl
  have hp := prod_le hr hm.regs hm.size
  have hsz := hm.size
  have hrn : (r : Int) < (m.regs.length : Int) := by omega
  have hsn : (s : Int) < (m.size : Int) := by omega
  have hmul : (r : Int) * (m.size : Int) = ((r * m.size : Nat) : Int) := by simp
  obtain ⟨q, hq⟩ : ∃ q, r * m.size = q := ⟨_, rfl⟩
  rw [hq] at hp hmul ⊢
  clear h h1 hm hq hvs
  generalize m.size = sz at *
  generalize m.regs.length = rl at *
  go_enter Try.func31, Try.ntmps31
  go_wp2_with fail
  go_ret
  exact ⟨by simp, rfl⟩
theorem diskAt_out (w0 w : World) (R : HP) (b : Nat) (m : Dk) (r s : Nat) (hr : r < m.regs.length) (hs : m.size ≤ s) (h : At w0 (dsk b m * R) w) :
    Calls Try.prog 31 #[.pointer (some ⟨b, 0, none⟩), .int .i64 r, .int .i64 s] w fun e w' => e = .returned (.int .i64 (-1)) ∧ w = w' := by
  obtain ⟨hm, dv, rv, vs, hvs, h1⟩ := h.dsk_open
  obtain ⟨ra, rc, rfl⟩ := h1.pull3.row_len
  have c0 := At.cell (i := 0) h1 rfl
  have c2 := At.cell (i := 2) h1 rfl
  have hrn : (r : Int) < (m.regs.length : Int) := by omega
  have hsn : (m.size : Int) ≤ (s : Int) := by omega
  clear h h1 hm hvs
  generalize m.size = sz at *
  generalize m.regs.length = rl at *
  go_enter Try.func31, Try.ntmps31
  go_wp2_with fail
  go_ret
  exact ⟨rfl, rfl⟩

def Reg.down (r : Reg) : Bool := r.armed && (r.left : Int) == 0
set_option maxRecDepth 100000 in
set_option maxHeartbeats 2000000 in
theorem diskDown_any (w0 w : World) (R : HP) (b : Nat) (m : Dk) (r : Nat) (hr : r < m.regs.length) (h : At w0 (dsk b m * R) w) :
    Calls Try.prog 32 #[.pointer (some ⟨b, 0, none⟩), .int .i64 r] w fun e w' => e = .returned (.bool m.regs[r].down) ∧ w = w' := by
  have hat := diskAt_in w0 w R b m r 0 hr h.dsk_open.1.size0 h
  obtain ⟨hm, dv, rv, vs, hvs, h1⟩ := h.dsk_open
  obtain ⟨g, rc, rfl, hrc, hcell⟩ := h1.pull3.row_ptr (by omega)
  have c2 := At.cell (i := 2) h1 rfl
  obtain ⟨e0, e1, e2⟩ := rgcs_at hr hvs
  have d1 := hcell _ _ e1
  have d2 := hcell _ _ e2
  have hrn : (r : Int) < (m.regs.length : Int) := by omega
  have hp0 : (0 : Int) ≤ ((r * m.size + 0 : Nat) : Int) := by omega
  unfold Reg.down
  generalize r * m.size + 0 = q at *
  generalize m.regs[r] = x at *
  clear h h1 hm hcell e0 e1 e2
  generalize m.regs.length = rl at *
  clear hvs hr
  obtain ⟨ws, ar, lf⟩ := x
  simp only at d1 d2 ⊢
  cases ar with
  | false =>
    go_enter Try.func32, Try.ntmps32
    go_wp2_with fail
    refine hat.mono ?_
    rintro e w1 ⟨rfl, rfl⟩
    go_wp2_with fail
    go_ret
    exact ⟨rfl, rfl⟩
  | true =>
    go_enter Try.func32, Try.ntmps32
    go_wp2_with fail
    refine hat.mono ?_
    rintro e w1 ⟨rfl, rfl⟩
    go_wp2_with fail
    go_ret
    exact ⟨rfl, rfl⟩

/-- The disk with another region r. -/
def Dk.setReg (m : Dk) (r : Nat) (x : Reg) : Dk := { m with regs := m.regs.set r x }
theorem Dk.Wf.setReg {m : Dk} (hm : m.Wf) {r : Nat} {x : Reg} (hx : x.waits.length ≤ m.writes ∧ ∀ p ∈ x.waits, p.2.length = 64 ∧ p.1 < m.size) (hl : x.left ≤ 9223372036854775807) : (m.setReg r x).Wf := by
  refine ⟨by simp only [Dk.setReg, List.length_set]; exact hm.data, by simp only [Dk.setReg, List.length_set]; exact hm.regs, hm.size0, hm.size, hm.secs, fun y hy => ?_, fun y hy => ?_⟩
  · rcases List.mem_or_eq_of_mem_set hy with h | rfl
    · exact hm.waits y h
    · exact hx
  · rcases List.mem_or_eq_of_mem_set hy with h | rfl
    · exact hm.lefts y h
    · exact hl
theorem At.reg_set {w0 w : World} {R : HP} {b : Nat} {m : Dk} {r : Nat} {x : Reg} {v dv rv : Value} {vs : List Value} (hr : r < m.regs.length) (hv : vs.length = m.regs.length) (hm : (m.setReg r x).Wf)
    (h : At w0 (cel b #[.int .i64 m.size, dv, rv, .int .i64 m.writes] 82 * (row 96 64 dv m.data.length (secs m.data) * (row 95 3 rv m.regs.length (rgcs (m.regs.set r x) (vs.set r v)) * (row 98 65 v x.waits.length (wcss x.waits) * (rgsX r m.regs vs * R))))) w) : At w0 (dsk b (m.setReg r x) * R) w := by
  refine At.dsk_shut (dv := dv) (rv := rv) (vs := vs.set r v) hm (by simp [Dk.setReg, hv]) (h.cast ?_)
  simp only [Dk.setReg, List.length_set, rgsP_set hr hv]
  ac_rfl
theorem List.set_self' {α : Type} (l : List α) (i : Nat) (h : i < l.length) : l.set i l[i] = l := by simp

theorem At.reg_flags {w0 w : World} {R : HP} {b : Nat} {m : Dk} {r g rc : Nat} {ar : Bool} {lf : Nat} {dv : Value} {vs : List Value} (hlf : lf ≤ 9223372036854775807) (hr : r < m.regs.length) (hvs : vs.length = m.regs.length) (hm : m.Wf)
    (h : At w0 (row 95 3 (.slice (some ⟨g, 0, none⟩) m.regs.length rc) m.regs.length (((rgcs m.regs vs).set (r * 3 + 1) (.bool ar)).set (r * 3 + 2) (.int .i64 lf)) *
      (cel b #[.int .i64 m.size, dv, .slice (some ⟨g, 0, none⟩) m.regs.length rc, .int .i64 m.writes] 82 * (row 96 64 dv m.data.length (secs m.data) * (rgsP m.regs vs * R)))) w) : At w0 (dsk b (m.setReg r ⟨m.regs[r].waits, ar, lf⟩) * R) w := by
  have hw := hm.waits m.regs[r] (List.getElem_mem hr)
  refine At.reg_set (dv := dv) (rv := .slice (some ⟨g, 0, none⟩) m.regs.length rc) (v := vs[r]'(by omega)) hr hvs (hm.setReg (by exact hw) hlf) (h.cast ?_)
  have e := rgcs_set0 hr hvs ⟨m.regs[r].waits, ar, lf⟩ (vs[r]'(by omega))
  have e2 : (rgcs m.regs vs).set (r * 3) (vs[r]'(by omega)) = rgcs m.regs vs := by
    have := (rgcs_at hr hvs).1
    obtain ⟨h1, h2⟩ := List.getElem?_eq_some_iff.1 this
    rw [← h2]
    exact List.set_self' _ _ h1
  rw [e2] at e
  rw [← e, rgsP_get hr hvs]
  ac_rfl
end Go.Proofs.Ytmlifjfgelfbbaa
