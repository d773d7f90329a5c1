/-
  (*Disk).Waits: a contract, no statement.
-/
import Derived.Test.YtmlifjfgelfbbaaDr
import Derived.Test.YtmlifjfgelfbbaaLZ
namespace Go.Proofs.Ytmlifjfgelfbbaa
open Go Go.RowKit

set_option maxRecDepth 100000 in
set_option maxHeartbeats 4000000 in
theorem diskWaits_any (w0 w : World) (R : HP) (b : Nat) (m : Dk) (r : Nat) (hr : r < m.regs.length) (hw : m.wts r = []) (h : At w0 (dsk b m * R) w) :
    Calls Try.prog 28 #[.pointer (some ⟨b, 0, none⟩), .int .i64 r] w fun e w' => e = .returned (.int .i64 0) ∧ w = w' := by
  have hat := diskAt_in w0 w R b m r 0 hr h.dsk_open.1.size0 h
  obtain ⟨hm, dv, rv, vs, hvs, h1⟩ := h.dsk_open
  obtain ⟨g, rc, rfl, hrc, hcell⟩ := h1.pull3.row_ptr (by omega)
  obtain ⟨e0, e1, e2⟩ := rgcs_at hr hvs
  have d0 := hcell _ _ e0
  have c2 := At.cell (i := 2) h1 rfl
  have h2 := h1.pull4
  rw [rgsP_get hr hvs] at h2
  have h3 := h2.assoc
  obtain ⟨wa, wc, hwv⟩ := h3.row_len
  rw [hwv] at d0
  rw [Dk.wts_at hr, hw] at d0
  have hrn : (r : Int) < (m.regs.length : Int) := by omega
  change Calls _ _ #[_, _, .int .i64 0] _ _ at hat
  rw [Nat.add_zero] at hat
  obtain ⟨q, hq⟩ : ∃ q, r * m.size = q := ⟨_, rfl⟩
  rw [hq] at hat
  clear h h1 h2 h3 hcell e0 e1 e2 hwv hm hq hw
  simp only [List.length_nil] at d0
  go_enter Try.func28, Try.ntmps28
  go_wp2_with fail
  refine hat.mono ?_
  rintro e w' ⟨rfl, rfl⟩
  go_wp2_with fail
  go_ret
  exact ⟨rfl, rfl⟩
end Go.Proofs.Ytmlifjfgelfbbaa
