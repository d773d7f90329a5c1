/-
  row.Right: a contract, no statement.
-/
import Derived.Test.YtmlifjfgelfbbaaPk
import Derived.Deep.CutBlock
namespace Go.Proofs.Ytmlifjfgelfbbaa
open Go Go.RowKit

/-- May it be a row? -/
def rightR (t : Int) (k v : ByteArray) : Bool := decide (0 ≤ t ∧ t < 4 ∧ k.size ≤ 15 ∧ v.size ≤ 21)
set_option maxRecDepth 100000 in
set_option maxHeartbeats 4000000 in
theorem rowRight_any (w0 w : World) (A : HP) (t : Int) (k v : ByteArray) (h : At w0 A w) :
    Calls Try.prog 20 #[.agg #[.int .i64 t, .string k, .string v]] w fun e w' => e = .returned (.bool (rightR t k v)) ∧ At w0 A w' := by
  obtain ⟨B, hB⟩ : ∃ N, w.heap.size = N := ⟨_, rfl⟩
  have h1 := h.alloc' hB (.cells #[.int .i64 t, .string k, .string v] 57)
  obtain ⟨R, hR⟩ : ∃ R, rightR t k v = R := ⟨_, rfl⟩
  rw [hR]
  unfold rightR at hR
  go_enter Try.func20, Try.ntmps20
  go_upto_region 1 with fail
  generalize hw1 : w.alloc _ = w1 at h1 ⊢
  try rw [hB]
  clear hw1 hB
  have c0 := At.cell (i := 0) h1 rfl
  have c1 := At.cell (i := 1) h1 rfl
  have c2 := At.cell (i := 2) h1 rfl
  have h2 := h1.r
  clear h h1
  by_cases a0 : 0 ≤ t
  · by_cases a1 : t < 4
    · by_cases a2 : k.size ≤ 15
      · have a2z : (k.size : Int) ≤ 15 := by omega
        by_cases a3 : v.size ≤ 21
        · have a3z : (v.size : Int) ≤ 21 := by omega
          rw [decide_eq_true ⟨a0, a1, a2, a3⟩] at hR
          subst hR
          go_wp2_with fail
          go_ret
          exact ⟨rfl, h2⟩
        · have a3z : ¬ (v.size : Int) ≤ 21 := by omega
          rw [decide_eq_false (fun hh => a3 hh.2.2.2)] at hR
          subst hR
          go_wp2_with fail
          go_ret
          exact ⟨rfl, h2⟩
      · have a2z : ¬ (k.size : Int) ≤ 15 := by omega
        rw [decide_eq_false (fun hh => a2 hh.2.2.1)] at hR
        subst hR
        go_wp2_with fail
        go_ret
        exact ⟨rfl, h2⟩
    · rw [decide_eq_false (fun hh => a1 hh.2.1)] at hR
      subst hR
      go_wp2_with fail
      go_ret
      exact ⟨rfl, h2⟩
  · rw [decide_eq_false (fun hh => a0 hh.1)] at hR
    subst hR
    go_wp2_with fail
    go_ret
    exact ⟨rfl, h2⟩
end Go.Proofs.Ytmlifjfgelfbbaa
