/-
  Arguments of a law opened to their cells. Laws of the model's readings; no statement.
-/
import Derived.Test.YtmkcbadcmkhceaaSl
import Derived.Test.YtmkcbadcmkhceaaProg
import Derived.ProofKit
import Derived.ChangeSame
import Derived.Deep.Slices
import Derived.Deep.Fields
namespace Go.Proofs.Ytmkcbadcmkhceaa
open Go Go.RowKit Go.ChangeShapes Go.WideShapes Go.Deep

theorem int_bounds {n : Int} (h : (Lit.int .i64 n).wf = true) : -9223372036854775808 ≤ n ∧ n ≤ 9223372036854775807 := by
  simp [Lit.wf, IntKind.min, IntKind.max, IntKind.signed, IntKind.bits] at h
  omega

section
variable {H : Type} {enc : TypeId × Value → H} {W : World} {base : Nat} {held : Bool}

/-- A slice of numbers that came in can be read. -/
theorem open_ints_arg {a : Option Addr} {n cap : Nat} {d : DataW H} {p : List MemPlace} (h : DataW.Trod enc Try.prog W base (fun _ => true) held 22 (.slice a n cap) d p) :
    ∃ z : Nat → Int, n ≤ 9223372036854775807 ∧ ∀ i, i < n → ∃ b o, a = some ⟨b, o, none⟩ ∧ W.cell? ⟨b, o + i, none⟩ = some (.int .i64 (z i)) := by
  obtain ⟨fuel, hf⟩ := h
  rcases open_ints Try.underlying22 Try.underlying3 (by kernel_rfl) hf with ⟨hcs, _⟩ | ⟨x, l, c, zs, hcs, _, hl, hm, hz, _, hcell, hwz⟩
  · simp [Value.cells] at hcs
    obtain ⟨rfl, rfl, rfl⟩ := hcs
    exact ⟨fun _ => 0, by omega, fun i hi => absurd hi (by omega)⟩
  · simp [Value.cells] at hcs
    obtain ⟨rfl, rfl, rfl⟩ := hcs
    refine ⟨fun i => zs.getD i 0, by unfold maxLen at hm; omega, fun i hi => ?_⟩
    have hi' : i < zs.length := by simp at hz; omega
    have hc := hcell i hi'
    obtain ⟨b, o, s⟩ := x
    obtain rfl : s = none := by simpa [Addr.add] using World.cell?_spot (hcell 0 (by omega))
    rw [Addr.add_lit] at hc
    exact ⟨b, o, rfl, hc⟩
end
end Go.Proofs.Ytmkcbadcmkhceaa
