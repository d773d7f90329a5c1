/-
  Arguments that are numbers: their bounds. Laws of the model's readings; no statement.
-/
import Derived.Test.YtmlifjfgelfbbaaBB
import Derived.Test.YtmlifjfgelfbbaaProg
import Derived.ProofKit
import Derived.ChangeSame
import Derived.Deep.Slices
import Derived.Deep.Fields
import Derived.SizedLaws
namespace Go.Proofs.Ytmlifjfgelfbbaa
open Go Go.RowKit Go.ChangeShapes Go.WideShapes Go.Deep

theorem int_bounds {n : Int} (h : (Lit.int .i64 n).wf = true) : -9223372036854775808 ≤ n ∧ n ≤ 9223372036854775807 := by
  simp [Lit.wf, IntKind.min, IntKind.max, IntKind.signed, IntKind.bits] at h
  omega
theorem u64_bounds {n : Int} (h : (Lit.int .u64 n).wf = true) : 0 ≤ n ∧ n < 18446744073709551616 := by
  simp [Lit.wf, IntKind.min, IntKind.max, IntKind.signed, IntKind.bits] at h
  omega
theorem u8_bounds {n : Int} (h : (Lit.int .u8 n).wf = true) : 0 ≤ n ∧ n < 256 := by
  simp [Lit.wf, IntKind.min, IntKind.max, IntKind.signed, IntKind.bits] at h
  omega
section
variable {H : Type} {enc : TypeId × Value → H} {W : World} {base : Nat} {held : Bool}
theorem open_ints_arg {a : Option Addr} {n cap : Nat} {d : DataW H} {p : List MemPlace} (h : DataW.Trod enc Try.prog W base (fun _ => true) held 45 (.slice a n cap) d p) :
    ∃ z : Nat → Int, n ≤ 9223372036854775807 ∧ (∀ i, -9223372036854775808 ≤ z i ∧ z i ≤ 9223372036854775807) ∧ ∀ i, i < n → ∃ b o, a = some ⟨b, o, none⟩ ∧ W.cell? ⟨b, o + i, none⟩ = some (.int .i64 (z i)) := by
  obtain ⟨fuel, hf⟩ := h
  rcases open_slice1 Try.underlying45 (by kernel_rfl) hf with ⟨hcs, _⟩ | ⟨ad, len, c, m, k, V, D, Pl, hcs, hb, hl, hm, hmm, _, hx⟩
  · simp [Value.cells] at hcs
    obtain ⟨rfl, rfl, rfl⟩ := hcs
    exact ⟨fun _ => 0, by omega, fun _ => ⟨by show (-9223372036854775808 : Int) ≤ 0; omega, by show (0 : Int) ≤ _; omega⟩, fun i hi => absurd hi (by omega)⟩
  · simp [Value.cells] at hcs
    obtain ⟨rfl, rfl, rfl⟩ := hcs
    simp only [if_true] at hmm
    subst hmm
    have hv : ∀ i, ∃ v : Int, (-9223372036854775808 ≤ v ∧ v ≤ 9223372036854775807) ∧ (i < n → W.cell? (ad.add i) = some (.int .i64 v)) := fun i => by
      by_cases hi : i < n
      · obtain ⟨h1, h2⟩ := hx i (by omega)
        obtain ⟨k, e0, _, w0⟩ := DataW.trod_int Try.underlying3 h2
        have e0' : [V i] = [.int .i64 k] := e0
        simp only [List.cons.injEq, and_true] at e0'
        exact ⟨k, int_bounds w0, fun _ => by rw [h1, e0']⟩
      · exact ⟨0, ⟨by omega, by omega⟩, fun h => absurd h hi⟩
    obtain ⟨z, hz⟩ := Classical.axiomOfChoice hv
    refine ⟨z, by unfold maxLen at hm; omega, fun i => (hz i).1, fun i hi => ?_⟩
    have hc := (hz i).2 hi
    obtain ⟨b, o, s⟩ := ad
    obtain rfl : s = none := by simpa [Addr.add] using World.cell?_spot ((hz 0).2 (by omega))
    rw [Addr.add_lit] at hc
    exact ⟨b, o, rfl, hc⟩
end
end Go.Proofs.Ytmlifjfgelfbbaa
