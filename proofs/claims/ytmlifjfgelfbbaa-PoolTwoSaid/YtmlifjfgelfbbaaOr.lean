/-
  Arguments that are rows, opened to their cells. Laws of the model's readings; no statement.
-/
import Derived.Test.YtmlifjfgelfbbaaOi
namespace Go.Proofs.Ytmlifjfgelfbbaa
open Go Go.RowKit Go.ChangeShapes Go.WideShapes Go.Deep

section
variable {H : Type} {enc : TypeId × Value → H} {W : World} {base : Nat} {spare : Nat → Bool} {held : Bool}
def rowD (t : Int) (k v : ByteArray) : DataW H := .agg [.lit (.int .i64 t), .lit (.string k.data.toList), .lit (.string v.data.toList)]
set_option maxRecDepth 100000 in
theorem open_rowc {fuel : Nat} {cs : List Value} {x : DataW H × List MemPlace} (h : DataW.trod enc Try.prog W base spare held fuel 57 cs = some x) : ∃ (t : Int) (k v : ByteArray), cs = [.int .i64 t, .string k, .string v] ∧ x.1 = rowD t k v := by
  obtain ⟨zs, n', rfl, rfl, hlen', hxl', hf'⟩ := DataW.trod_struct Try.underlying57 h
  have h3 : cs.length = 3 := hlen'
  match cs, h3 with
  | [u0, u1, u2], _ =>
    match zs, hxl' with
    | [z0, z1, z2], _ =>
      have g0 := hf' 0 _ rfl
      have g1 := hf' 1 _ rfl
      have g2 := hf' 2 _ rfl
      obtain ⟨t, a0, b0, _⟩ := DataW.trod_int Try.underlying3 g0
      obtain ⟨k, a1, b1, _⟩ := DataW.trod_string Try.underlying9 g1
      obtain ⟨v, a2, b2, _⟩ := DataW.trod_string Try.underlying9 g2
      refine ⟨t, k, v, ?_, ?_⟩
      · have a0' : [u0] = [.int .i64 t] := a0
        have a1' : [u1] = [.string k] := a1
        have a2' : [u2] = [.string v] := a2
        simp only [List.cons.injEq, and_true] at a0' a1' a2'
        rw [a0', a1', a2']
      · simp only [List.map_cons, List.map_nil]
        rw [b0, b1, b2]
        rfl
set_option maxRecDepth 100000 in
theorem open_row_arg {v : Value} {d : DataW H} {p : List MemPlace} (hv : Value.okWide Try.prog W .any base 57 v) (h : DataW.Trod enc Try.prog W 0 (fun _ => true) held 57 v d p)
    {ts : List TypeId} {ds : List (DataW H)} (hw : (DataW.weightsEach Try.prog ts ds).all (· ≤ reachBytes) = true) {j : Nat} (ht : ts[j]? = some 57) (hd : ds[j]? = some d) :
    ∃ (t : Int) (k s : ByteArray), v = .agg #[.int .i64 t, .string k, .string s] ∧ k.size ≤ 140737488355328 ∧ s.size ≤ 140737488355328 := by
  unfold Value.okWide at hv
  rw [Try.underlying57] at hv
  obtain ⟨cs, rfl, _, _⟩ := hv
  obtain ⟨fuel, hf⟩ := h
  obtain ⟨t, k, s, hi, hD⟩ := open_rowc hf
  have hmem : ∀ q ∈ [k.data.toList.length, s.data.toList.length], q ≤ reachBytes := fun q hq => by
    have h1 : q ∈ (rowD (H := H) t k s).weights Try.prog 57 := by
      simp [rowD, DataW.weights, DataW.weightsEach, Try.underlying57] at hq ⊢
      exact hq
    rw [← hD] at h1
    simpa using List.all_eq_true.1 hw q (DataW.weights_mem_each ht hd q h1)
  have e1 := hmem _ List.mem_cons_self
  have e2 := hmem _ (List.mem_cons_of_mem _ List.mem_cons_self)
  simp only [Array.length_toList] at e1 e2
  have hr : reachBytes = 140737488351232 := rfl
  refine ⟨t, k, s, ?_, by show k.data.size ≤ _; omega, by show s.data.size ≤ _; omega⟩
  have hi' : cs.toList = [.int .i64 t, .string k, .string s] := hi
  congr 1
  apply Array.ext'
  exact hi'
end
end Go.Proofs.Ytmlifjfgelfbbaa
