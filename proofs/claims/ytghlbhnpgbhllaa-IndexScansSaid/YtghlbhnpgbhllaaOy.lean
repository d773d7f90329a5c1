/-
  Arguments that are arrays of two texts, or of two numbers, opened to their cells. Laws of the model's readings; no statement.
-/
import Derived.Test.YtghlbhnpgbhllaaOx
import Derived.OpenShut
namespace Go.Proofs.Ytghlbhnpgbhllaa
open Go Go.RowKit Go.ChangeShapes Go.WideShapes Go.Deep
section
variable {H : Type} {enc : TypeId × Value → H} {W : World} {base : Nat} {held : Bool}

theorem open_strs2_arg {v : Value} {d : DataW H} {p : List MemPlace} (hv : Value.okWide Try.prog W .any base 46 v) (h : DataW.Trod enc Try.prog W 0 (fun _ => true) held 46 v d p)
    {ts : List TypeId} {ds : List (DataW H)} (hw : (DataW.weightsEach Try.prog ts ds).all (· ≤ reachBytes) = true) {j : Nat} (ht : ts[j]? = some 46) (hd : ds[j]? = some d) :
    ∃ s0 s1 : ByteArray, v = .agg #[.string s0, .string s1] ∧ s0.size ≤ 140737488355328 ∧ s1.size ≤ 140737488355328 := by
  unfold Value.okWide at hv
  rw [Try.underlying46] at hv
  obtain ⟨cs, rfl, hsz, _⟩ := hv
  obtain ⟨fuel, hf⟩ := h
  obtain ⟨xs, m, rfl, hx, hlen, hxl, hg⟩ := DataW.trod_array Try.underlying46 hf
  obtain ⟨rfl, rfl⟩ := Prod.mk.inj hx
  have hC : Try.prog.cellsOf 9 = 1 := by kernel_rfl
  have hC2 : Try.prog.cellsOf 46 = 2 := by kernel_rfl
  rw [hC] at hg
  rw [hC2] at hsz
  obtain ⟨u0, u1, hcs⟩ : ∃ u0 u1, cs = #[u0, u1] := ⟨cs[0], cs[1], by
    apply Array.ext
    · simp [hsz]
    · intro i h1 h2
      simp only [List.size_toArray, List.length_cons, List.length_nil] at h2
      match i with
      | 0 => simp
      | 1 => simp⟩
  subst hcs
  match xs, hxl with
  | [y0, y1], _ =>
    have f0 := hg 0 (by omega)
    have f1 := hg 1 (by omega)
    obtain ⟨s0, a0, b0, _⟩ := DataW.trod_string Try.underlying9 f0
    obtain ⟨s1, a1, b1, _⟩ := DataW.trod_string Try.underlying9 f1
    have a0' : [u0] = [.string s0] := a0
    have a1' : [u1] = [.string s1] := a1
    simp only [List.cons.injEq, and_true] at a0' a1'
    have hmem : ∀ q ∈ [s0.data.toList.length, s1.data.toList.length], q ≤ reachBytes := fun q hq => by
      have h2 : q ∈ (DataW.agg (List.map (·.1) [y0, y1]) : DataW H).weights Try.prog 46 := by
        simp only [List.map_cons, List.map_nil, b0, b1, DataW.weights, Try.underlying46, DataW.weightsAll]
        simpa using hq
      simpa using List.all_eq_true.1 hw q (DataW.weights_mem_each ht hd q h2)
    have e1 := hmem _ List.mem_cons_self
    have e2 := hmem _ (List.mem_cons_of_mem _ List.mem_cons_self)
    simp only [Array.length_toList] at e1 e2
    have hr : reachBytes = 140737488351232 := rfl
    exact ⟨s0, s1, by rw [a0', a1'], by show s0.data.size ≤ _; omega, by show s1.data.size ≤ _; omega⟩

theorem open_ints2_arg {v : Value} {d : DataW H} {p : List MemPlace} (hv : Value.okWide Try.prog W .any base 47 v) (h : DataW.Trod enc Try.prog W 0 (fun _ => true) held 47 v d p) :
    ∃ g0 g1 : Int, v = .agg #[.int .i64 g0, .int .i64 g1] := by
  unfold Value.okWide at hv
  rw [Try.underlying47] at hv
  obtain ⟨cs, rfl, hsz, _⟩ := hv
  obtain ⟨fuel, hf⟩ := h
  obtain ⟨xs, m, rfl, hx, hlen, hxl, hg⟩ := DataW.trod_array Try.underlying47 hf
  obtain ⟨rfl, rfl⟩ := Prod.mk.inj hx
  have hC : Try.prog.cellsOf 3 = 1 := by kernel_rfl
  have hC2 : Try.prog.cellsOf 47 = 2 := by kernel_rfl
  rw [hC] at hg
  rw [hC2] at hsz
  obtain ⟨u0, u1, hcs⟩ : ∃ u0 u1, cs = #[u0, u1] := ⟨cs[0], cs[1], by
    apply Array.ext
    · simp [hsz]
    · intro i h1 h2
      simp only [List.size_toArray, List.length_cons, List.length_nil] at h2
      match i with
      | 0 => simp
      | 1 => simp⟩
  subst hcs
  match xs, hxl with
  | [y0, y1], _ =>
    have f0 := hg 0 (by omega)
    have f1 := hg 1 (by omega)
    obtain ⟨s0, a0, b0, _⟩ := DataW.trod_int Try.underlying3 f0
    obtain ⟨s1, a1, b1, _⟩ := DataW.trod_int Try.underlying3 f1
    have a0' : [u0] = [.int .i64 s0] := a0
    have a1' : [u1] = [.int .i64 s1] := a1
    simp only [List.cons.injEq, and_true] at a0' a1'
    exact ⟨s0, s1, by rw [a0', a1']⟩
end
end Go.Proofs.Ytghlbhnpgbhllaa
