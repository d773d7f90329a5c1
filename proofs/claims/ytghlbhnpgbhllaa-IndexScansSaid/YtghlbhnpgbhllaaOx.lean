/-
  Arguments that are rows of an index, or slices of calls, opened to their cells, with how long their texts are. Laws of the model's readings; no statement.
-/
import Derived.Test.YtghlbhnpgbhllaaIf
import Derived.ProofKit
import Derived.ChangeSame
import Derived.Deep.Slices
import Derived.Deep.Fields
import Derived.SizedLaws
namespace Go.Proofs.Ytghlbhnpgbhllaa
open Go Go.RowKit Go.ChangeShapes Go.WideShapes Go.Deep

theorem int_bounds {n : Int} (h : (Lit.int .i64 n).wf = true) : -9223372036854775808 ≤ n ∧ n ≤ 9223372036854775807 := by
  simp [Lit.wf, IntKind.min, IntKind.max, IntKind.signed, IntKind.bits] at h
  omega

section
variable {H : Type} {enc : TypeId × Value → H} {W : World} {base : Nat} {held : Bool} {spare : Nat → Bool}

def itD (i : It) : DataW H := .agg [.agg [.lit (.int .i64 i.t), .lit (.string i.k.data.toList), .lit (.string i.v.data.toList)], .lit (.int .i64 i.p), .lit (.int .i64 i.s)]

theorem open_it {fuel : Nat} {cs : List Value} {x : DataW H × List MemPlace} (h : DataW.trod enc Try.prog W base spare held fuel 31 cs = some x) : ∃ i : It, cs = i.cells ∧ x.1 = itD i := by
  obtain ⟨xs, n, rfl, rfl, hlen, hxl, hf⟩ := DataW.trod_struct Try.underlying31 h
  have h5 : cs.length = 5 := hlen
  match cs, h5 with
  | [u0, u1, u2, u3, u4], _ =>
    match xs, hxl with
    | [y0, y1, y2], _ =>
      have f0 := hf 0 _ rfl
      have f1 := hf 1 _ rfl
      have f2 := hf 2 _ rfl
      obtain ⟨zs, n', e', hy0, hlen', hxl', hf'⟩ := DataW.trod_struct Try.underlying29 f0
      match zs, hxl' with
      | [z0, z1, z2], _ =>
        have g0 := hf' 0 _ rfl
        have g1 := hf' 1 _ rfl
        have g2 := hf' 2 _ rfl
        obtain ⟨t, a0, b0, _⟩ := DataW.trod_int Try.underlying3 g0
        obtain ⟨k, a1, b1, _⟩ := DataW.trod_string Try.underlying9 g1
        obtain ⟨v, a2, b2, _⟩ := DataW.trod_string Try.underlying9 g2
        obtain ⟨p, a3, b3, _⟩ := DataW.trod_int Try.underlying3 f1
        obtain ⟨s, a4, b4, _⟩ := DataW.trod_int Try.underlying3 f2
        refine ⟨⟨t, k, v, p, s⟩, ?_, ?_⟩
        · have a0' : [u0] = [.int .i64 t] := a0
          have a1' : [u1] = [.string k] := a1
          have a2' : [u2] = [.string v] := a2
          have a3' : [u3] = [.int .i64 p] := a3
          have a4' : [u4] = [.int .i64 s] := a4
          simp only [List.cons.injEq, and_true] at a0' a1' a2' a3' a4'
          rw [a0', a1', a2', a3', a4']
          rfl
        · simp only [List.map_cons, List.map_nil] at hy0 ⊢
          rw [hy0, b3, b4, b0, b1, b2]
          rfl

theorem weights_it (i : It) : ∀ n ∈ [i.k.data.toList.length, i.v.data.toList.length], n ∈ (itD (H := H) i).weights Try.prog 31 := by
  intro n hn
  simp [itD, DataW.weights, DataW.weightsEach, Try.underlying31, Try.underlying29] at hn ⊢
  exact hn

def clD (c : Cl) : DataW H := .agg [.lit (.int .i64 c.k), itD c.i]
def Cl.cells (c : Cl) : List Value := .int .i64 c.k :: c.i.cells
theorem open_call {fuel : Nat} {cs : List Value} {x : DataW H × List MemPlace} (h : DataW.trod enc Try.prog W base spare held fuel 33 cs = some x) : ∃ c : Cl, cs = c.cells ∧ x.1 = clD c := by
  obtain ⟨xs, n, rfl, rfl, hlen, hxl, hf⟩ := DataW.trod_struct Try.underlying33 h
  have h6 : cs.length = 6 := hlen
  match cs, h6 with
  | [u0, u1, u2, u3, u4, u5], _ =>
    match xs, hxl with
    | [y0, y1], _ =>
      have f0 := hf 0 _ rfl
      have f1 := hf 1 _ rfl
      obtain ⟨k, a0, b0, _⟩ := DataW.trod_int Try.underlying3 f0
      obtain ⟨i, a1, b1⟩ := open_it f1
      refine ⟨⟨k, i⟩, ?_, ?_⟩
      · have a0' : [u0] = [.int .i64 k] := a0
        have a1' : [u1, u2, u3, u4, u5] = i.cells := a1
        simp only [List.cons.injEq, and_true] at a0'
        show u0 :: [u1, u2, u3, u4, u5] = _
        rw [a0', a1']
        rfl
      · simp only [List.map_cons, List.map_nil]
        rw [b0, b1]
        rfl
theorem weights_call (c : Cl) : ∀ n ∈ [c.i.k.data.toList.length, c.i.v.data.toList.length], n ∈ (clD (H := H) c).weights Try.prog 33 := by
  intro n hn
  have := weights_it (H := H) c.i n hn
  simp only [clD, DataW.weights, Try.underlying33]
  simp [DataW.weights, DataW.weightsEach]
  exact this
theorem weightsAll_mem {P : Program} {e : TypeId} : ∀ {l : List (DataW H)} {d : DataW H}, d ∈ l → ∀ n ∈ d.weights P e, n ∈ DataW.weightsAll P e l
  | [], d, hd, _, _ => by cases hd
  | d' :: r, d, hd, n, hn => by
    simp only [DataW.weightsAll, List.mem_append]
    rcases List.mem_cons.1 hd with rfl | h
    · exact Or.inl hn
    · exact Or.inr (weightsAll_mem h n hn)

/-- A slice of calls that came in can be read; its texts are not too long for a memory. -/
theorem open_calls_arg {a : Option Addr} {n cap : Nat} {d : DataW H} {p : List MemPlace} (h : DataW.Trod enc Try.prog W base (fun _ => true) held 22 (.slice a n cap) d p)
    {ts : List TypeId} {ds : List (DataW H)} (hw : (DataW.weightsEach Try.prog ts ds).all (· ≤ reachBytes) = true) {j : Nat} (ht : ts[j]? = some 22) (hd : ds[j]? = some d) :
    ∃ z : Nat → Cl, n ≤ 9223372036854775807 ∧ (∀ i, (z i).i.k.size ≤ 140737488355328 ∧ (z i).i.v.size ≤ 140737488355328) ∧ Cls W a n z := by
  obtain ⟨fuel, hf⟩ := h
  rcases open_slice Try.underlying22 hf with ⟨hcs, _⟩ | ⟨x, l, c, m, k, D, Pl, hcs, hb, hl, hm, hmm, hx, hi⟩
  · simp [Value.cells] at hcs
    obtain ⟨rfl, rfl, rfl⟩ := hcs
    exact ⟨fun _ => ⟨0, zeroIt⟩, by omega, fun i => ⟨by show 0 ≤ _; omega, by show 0 ≤ _; omega⟩, fun i hi => absurd hi (by omega)⟩
  · simp [Value.cells] at hcs
    obtain ⟨rfl, rfl, rfl⟩ := hcs
    simp only [if_true] at hmm
    subst hmm
    have hC : Try.prog.cellsOf 33 = 6 := by kernel_rfl
    rw [hC] at hi
    have hx' : ∀ i, ∃ c : Cl, (c.i.k.size ≤ 140737488355328 ∧ c.i.v.size ≤ 140737488355328) ∧ (i < n → ∀ j u, c.cells[j]? = some u → W.cell? ((x.add (i * 6)).add j) = some u) := by
      intro i
      by_cases hin : i < n
      · obtain ⟨cs', hc, ht'⟩ := hi i (by omega)
        obtain ⟨c, rfl, hDc⟩ := open_call ht'
        obtain ⟨_, _, hat⟩ := World.cells?_some hc
        refine ⟨c, ?_, fun _ j u hu => (hat j (List.getElem?_eq_some_iff.1 hu).1).trans hu⟩
        have hmem : ∀ q ∈ [c.i.k.data.toList.length, c.i.v.data.toList.length], q ≤ reachBytes := fun q hq => by
          have h1 := weights_call (H := H) c q hq
          have h2 : q ∈ d.weights Try.prog 22 := by
            obtain ⟨sp, hd'⟩ : ∃ sp, d = .slice ((List.range n).map D) sp := ⟨_, congrArg (·.1) hx⟩
            rw [hd']
            simp only [DataW.weights, Try.underlying22, List.mem_cons, List.mem_append]
            refine .inr (.inl (weightsAll_mem (d := D i) (List.mem_map.2 ⟨i, List.mem_range.2 hin, rfl⟩) q ?_))
            rw [show D i = clD c from hDc]
            exact h1
          simpa using List.all_eq_true.1 hw q (DataW.weights_mem_each ht hd q h2)
        have e1 := hmem _ List.mem_cons_self
        have e2 := hmem _ (List.mem_cons_of_mem _ List.mem_cons_self)
        simp only [Array.length_toList] at e1 e2
        have hr : reachBytes = 140737488351232 := rfl
        exact ⟨by show c.i.k.data.size ≤ _; omega, by show c.i.v.data.size ≤ _; omega⟩
      · exact ⟨⟨0, zeroIt⟩, ⟨by show 0 ≤ _; omega, by show 0 ≤ _; omega⟩, fun h => absurd h hin⟩
    obtain ⟨z, hz⟩ := Classical.axiomOfChoice hx'
    refine ⟨z, by unfold maxLen at hm; omega, fun i => (hz i).1, fun i hin => ?_⟩
    have hzi := (hz i).2 hin
    obtain ⟨b, o, s⟩ := x
    obtain rfl : s = none := by
      have := World.cell?_spot ((hz 0).2 (by omega) 0 _ rfl)
      simpa [Addr.add] using this
    have h0 := hzi 0 _ rfl
    have h1 := hzi 1 _ rfl
    have h2 := hzi 2 _ rfl
    have h3 := hzi 3 _ rfl
    have h4 := hzi 4 _ rfl
    have h5 := hzi 5 _ rfl
    simp only [Addr.add_lit, Nat.add_zero] at h0 h1 h2 h3 h4 h5
    exact ⟨b, o, rfl, h0, h1, h2, h3, h4, h5⟩

/-- Of how many, and of none. -/
theorem open_calls_more {a : Option Addr} {n cap : Nat} {d : DataW H} {p : List MemPlace} (h : DataW.Trod enc Try.prog W base (fun _ => true) held 22 (.slice a n cap) d p)
    {ts : List TypeId} {ds : List (DataW H)} (hw : (DataW.weightsEach Try.prog ts ds).all (· ≤ reachBytes) = true) {j : Nat} (ht : ts[j]? = some 22) (hd : ds[j]? = some d) :
    n * 64 ≤ 140737488351232 ∧ (a = none → n = 0 ∧ cap = 0) := by
  obtain ⟨fuel, hf⟩ := h
  rcases open_slice Try.underlying22 hf with ⟨hcs, _⟩ | ⟨x, l, c, m, k, D, Pl, hcs, hb, hl, hm, hmm, hx, hi⟩
  · simp [Value.cells] at hcs
    obtain ⟨rfl, rfl, rfl⟩ := hcs
    exact ⟨by omega, fun _ => ⟨rfl, rfl⟩⟩
  · simp [Value.cells] at hcs
    obtain ⟨rfl, rfl, rfl⟩ := hcs
    refine ⟨?_, fun h => by cases h⟩
    obtain ⟨sp, hd'⟩ : ∃ sp, d = .slice ((List.range n).map D) sp := ⟨_, congrArg (·.1) hx⟩
    have h1 := sized_slice hw ht (by rw [hd, hd']) Try.underlying22
    have hB : Try.prog.bytesOf 33 = 64 := by kernel_rfl
    rw [hB] at h1
    have hr : reachBytes = 140737488351232 := rfl
    simp only [List.length_map, List.length_range] at h1
    omega

/-- A row by value. -/
theorem open_it_arg {v : Value} {d : DataW H} {p : List MemPlace} (hv : Value.okWide Try.prog W .any base 31 v) (h : DataW.Trod enc Try.prog W 0 (fun _ => true) held 31 v d p)
    {ts : List TypeId} {ds : List (DataW H)} (hw : (DataW.weightsEach Try.prog ts ds).all (· ≤ reachBytes) = true) {j : Nat} (ht : ts[j]? = some 31) (hd : ds[j]? = some d) :
    ∃ i : It, v = i.agg ∧ i.k.size ≤ 140737488355328 ∧ i.v.size ≤ 140737488355328 := by
  unfold Value.okWide at hv
  rw [Try.underlying31] at hv
  obtain ⟨cs, rfl, _, _⟩ := hv
  obtain ⟨fuel, hf⟩ := h
  obtain ⟨i, hi, hD⟩ := open_it hf
  have hmem : ∀ q ∈ [i.k.data.toList.length, i.v.data.toList.length], q ≤ reachBytes := fun q hq => by
    have h1 := weights_it (H := H) i q hq
    rw [← hD] at h1
    simpa using List.all_eq_true.1 hw q (DataW.weights_mem_each ht hd q h1)
  have e1 := hmem _ List.mem_cons_self
  have e2 := hmem _ (List.mem_cons_of_mem _ List.mem_cons_self)
  simp only [Array.length_toList] at e1 e2
  have hr : reachBytes = 140737488351232 := rfl
  refine ⟨i, ?_, by show i.k.data.size ≤ _; omega, by show i.v.data.size ≤ _; omega⟩
  have hi' : cs.toList = i.cells := hi
  unfold It.agg
  congr 1
  apply Array.ext'
  exact hi'
end
end Go.Proofs.Ytghlbhnpgbhllaa
