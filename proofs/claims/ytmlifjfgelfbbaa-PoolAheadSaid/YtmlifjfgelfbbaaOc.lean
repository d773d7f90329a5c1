/-
  A slice of layer 8's calls as an argument, opened to its cells. Laws of the model's readings; no statement.
-/
import Derived.Test.YtmlifjfgelfbbaaOr
namespace Go.Proofs.Ytmlifjfgelfbbaa
open Go Go.RowKit Go.ChangeShapes Go.WideShapes Go.Deep

/-- A call. -/
structure C8 where
  k : Int
  p : Int
  s : Int
  t : Int
  ky : ByteArray
  vl : ByteArray
def C8.cells (c : C8) : List Value := [.int .i64 c.k, .int .i64 c.p, .int .i64 c.s, .int .i64 c.t, .string c.ky, .string c.vl]
/-- The calls of a slice can be read. -/
def Cs8 (W : World) (a : Option Addr) (n : Nat) (z : Nat → C8) : Prop := ∀ i, i < n → ∃ b o, a = some ⟨b, o, none⟩ ∧ ∀ j u, (z i).cells[j]? = some u → W.cell? ⟨b, o + i * 6 + j, none⟩ = some u

section
variable {H : Type} {enc : TypeId × Value → H} {W : World} {base : Nat} {spare : Nat → Bool} {held : Bool}
set_option maxRecDepth 100000 in
theorem open_call8 {fuel : Nat} {cs : List Value} {x : DataW H × List MemPlace} (h : DataW.trod enc Try.prog W base spare held fuel 65 cs = some x) : ∃ c : C8, cs = c.cells := by
  obtain ⟨xs, n, rfl, rfl, hlen, hxl, hf⟩ := DataW.trod_struct Try.underlying65 h
  have h6 : cs.length = 6 := hlen
  match cs, h6 with
  | [u0, u1, u2, u3, u4, u5], _ =>
    match xs, hxl with
    | [y0, y1, y2, y3], _ =>
      have f0 := hf 0 _ rfl
      have f1 := hf 1 _ rfl
      have f2 := hf 2 _ rfl
      have f3 := hf 3 _ rfl
      obtain ⟨k, a0, b0, _⟩ := DataW.trod_int Try.underlying3 f0
      obtain ⟨p, a1, b1, _⟩ := DataW.trod_int Try.underlying3 f1
      obtain ⟨s, a2, b2, _⟩ := DataW.trod_int Try.underlying3 f2
      obtain ⟨t, ky, vl, a3, b3⟩ := open_rowc f3
      refine ⟨⟨k, p, s, t, ky, vl⟩, ?_⟩
      have a0' : [u0] = [.int .i64 k] := a0
      have a1' : [u1] = [.int .i64 p] := a1
      have a2' : [u2] = [.int .i64 s] := a2
      have a3' : [u3, u4, u5] = [.int .i64 t, .string ky, .string vl] := a3
      simp only [List.cons.injEq, and_true] at a0' a1' a2' a3'
      obtain ⟨a3', a4', a5'⟩ := a3'
      rw [a0', a1', a2', a3', a4', a5']
      rfl
set_option maxRecDepth 100000 in
theorem open_calls8 {a : Option Addr} {n cap : Nat} {d : DataW H} {p : List MemPlace} (h : DataW.Trod enc Try.prog W base (fun _ => true) held 63 (.slice a n cap) d p) :
    ∃ z : Nat → C8, n ≤ 9223372036854775807 ∧ Cs8 W a n z := by
  obtain ⟨fuel, hf⟩ := h
  rcases open_slice Try.underlying63 hf with ⟨hcs, _⟩ | ⟨x, l, c, m, k, D, Pl, hcs, hb, hl, hm, hmm, hx, hi⟩
  · simp [Value.cells] at hcs
    obtain ⟨rfl, rfl, rfl⟩ := hcs
    exact ⟨fun _ => ⟨0, 0, 0, 0, ⟨#[]⟩, ⟨#[]⟩⟩, by omega, fun i hi => absurd hi (by omega)⟩
  · simp [Value.cells] at hcs
    obtain ⟨rfl, rfl, rfl⟩ := hcs
    simp only [if_true] at hmm
    subst hmm
    have hC : Try.prog.cellsOf 65 = 6 := by kernel_rfl
    rw [hC] at hi
    have hx' : ∀ i, ∃ c : C8, i < n → ∀ j u, c.cells[j]? = some u → W.cell? ((x.add (i * 6)).add j) = some u := by
      intro i
      by_cases hin : i < n
      · obtain ⟨cs', hc, ht'⟩ := hi i (by omega)
        obtain ⟨c, rfl⟩ := open_call8 ht'
        obtain ⟨_, _, hat⟩ := World.cells?_some hc
        exact ⟨c, fun _ j u hu => (hat j (List.getElem?_eq_some_iff.1 hu).1).trans hu⟩
      · exact ⟨⟨0, 0, 0, 0, ⟨#[]⟩, ⟨#[]⟩⟩, fun h => absurd h hin⟩
    obtain ⟨z, hz⟩ := Classical.axiomOfChoice hx'
    refine ⟨z, by unfold maxLen at hm; omega, fun i hin => ?_⟩
    have hzi := hz i hin
    obtain ⟨b, o, s⟩ := x
    obtain rfl : s = none := by
      have := World.cell?_spot (hz 0 (by omega) 0 _ rfl)
      simpa [Addr.add] using this
    refine ⟨b, o, rfl, fun j u hu => ?_⟩
    have := hzi j u hu
    simpa only [Addr.add_lit] using this
end
end Go.Proofs.Ytmlifjfgelfbbaa
