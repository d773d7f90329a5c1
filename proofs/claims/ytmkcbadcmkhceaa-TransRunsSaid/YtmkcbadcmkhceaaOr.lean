/-
  An argument that is a slice of calls, opened to its cells. Laws of the model's readings; no statement.
-/
import Derived.Test.YtmkcbadcmkhceaaOq
import Derived.Test.YtmkcbadcmkhceaaTx
namespace Go.Proofs.Ytmkcbadcmkhceaa
open Go Go.RowKit Go.ChangeShapes Go.WideShapes Go.Deep

section
variable {H : Type} {enc : TypeId × Value → H} {W : World} {base : Nat} {held : Bool} {spare : Nat → Bool}

def Cl.cells (c : Cl) : List Value := [.int .i64 c.k, .int .i64 c.n, .int .i64 c.t, .int .i64 c.c.p, .int .i64 c.c.s, .string c.c.b]

theorem open_call {fuel : Nat} {cs : List Value} {x : DataW H × List MemPlace} (h : DataW.trod enc Try.prog W base spare held fuel 54 cs = some x) :
    ∃ c : Cl, cs = c.cells := by
  obtain ⟨xs, n, rfl, hx, hlen, hxl, hf⟩ := DataW.trod_struct Try.underlying54 h
  have h6 : cs.length = 6 := hlen
  match cs, h6 with
  | [u0, u1, u2, u3, u4, u5], _ =>
    match xs, hxl with
    | [y0, y1, y2, y3], _ =>
      have f0 := hf 0 _ rfl
      have f1 := hf 1 _ rfl
      have f2 := hf 2 _ rfl
      have f3 := hf 3 _ rfl
      obtain ⟨k, e0, _, w0⟩ := DataW.trod_int Try.underlying3 f0
      obtain ⟨m, e1, _, w1⟩ := DataW.trod_int Try.underlying3 f1
      obtain ⟨t, e2, _, w2⟩ := DataW.trod_int Try.underlying3 f2
      obtain ⟨c, e3, _⟩ := open_ch f3
      refine ⟨⟨k, m, t, c⟩, ?_⟩
      have e0' : [u0] = [.int .i64 k] := e0
      have e1' : [u1] = [.int .i64 m] := e1
      have e2' : [u2] = [.int .i64 t] := e2
      have e3' : [u3, u4, u5] = [.int .i64 c.p, .int .i64 c.s, .string c.b] := e3
      simp only [List.cons.injEq, and_true] at e0' e1' e2' e3'
      rw [e0', e1', e2', e3'.1, e3'.2.1, e3'.2.2]
      rfl

/-- A slice of calls that came in can be read. -/
theorem open_calls_arg {a : Option Addr} {n cap : Nat} {d : DataW H} {p : List MemPlace} (h : DataW.Trod enc Try.prog W base (fun _ => true) held 50 (.slice a n cap) d p) :
    ∃ z : Nat → Cl, n ≤ 9223372036854775807 ∧ Cls W a n z := by
  obtain ⟨fuel, hf⟩ := h
  rcases open_slice Try.underlying50 hf with ⟨hcs, _⟩ | ⟨x, l, c, m, k, D, Pl, hcs, hb, hl, hm, hmm, _, hi⟩
  · simp [Value.cells] at hcs
    obtain ⟨rfl, rfl, rfl⟩ := hcs
    exact ⟨fun _ => ⟨0, 0, 0, ⟨0, 0, ⟨#[]⟩⟩⟩, by omega, fun i hi => absurd hi (by omega)⟩
  · simp [Value.cells] at hcs
    obtain ⟨rfl, rfl, rfl⟩ := hcs
    simp only [if_true] at hmm
    subst hmm
    have hC : Try.prog.cellsOf 54 = 6 := by kernel_rfl
    rw [hC] at hi
    have hx : ∀ i, ∃ c : Cl, i < n → ∀ j u, c.cells[j]? = some u → W.cell? ((x.add (i * 6)).add j) = some u := by
      intro i
      by_cases hin : i < n
      · obtain ⟨cs', hc, ht⟩ := hi i (by omega)
        obtain ⟨c, rfl⟩ := open_call ht
        obtain ⟨_, _, hat⟩ := World.cells?_some hc
        refine ⟨c, fun _ j u hu => ?_⟩
        have hj : j < c.cells.length := (List.getElem?_eq_some_iff.1 hu).1
        exact (hat j hj).trans hu
      · exact ⟨⟨0, 0, 0, ⟨0, 0, ⟨#[]⟩⟩⟩, fun h => absurd h hin⟩
    obtain ⟨z, hz⟩ := Classical.axiomOfChoice hx
    refine ⟨z, by unfold maxLen at hm; omega, fun i hin => ?_⟩
    obtain ⟨b, o, s⟩ := x
    obtain rfl : s = none := by
      have := World.cell?_spot (hz 0 (by omega) 0 _ rfl)
      simpa [Addr.add] using this
    have h0 := hz i hin 0 _ rfl
    have h1 := hz i hin 1 _ rfl
    have h2 := hz i hin 2 _ rfl
    have h3 := hz i hin 3 _ rfl
    have h4 := hz i hin 4 _ rfl
    have h5 := hz i hin 5 _ rfl
    simp only [Addr.add_lit, Nat.add_zero] at h0 h1 h2 h3 h4 h5
    exact ⟨b, o, rfl, h0, h1, h2, h3, h4, h5⟩
end
end Go.Proofs.Ytmkcbadcmkhceaa
