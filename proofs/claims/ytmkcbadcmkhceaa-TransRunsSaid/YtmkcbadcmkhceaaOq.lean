/-
  An argument that is a slice of changes, opened to its cells. Laws of the model's readings; no statement.
-/
import Derived.Test.YtmkcbadcmkhceaaOp
import Derived.Test.YtmkcbadcmkhceaaTr1
namespace Go.Proofs.Ytmkcbadcmkhceaa
open Go Go.RowKit Go.ChangeShapes Go.WideShapes Go.Deep

section
variable {H : Type} {enc : TypeId × Value → H} {W : World} {base : Nat} {held : Bool} {spare : Nat → Bool}

theorem open_ch {fuel : Nat} {cs : List Value} {x : DataW H × List MemPlace} (h : DataW.trod enc Try.prog W base spare held fuel 36 cs = some x) :
    ∃ c : Ch, cs = c.cells ∧ (Lit.int .i64 c.p).wf = true ∧ (Lit.int .i64 c.s).wf = true ∧ c.b.size ≤ maxLen := by
  obtain ⟨xs, n, rfl, hx, hlen, hxl, hf⟩ := DataW.trod_struct Try.underlying36 h
  have h3 : cs.length = 3 := hlen
  match cs, h3 with
  | [u0, u1, u2], _ =>
    match xs, hxl with
    | [y0, y1, y2], _ =>
      have f0 := hf 0 _ rfl
      have f1 := hf 1 _ rfl
      have f2 := hf 2 _ rfl
      obtain ⟨p, e0, _, w0⟩ := DataW.trod_int Try.underlying3 f0
      obtain ⟨s, e1, _, w1⟩ := DataW.trod_int Try.underlying3 f1
      obtain ⟨b, e2, _, w2⟩ := DataW.trod_string Try.underlying9 f2
      refine ⟨⟨p, s, b⟩, ?_, w0, w1, w2⟩
      have e0' : [u0] = [.int .i64 p] := e0
      have e1' : [u1] = [.int .i64 s] := e1
      have e2' : [u2] = [.string b] := e2
      simp only [List.cons.injEq, and_true] at e0' e1' e2'
      rw [e0', e1', e2']
      rfl

/-- A slice of changes that came in can be read. -/
theorem open_chs_arg {a : Option Addr} {n cap : Nat} {d : DataW H} {p : List MemPlace} (h : DataW.Trod enc Try.prog W base (fun _ => true) held 40 (.slice a n cap) d p) :
    ∃ z : Nat → Ch, (∀ i, (Lit.int .i64 (z i).p).wf = true ∧ (Lit.int .i64 (z i).s).wf = true) ∧ n ≤ 9223372036854775807 ∧ ∀ i, i < n → ∃ b o, a = some ⟨b, o, none⟩ ∧
      W.cell? ⟨b, o + i * 3, none⟩ = some (.int .i64 (z i).p) ∧ W.cell? ⟨b, o + i * 3 + 1, none⟩ = some (.int .i64 (z i).s) ∧ W.cell? ⟨b, o + i * 3 + 2, none⟩ = some (.string (z i).b) := by
  obtain ⟨fuel, hf⟩ := h
  rcases open_slice Try.underlying40 hf with ⟨hcs, _⟩ | ⟨x, l, c, m, k, D, Pl, hcs, hb, hl, hm, hmm, _, hi⟩
  · simp [Value.cells] at hcs
    obtain ⟨rfl, rfl, rfl⟩ := hcs
    exact ⟨fun _ => ⟨0, 0, ⟨#[]⟩⟩, fun _ => ⟨rfl, rfl⟩, by omega, fun i hi => absurd hi (by omega)⟩
  · simp [Value.cells] at hcs
    obtain ⟨rfl, rfl, rfl⟩ := hcs
    simp only [if_true] at hmm
    subst hmm
    have hC : Try.prog.cellsOf 36 = 3 := by kernel_rfl
    rw [hC] at hi
    have hx : ∀ i, ∃ c : Ch, ((Lit.int .i64 c.p).wf = true ∧ (Lit.int .i64 c.s).wf = true) ∧ (i < n → W.cell? (x.add (i * 3)) = some (.int .i64 c.p) ∧ W.cell? ((x.add (i * 3)).add 1) = some (.int .i64 c.s) ∧ W.cell? ((x.add (i * 3)).add 2) = some (.string c.b)) := by
      intro i
      by_cases hin : i < n
      · obtain ⟨cs', hc, ht⟩ := hi i (by omega)
        obtain ⟨c, rfl, w0, w1, _⟩ := open_ch ht
        obtain ⟨_, _, hat⟩ := World.cells?_some hc
        refine ⟨c, ⟨w0, w1⟩, fun _ => ⟨?_, hat 1 (by decide), hat 2 (by decide)⟩⟩
        have := hat 0 (by decide)
        rwa [show (x.add (i * 3)).add 0 = x.add (i * 3) by simp [Addr.add]] at this
      · exact ⟨⟨0, 0, ⟨#[]⟩⟩, ⟨rfl, rfl⟩, fun h => absurd h hin⟩
    obtain ⟨z, hz⟩ := Classical.axiomOfChoice hx
    refine ⟨z, fun i => (hz i).1, by unfold maxLen at hm; omega, fun i hin => ?_⟩
    obtain ⟨h0, h1, h2⟩ := (hz i).2 hin
    obtain ⟨b, o, s⟩ := x
    obtain rfl : s = none := by
      have := World.cell?_spot ((hz 0).2 (by omega)).1
      simpa [Addr.add] using this
    rw [Addr.add_lit] at h0 h1 h2
    rw [Addr.add_lit] at h1 h2
    exact ⟨b, o, rfl, h0, h1, h2⟩
end
end Go.Proofs.Ytmkcbadcmkhceaa
