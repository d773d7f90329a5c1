/-
  Arguments that are slices of LaneRuns' deeds, opened to their cells. Laws of the model's readings; no statement.
-/
import Derived.Test.YtgkibjjcdcpkfaaOz
import Derived.Test.YtgkibjjcdcpkfaaDd
namespace Go.Proofs.Ytgkibjjcdcpkfaa
open Go Go.RowKit Go.ChangeShapes Go.WideShapes Go.Deep

section
variable {H : Type} {enc : TypeId × Value → H} {W : World} {base : Nat} {held : Bool}

set_option maxRecDepth 20000 in
theorem open_dd {fuel : Nat} {cs : List Value} {x : DataW H × List MemPlace} (h : DataW.trod enc Try.prog W base (fun _ => true) held fuel 72 cs = some x) :
    ∃ s : DdV, cs = s.cs ∧ s.In W (old W * 1) ∧ s.sd.1.dirty.length ≤ maxLen := by
  obtain ⟨xs, n, rfl, hx, hlen, hxl, hf⟩ := DataW.trod_struct Try.underlying72 h
  have h11 : cs.length = 11 := hlen
  match cs, h11 with
  | [u0, u1, u2, u3, u4, u5, u6, u7, u8, u9, u10], _ =>
    match xs, hxl with
    | [y0, y1, y2, y3], _ =>
      have f0 := hf 0 _ rfl
      have f1 := hf 1 _ rfl
      have f2 := hf 2 _ rfl
      have f3 := hf 3 _ rfl
      obtain ⟨k, e0, _, w0⟩ := DataW.trod_int Try.underlying3 f0
      obtain ⟨t, e1, _, w1⟩ := DataW.trod_int Try.underlying3 f1
      obtain ⟨s, e2, hs1, hs2⟩ := open_sd f2
      obtain ⟨m, e3, _, w3⟩ := DataW.trod_int Try.underlying33 f3
      have b3 := u64_bounds w3
      have e0' : [u0] = [.int .i64 k] := e0
      have e1' : [u1] = [.int .i64 t] := e1
      have e2' : [u2, u3, u4, u5, u6, u7, u8, u9] = s.cs := e2
      have e3' : [u10] = [.int .u64 m] := e3
      simp only [List.cons.injEq, and_true] at e0' e1' e3'
      refine ⟨⟨k, t, s, m.toNat⟩, ?_, ⟨hs1, by show m.toNat < 18446744073709551616; omega⟩, hs2⟩
      show _ = Value.int .i64 k :: .int .i64 t :: (s.cs ++ [.int .u64 (m.toNat : Int)])
      rw [← e2', e0', e1', e3', show (m.toNat : Int) = m by omega]
      rfl

theorem open_deeds_arg {a : Option Addr} {n cap : Nat} {d : DataW H} {p : List MemPlace} (h : DataW.Trod enc Try.prog W base (fun _ => true) held 69 (.slice a n cap) d p) :
    ∃ ss : List DdV, ss.length = n ∧ n ≤ maxLen ∧ (∀ x ∈ ss, x.sd.1.dirty.length ≤ maxLen) ∧ DdsIn W (old W * 1) a ss := by
  obtain ⟨fuel, hf⟩ := h
  rcases open_slice Try.underlying69 hf with ⟨hcs, _⟩ | ⟨x, l, c, m, k, D, Pl, hcs, hb, hl, hm, hmm, _, hi⟩
  · simp [Value.cells] at hcs
    obtain ⟨rfl, rfl, rfl⟩ := hcs
    exact ⟨[], rfl, Nat.zero_le _, (fun x hx => by simp at hx), .inl rfl, fun x hx => by simp at hx⟩
  · simp [Value.cells] at hcs
    obtain ⟨rfl, rfl, rfl⟩ := hcs
    simp only [if_true] at hmm
    subst hmm
    have hC : Try.prog.cellsOf 72 = 11 := by kernel_rfl
    rw [hC] at hi
    have hx' : ∀ i, ∃ s : DdV, (i < n → s.In W (old W * 1) ∧ s.sd.1.dirty.length ≤ maxLen ∧ ∀ j u, s.cs[j]? = some u → W.cell? ((x.add (i * 11)).add j) = some u) := by
      intro i
      by_cases hin : i < n
      · obtain ⟨cs', hc, ht'⟩ := hi i (by omega)
        obtain ⟨s, rfl, hIn, hml⟩ := open_dd ht'
        obtain ⟨_, _, hat⟩ := World.cells?_some hc
        exact ⟨s, fun _ => ⟨hIn, hml, fun j u hu => (hat j (List.getElem?_eq_some_iff.1 hu).1).trans hu⟩⟩
      · exact ⟨⟨0, 0, (⟨0, 0, 0, 0, 0, 0, 0, []⟩, none, 0), 0⟩, fun h => absurd h hin⟩
    obtain ⟨z, hz⟩ := Classical.axiomOfChoice hx'
    have hll : ((List.range n).map z).length = n := by simp
    refine ⟨(List.range n).map z, hll, by omega, fun y hy => ?_, ?_, fun y hy => ?_⟩
    · rw [List.mem_map] at hy
      obtain ⟨i, hir, rfl⟩ := hy
      exact (hz i (List.mem_range.1 hir)).2.1
    · by_cases h0 : n = 0
      · left
        subst h0
        rfl
      · right
        obtain ⟨b, o, s⟩ := x
        obtain rfl : s = none := by
          have := World.cell?_spot ((hz 0 (by omega)).2.2 0 _ rfl)
          simpa [Addr.add] using this
        refine ⟨b, o, rfl, fun w' h' j u hu => h'.old_cell ?_⟩
        have hjl : j < n * 11 := by
          have := (List.getElem?_eq_some_iff.1 hu).1
          rw [flat_sized (k := 11) (fun y _ => y.cs_len), hll] at this
          exact this
        have hq : j / 11 < ((List.range n).map z).length := by rw [hll]; omega
        have hje : j = j / 11 * 11 + j % 11 := by omega
        rw [hje, flat_at (fun y _ => y.cs_len) (j / 11) (j % 11) hq (by omega)] at hu
        have h1 := (hz (j / 11) (by omega)).2.2 (j % 11) u (by simpa using hu)
        rw [Addr.add_lit, Addr.add_lit] at h1
        rw [show o + j = o + j / 11 * 11 + j % 11 by omega]
        exact h1
    · rw [List.mem_map] at hy
      obtain ⟨i, hir, rfl⟩ := hy
      exact (hz i (List.mem_range.1 hir)).1
end
end Go.Proofs.Ytgkibjjcdcpkfaa
