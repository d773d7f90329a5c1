/-
  Arguments that are seeds of records, slices of them, numbers, opened to their cells. Laws of the model's readings; no statement.
-/
import Derived.Test.YtgkibjjcdcpkfaaSq
import Derived.ProofKit
import Derived.ChangeSame
import Derived.Deep.Slices
import Derived.Deep.Fields
import Derived.SizedLaws
namespace Go.Proofs.Ytgkibjjcdcpkfaa
open Go Go.RowKit Go.ChangeShapes Go.WideShapes Go.Deep

theorem int_bounds {n : Int} (h : (Lit.int .i64 n).wf = true) : -9223372036854775808 ≤ n ∧ n ≤ 9223372036854775807 := by
  simp [Lit.wf, IntKind.min, IntKind.max, IntKind.signed, IntKind.bits] at h
  omega
theorem u64_bounds {n : Int} (h : (Lit.int .u64 n).wf = true) : 0 ≤ n ∧ n < 18446744073709551616 := by
  simp [Lit.wf, IntKind.min, IntKind.max, IntKind.signed, IntKind.bits] at h
  omega
theorem u8_bounds {n : Int} (h : (Lit.int .u8 n).wf = true) : 0 ≤ n ∧ n < 256 := by
  simp [Lit.wf, IntKind.min, IntKind.max, IntKind.signed, IntKind.bits] at h
  omega

section
variable {H : Type} {enc : TypeId × Value → H} {W : World} {base : Nat} {held : Bool}

/-- A slice of numbers of uint64 that came in is read. -/
theorem open_nus {fuel : Nat} {cs : List Value} {x : DataW H × List MemPlace} (h : DataW.trod enc Try.prog W base (fun _ => true) held fuel 42 cs = some x) :
    ∃ (a : Option Addr) (c : Nat) (l : List Nat), cs = [.slice a l.length c] ∧ l.length ≤ maxLen ∧ (∀ d ∈ l, d < 2 ^ 64) ∧ (0 < l.length → Rd W (.slice a l.length c) (nus l)) := by
  rcases open_slice1 Try.underlying42 (by kernel_rfl) h with ⟨rfl, _⟩ | ⟨ad, len, cap, m, n, V, D, Pl, rfl, hb, hl, hm, hmm, _, hx⟩
  · exact ⟨none, 0, [], rfl, Nat.zero_le _, (fun d hd => by simp at hd), fun _ => Rd.nil W⟩
  · simp only [if_true] at hmm
    subst hmm
    have hv : ∀ i, ∃ v : Nat, v < 2 ^ 64 ∧ (i < len → W.cell? (ad.add i) = some (.int .u64 v)) := fun i => by
      by_cases hi : i < len
      · obtain ⟨h1, h2⟩ := hx i (by omega)
        obtain ⟨k, e0, _, w0⟩ := DataW.trod_int Try.underlying33 h2
        have e0' : [V i] = [.int .u64 k] := e0
        simp only [List.cons.injEq, and_true] at e0'
        have hk := u64_bounds w0
        refine ⟨k.toNat, by omega, fun _ => ?_⟩
        rw [h1, e0']
        congr 2
        omega
      · exact ⟨0, by decide, fun h => absurd h hi⟩
    obtain ⟨z, hz⟩ := Classical.axiomOfChoice hv
    have hll : ((List.range len).map z).length = len := by simp
    refine ⟨some ad, m, (List.range len).map z, by rw [hll], by rw [hll]; omega, fun d hd => ?_, fun h0 => ?_⟩
    · rw [List.mem_map] at hd
      obtain ⟨i, _, rfl⟩ := hd
      exact (hz i).1
    · rw [hll] at h0 ⊢
      obtain ⟨b, o, s⟩ := ad
      obtain rfl : s = none := by
        have := World.cell?_spot ((hz 0).2 h0)
        simpa [Addr.add] using this
      have hnl : (nus ((List.range len).map z)).length = len := by rw [nus_len, hll]
      refine .inr ⟨b, o, m, by rw [hnl], by rw [hnl]; exact hl, fun j u hu => ?_⟩
      have hj : j < len := by rw [← hnl]; exact (List.getElem?_eq_some_iff.1 hu).1
      have h1 := (hz j).2 hj
      rw [Addr.add_lit] at h1
      rw [h1]
      simp only [nus, List.map_map, List.getElem?_map, List.getElem?_range hj, Option.map_some] at hu
      exact hu
set_option maxRecDepth 20000 in
theorem open_sd {fuel : Nat} {cs : List Value} {x : DataW H × List MemPlace} (h : DataW.trod enc Try.prog W base (fun _ => true) held fuel 56 cs = some x) :
    ∃ s : SdV, cs = s.cs ∧ s.In W (old W * 1) ∧ s.1.dirty.length ≤ maxLen := by
  obtain ⟨xs, n, rfl, hx, hlen, hxl, hf⟩ := DataW.trod_struct Try.underlying56 h
  have h8 : cs.length = 8 := hlen
  match cs, h8 with
  | [u0, u1, u2, u3, u4, u5, u6, u7], _ =>
    match xs, hxl with
    | [y0, y1, y2, y3, y4, y5, y6, y7], _ =>
      have f0 := hf 0 _ rfl
      have f1 := hf 1 _ rfl
      have f2 := hf 2 _ rfl
      have f3 := hf 3 _ rfl
      have f4 := hf 4 _ rfl
      have f5 := hf 5 _ rfl
      have f6 := hf 6 _ rfl
      have f7 := hf 7 _ rfl
      obtain ⟨k, e0, _, w0⟩ := DataW.trod_int Try.underlying3 f0
      obtain ⟨t, e1, _, w1⟩ := DataW.trod_int Try.underlying3 f1
      obtain ⟨p, e2, _, w2⟩ := DataW.trod_int Try.underlying3 f2
      obtain ⟨s, e3, _, w3⟩ := DataW.trod_int Try.underlying3 f3
      obtain ⟨b, e4, _, w4⟩ := DataW.trod_int Try.underlying5 f4
      obtain ⟨a, e5, _, w5⟩ := DataW.trod_int Try.underlying5 f5
      obtain ⟨i, e6, _, w6⟩ := DataW.trod_int Try.underlying5 f6
      obtain ⟨ad, c, l, e7, hl, hn, hr⟩ := open_nus f7
      have b4 := u8_bounds w4
      have b5 := u8_bounds w5
      have b6 := u8_bounds w6
      have e0' : [u0] = [.int .i64 k] := e0
      have e1' : [u1] = [.int .i64 t] := e1
      have e2' : [u2] = [.int .i64 p] := e2
      have e3' : [u3] = [.int .i64 s] := e3
      have e4' : [u4] = [.int .u8 b] := e4
      have e5' : [u5] = [.int .u8 a] := e5
      have e6' : [u6] = [.int .u8 i] := e6
      have e7' : [u7] = [.slice ad l.length c] := e7
      simp only [List.cons.injEq, and_true] at e0' e1' e2' e3' e4' e5' e6' e7'
      refine ⟨(⟨k, t, p, s, b.toNat, a.toNat, i.toNat, l⟩, ad, c), ?_, ⟨⟨by show b.toNat < 256; omega, by show a.toNat < 256; omega, by show i.toNat < 256; omega, hn⟩, fun h0 w' h' => (hr h0).old h'⟩, hl⟩
      rw [e0', e1', e2', e3', e4', e5', e6', e7']
      show _ = [Value.int .i64 k, .int .i64 t, .int .i64 p, .int .i64 s, .int .u8 (b.toNat : Int), .int .u8 (a.toNat : Int), .int .u8 (i.toNat : Int), .slice ad l.length c]
      rw [show (b.toNat : Int) = b by omega, show (a.toNat : Int) = a by omega, show (i.toNat : Int) = i by omega]

theorem open_seeds_arg {a : Option Addr} {n cap : Nat} {d : DataW H} {p : List MemPlace} (h : DataW.Trod enc Try.prog W base (fun _ => true) held 54 (.slice a n cap) d p) :
    ∃ ss : List SdV, ss.length = n ∧ n ≤ maxLen ∧ (∀ x ∈ ss, x.1.dirty.length ≤ maxLen) ∧ SdsIn W (old W * 1) a ss := by
  obtain ⟨fuel, hf⟩ := h
  rcases open_slice Try.underlying54 hf with ⟨hcs, _⟩ | ⟨x, l, c, m, k, D, Pl, hcs, hb, hl, hm, hmm, _, hi⟩
  · simp [Value.cells] at hcs
    obtain ⟨rfl, rfl, rfl⟩ := hcs
    exact ⟨[], rfl, Nat.zero_le _, (fun x hx => by simp at hx), .inl rfl, fun x hx => by simp at hx⟩
  · simp [Value.cells] at hcs
    obtain ⟨rfl, rfl, rfl⟩ := hcs
    simp only [if_true] at hmm
    subst hmm
    have hC : Try.prog.cellsOf 56 = 8 := by kernel_rfl
    rw [hC] at hi
    have hx' : ∀ i, ∃ s : SdV, (i < n → s.In W (old W * 1) ∧ s.1.dirty.length ≤ maxLen ∧ ∀ j u, s.cs[j]? = some u → W.cell? ((x.add (i * 8)).add j) = some u) := by
      intro i
      by_cases hin : i < n
      · obtain ⟨cs', hc, ht'⟩ := hi i (by omega)
        obtain ⟨s, rfl, hIn, hml⟩ := open_sd ht'
        obtain ⟨_, _, hat⟩ := World.cells?_some hc
        exact ⟨s, fun _ => ⟨hIn, hml, fun j u hu => (hat j (List.getElem?_eq_some_iff.1 hu).1).trans hu⟩⟩
      · exact ⟨(⟨0, 0, 0, 0, 0, 0, 0, []⟩, none, 0), fun h => absurd h hin⟩
    obtain ⟨z, hz⟩ := Classical.axiomOfChoice hx'
    have hll : ((List.range n).map z).length = n := by simp
    refine ⟨(List.range n).map z, hll, by omega, fun y hy => ?_, ?_, fun y hy => ?_⟩
    · rw [List.mem_map] at hy
      obtain ⟨i, hir, rfl⟩ := hy
      exact (hz i (List.mem_range.1 hir)).2.1
    · by_cases h0 : n = 0
      · left
        subst h0
        rfl
      · right
        obtain ⟨b, o, s⟩ := x
        obtain rfl : s = none := by
          have := World.cell?_spot ((hz 0 (by omega)).2.2 0 _ rfl)
          simpa [Addr.add] using this
        refine ⟨b, o, rfl, fun w' h' j u hu => h'.old_cell ?_⟩
        have hjl : j < n * 8 := by
          have := (List.getElem?_eq_some_iff.1 hu).1
          rw [flat_sized (k := 8) (fun y _ => y.cs_len), hll] at this
          exact this
        have hq : j / 8 < ((List.range n).map z).length := by rw [hll]; omega
        have hje : j = j / 8 * 8 + j % 8 := by omega
        rw [hje, flat_at (fun y _ => y.cs_len) (j / 8) (j % 8) hq (by omega)] at hu
        have h1 := (hz (j / 8) (by omega)).2.2 (j % 8) u (by simpa using hu)
        rw [Addr.add_lit, Addr.add_lit] at h1
        rw [show o + j = o + j / 8 * 8 + j % 8 by omega]
        exact h1
    · rw [List.mem_map] at hy
      obtain ⟨i, hir, rfl⟩ := hy
      exact (hz i (List.mem_range.1 hir)).1
set_option maxRecDepth 20000 in
theorem open_seed_arg {v : Value} {d : DataW H} {p : List MemPlace} (hv : Value.okWide Try.prog W .any base 56 v) (h : DataW.Trod enc Try.prog W 0 (fun _ => true) held 56 v d p) :
    ∃ s : SdV, v = .agg s.cs.toArray ∧ s.In W (old W * 1) := by
  unfold Value.okWide at hv
  rw [Try.underlying56] at hv
  obtain ⟨cs, rfl, _, _⟩ := hv
  obtain ⟨fuel, hf⟩ := h
  obtain ⟨s, hs, hIn, _⟩ := open_sd hf
  refine ⟨s, ?_, hIn⟩
  have hi' : cs.toList = s.cs := hs
  congr 1
  apply Array.ext'
  exact hi'
theorem open_ints_arg {a : Option Addr} {n cap : Nat} {d : DataW H} {p : List MemPlace} (h : DataW.Trod enc Try.prog W base (fun _ => true) held 22 (.slice a n cap) d p) :
    ∃ z : Nat → Int, n ≤ 9223372036854775807 ∧ (∀ i, -9223372036854775808 ≤ z i ∧ z i ≤ 9223372036854775807) ∧ ∀ i, i < n → ∃ b o, a = some ⟨b, o, none⟩ ∧ W.cell? ⟨b, o + i, none⟩ = some (.int .i64 (z i)) := by
  obtain ⟨fuel, hf⟩ := h
  rcases open_slice1 Try.underlying22 (by kernel_rfl) hf with ⟨hcs, _⟩ | ⟨ad, len, c, m, k, V, D, Pl, hcs, hb, hl, hm, hmm, _, hx⟩
  · simp [Value.cells] at hcs
    obtain ⟨rfl, rfl, rfl⟩ := hcs
    exact ⟨fun _ => 0, by omega, fun _ => ⟨by show (-9223372036854775808 : Int) ≤ 0; omega, by show (0 : Int) ≤ _; omega⟩, fun i hi => absurd hi (by omega)⟩
  · simp [Value.cells] at hcs
    obtain ⟨rfl, rfl, rfl⟩ := hcs
    simp only [if_true] at hmm
    subst hmm
    have hv : ∀ i, ∃ v : Int, (-9223372036854775808 ≤ v ∧ v ≤ 9223372036854775807) ∧ (i < n → W.cell? (ad.add i) = some (.int .i64 v)) := fun i => by
      by_cases hi : i < n
      · obtain ⟨h1, h2⟩ := hx i (by omega)
        obtain ⟨k, e0, _, w0⟩ := DataW.trod_int Try.underlying3 h2
        have e0' : [V i] = [.int .i64 k] := e0
        simp only [List.cons.injEq, and_true] at e0'
        exact ⟨k, int_bounds w0, fun _ => by rw [h1, e0']⟩
      · exact ⟨0, ⟨by omega, by omega⟩, fun h => absurd h hi⟩
    obtain ⟨z, hz⟩ := Classical.axiomOfChoice hv
    refine ⟨z, by unfold maxLen at hm; omega, fun i => (hz i).1, fun i hi => ?_⟩
    have hc := (hz i).2 hi
    obtain ⟨b, o, s⟩ := ad
    obtain rfl : s = none := by simpa [Addr.add] using World.cell?_spot ((hz 0).2 (by omega))
    rw [Addr.add_lit] at hc
    exact ⟨b, o, rfl, hc⟩
theorem open_u64s_arg {a : Option Addr} {n cap : Nat} {d : DataW H} {p : List MemPlace} (h : DataW.Trod enc Try.prog W base (fun _ => true) held 42 (.slice a n cap) d p) :
    ∃ l : List Nat, l.length = n ∧ n ≤ maxLen ∧ (∀ d ∈ l, d < 2 ^ 64) ∧ (0 < n → Rd W (.slice a n cap) (nus l)) := by
  obtain ⟨fuel, hf⟩ := h
  obtain ⟨a', c', l, hcs, hl, hn, hr⟩ := open_nus hf
  simp [Value.cells] at hcs
  obtain ⟨rfl, rfl, rfl⟩ := hcs
  exact ⟨l, rfl, hl, hn, hr⟩
end
end Go.Proofs.Ytgkibjjcdcpkfaa
