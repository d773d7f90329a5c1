/-
  Seeds that are read. No walk, no statement.
-/
import Derived.Test.YtgkibjjcdcpkfaaLx
namespace Go.Proofs.Ytgkibjjcdcpkfaa
open Go Go.RowKit

abbrev SdV := Sd × Option Addr × Nat
def SdV.cs (x : SdV) : List Value := x.1.cells (.slice x.2.1 x.1.dirty.length x.2.2)
theorem SdV.cs_len (x : SdV) : x.cs.length = 8 := rfl
theorem SdV.one (x : SdV) : x.cs.toArray.all (·.oneCell') = true := by
  obtain ⟨⟨k, t, p, s, b, a, i, dd⟩, q, c⟩ := x
  simp only [SdV.cs, Sd.cells, List.all_toArray, List.all_cons, List.all_nil]
  rfl
/-- What a seed's slice of numbers holds is read. -/
def SdV.In (w0 : World) (A : HP) (x : SdV) : Prop := x.1.Wf ∧ (0 < x.1.dirty.length → ∀ w', At w0 A w' → Rd w' (.slice x.2.1 x.1.dirty.length x.2.2) (nus x.1.dirty))
def SdsIn (w0 : World) (A : HP) (a : Option Addr) (ss : List SdV) : Prop :=
  (ss = [] ∨ ∃ g o, a = some ⟨g, o, none⟩ ∧ ∀ w', At w0 A w' → ∀ j u, (ss.flatMap SdV.cs)[j]? = some u → w'.cell? ⟨g, o + j, none⟩ = some u) ∧ ∀ x ∈ ss, x.In w0 A
theorem SdsIn.mono {w0 : World} {A B : HP} {a : Option Addr} {rs : List SdV} (h : SdsIn w0 A a rs) : SdsIn w0 (B * A) a rs :=
  ⟨h.1.imp id fun ⟨g, o, e, hc⟩ => ⟨g, o, e, fun w' h' => hc w' h'.r⟩, fun x hx => ⟨(h.2 x hx).1, fun h0 w' h' => (h.2 x hx).2 h0 w' h'.r⟩⟩
theorem SdsIn.at {w0 w : World} {A : HP} {a : Option Addr} {rs : List SdV} (h : SdsIn w0 A a rs) (hA : At w0 A w) {i : Nat} (hi : i < rs.length) : ∃ g o, a = some ⟨g, o, none⟩ ∧ ∀ j u, rs[i].cs[j]? = some u → w.cell? ⟨g, o + i * 8 + j, none⟩ = some u := by
  obtain ⟨g, o, e, hc⟩ := h.1.resolve_left (fun e => by subst e; simp at hi)
  refine ⟨g, o, e, fun j u hu => ?_⟩
  rw [Nat.add_assoc]
  refine hc w hA (i * 8 + j) u ?_
  have hj : j < 8 := by rw [← rs[i].cs_len]; exact (List.getElem?_eq_some_iff.1 hu).1
  rw [flat_at (fun y _ => y.cs_len) i j hi hj]
  exact hu
/-- A world that has what was there reads what was there. -/
theorem Rd.old {W w : World} {R : HP} {v : Value} {xs : List Value} (h : Rd W v xs) (hA : At W (old W * R) w) : Rd w v xs := by
  rcases h with ⟨rfl, rfl⟩ | ⟨g, o, c, rfl, hc, hx⟩
  · exact Rd.nil w
  · exact .inr ⟨g, o, c, rfl, hc, fun j u hu => hA.old_cell (hx j u hu)⟩
theorem Sd.rcd_len {s : Sd} : s.rcd.dirty.length ≤ 6 := by
  unfold Sd.rcd Sd.dy
  simp only
  split
  · rw [List.length_append, List.length_take, List.length_replicate]
    omega
  · exact Nat.zero_le _
theorem Try.zeroSeed (w : World) : (zeroValue 56).run Try.prog w = .ok (.agg (List.toArray [.int .i64 0, .int .i64 0, .int .i64 0, .int .i64 0, .int .u8 0, .int .u8 0, .int .u8 0, .slice none 0 0])) w := by kernel_rfl
/-- A seed's record, in terms of what is read. -/
theorem seedRec_v (w0 w : World) (R : HP) (x : SdV) (hx : x.In w0 R) (hsz : x.1.dirty.length ≤ 1000000) (h : At w0 R w) :
    Calls Try.prog 24 #[.agg x.cs.toArray] w fun e w' => ∃ a1 c1, e = .returned (.agg (RecV.cs (x.1.rcd, a1, c1)).toArray) ∧
      At w0 (row 33 1 (.slice a1 x.1.rcd.dirty.length c1) x.1.rcd.dirty.length (nus x.1.rcd.dirty) * R) w' :=
  seedRec_any w0 w R x.1 x.2.1 x.2.2 hx.1 hsz hx.2 h
end Go.Proofs.Ytgkibjjcdcpkfaa
