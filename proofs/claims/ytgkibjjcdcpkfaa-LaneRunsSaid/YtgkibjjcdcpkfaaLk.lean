/-
  A lane's region that is armed; a failed Flush; what crashes leave: in terms of its state. No statement.
-/
import Derived.Test.YtgkibjjcdcpkfaaRx
namespace Go.Proofs.Ytgkibjjcdcpkfaa
open Go Go.RowKit

theorem Dk.arm_wts {m : Dk} {q : Nat} (hq : q < m.regs.length) (a : Bool) (n : Nat) (r : Nat) : (m.setReg q ⟨m.regs[q].waits, a, n⟩).wts r = m.wts r := by
  unfold Dk.wts
  rw [Dk.set_regs hq]
  by_cases hrq : r = q
  · subst hrq
    rw [if_pos rfl, List.getElem?_eq_getElem hq]
    rfl
  · rw [if_neg hrq]
theorem LSt.arm {m : Dk} {r : Nat} {L : Ln} {all : List Rec} {k : Nat} (h : LSt m r L all k) {q : Nat} (hq : q < m.regs.length) (a : Bool) {n : Nat} (hn : n ≤ 9223372036854775807) : LSt (m.setReg q ⟨m.regs[q].waits, a, n⟩) r L all k := by
  obtain ⟨h1, h2, h3, h4, h5, h6⟩ := h
  obtain ⟨g1, g2, g3, g4, g5, g6, g7, g8, g9, g10, g11⟩ := h6
  exact ⟨h1, h2, h3, h4, h5, g1.setReg (g1.waits m.regs[q] (List.getElem_mem hq)) hn, by simpa [Dk.setReg] using g2, g3, (Dk.arm_wts hq a n r).trans g4, g5, g6, g7, g8, g9, g10, g11⟩
/-- Flush, whether it goes through or not: what a crash leaves then. -/
theorem LSt.flush_any {m : Dk} {r : Nat} {L : Ln} {all : List Rec} {k : Nat} (h : LSt m r L all k) :
    ∃ sure, L.sure ≤ sure ∧ sure ≤ (encR all).length ∧ Torn (L.flush m r).2.2 r (fun f => PartF f L.gen L.bank (encR all) sure) ∧ (L.flush m r).2.2.writes ≤ m.writes + 256 := by
  obtain ⟨g1, g2, g3, g4, g5, g6, g7, g8⟩ := h.flush
  have hsu : L.sure ≤ (encR all).length := by rw [h.sure]; exact encR_take_le _ _
  by_cases h0 : (L.flush m r).1 = 0
  · obtain ⟨g9, g10, g11, g12⟩ := g7 h0
    refine ⟨(encR all).length, hsu, Nat.le_refl _, ?_, g6⟩
    have := g9.torn
    rw [g10, g11, List.take_length] at this
    exact this
  · exact ⟨L.sure, Nat.le_refl _, hsu, (g8 h0).2, g6⟩
theorem u64_nat (x : Int) : ∃ k : Nat, IntKind.u64.wrap x = (k : Int) ∧ k < 18446744073709551616 := by
  have h : 0 ≤ IntKind.u64.wrap x ∧ IntKind.u64.wrap x < 18446744073709551616 := by
    rw [IntKind.wrap_u64]
    omega
  exact ⟨(IntKind.u64.wrap x).toNat, by omega, by omega⟩
theorem xor_nat (a b : Int) : ∃ k : Nat, bits .xor .u64 a b = (k : Int) ∧ k < 18446744073709551616 := u64_nat _
theorem startsB_take (l : List Rec) (j : Nat) (hj : j ≤ l.length) : startsB (l.take j) l = true := by
  unfold startsB
  have : (l.take j).length = j := by rw [List.length_take]; omega
  rw [this]
  simp [hj]
theorem and63i (x : Int) : ∃ k : Nat, bits .and .i64 x 63 = (k : Int) ∧ k ≤ 63 := by
  have h : (BitVec.ofInt 64 x &&& BitVec.ofInt 64 63).toNat ≤ 63 := by
    rw [BitVec.toNat_and]
    exact Nat.and_le_right
  refine ⟨(BitVec.ofInt 64 x &&& BitVec.ofInt 64 63).toNat, ?_, h⟩
  show IntKind.i64.wrap ((BitVec.ofInt 64 x &&& BitVec.ofInt 64 63).toNat : Int) = _
  rw [IntWalk.i64_in _ (by omega)]
end Go.Proofs.Ytgkibjjcdcpkfaa
