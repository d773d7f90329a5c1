/-
  (*Pool).Dirty: a contract, no statement.
-/
import Derived.Test.YtmlifjfgelfbbaaFF
import Derived.Test.YtmlifjfgelfbbaaDn
import Derived.Test.YtmlifjfgelfbbaaSy
import Derived.Deep.CutBlock
namespace Go.Proofs.Ytmlifjfgelfbbaa
open Go Go.RowKit

def dirtyStep (l : List Nat) (f : Fr) : List Nat := match f.pg with
  | some p => l.set p.number f.since
  | none => l
def PoS.dirtyTo (P : PoS) : Nat → List Nat
  | 0 => List.replicate 6 0
  | 1 => dirtyStep (List.replicate 6 0) P.f0
  | 2 => dirtyStep (dirtyStep (List.replicate 6 0) P.f0) P.f1
  | _ => dirtyStep (dirtyStep (dirtyStep (List.replicate 6 0) P.f0) P.f1) P.f2

set_option maxRecDepth 100000 in
set_option maxHeartbeats 8000000 in
theorem poolDirty_any (w0 w : World) (R : HP) (b : Nat) (P : PoS) (hnum : ∀ f ∈ [P.f0, P.f1, P.f2], ∀ p, f.pg = some p → p.number < 6) (h : At w0 (poB b P * R) w) :
    Calls Try.prog 19 #[.pointer (some ⟨b, 0, none⟩)] w fun e w' => ∃ g, e = .returned (.slice (some ⟨g, 0, none⟩) 6 6) ∧ At w0 (row 37 1 (.slice (some ⟨g, 0, none⟩) 6 6) 6 (nus (P.dirtyTo 3)) * (poB b P * R)) w' := by
  obtain ⟨i0, hi0, hz0, hz1, hz2⟩ := info_parts Try.info64
  go_enter Try.func19, Try.ntmps19
  go_upto_region 1 with fail
  refine wp_region_lit ?_
  refine wpList_make rfl 50 37 _ _ rfl i0 #[.int .u64 0] (.int .u64 0) 1 8 Try.underlying50 hi0 hz0 rfl hz1 rfl (by omega) hz2 .i64 .i64 6 rfl rfl (by decide) (by unfold maxLen; decide) (xs := nus (List.replicate 6 0)) rfl h ?_
  intro g w1 h0
  clear h
  go_wp2_with fail
  go_loopw [7] (fun u7 wr => ∃ (i : Nat) (l : List Nat), i ≤ 3 ∧ u7 = .int .i64 i ∧ l.length = 6 ∧ P.dirtyTo i = l ∧ At w0 (row 37 1 (.slice (some ⟨g, 0, none⟩) 6 6) 6 (nus l) * (poB b P * R)) wr) (fun u _ => 3 - (intOf u).toNat)
  case atStart => exact ⟨0, _, Nat.zero_le _, rfl, rfl, rfl, h0⟩
  case round =>
    obtain ⟨i, l, hi, rfl, hl, hd, h1⟩ := hrel
    clear h0
    have h2 := h1.cast (show _ = cel b P.cells 90 * (P.f0.hp * (P.f1.hp * P.f2.hp) * (row 37 1 (.slice (some ⟨g, 0, none⟩) 6 6) 6 (nus l) * R)) by unfold poB; ac_rfl)
    rcases show i = 0 ∨ i = 1 ∨ i = 2 ∨ i = 3 by omega with rfl | rfl | rfl | rfl
    · have c0 : wr.cell? ⟨b, 3, none⟩ = some P.f0.ptr := At.cell h2 rfl
      have c1 : wr.cell? ⟨b, 4, none⟩ = some (.int .u64 P.f0.since) := At.cell h2 rfl
      cases hp : P.f0.pg with
      | none =>
        have hpt : P.f0.ptr = .pointer none := by unfold Fr.ptr; rw [hp]
        have hz : dirtyStep l P.f0 = l := by unfold dirtyStep; rw [hp]
        rw [hpt] at c0
        go_wp2_with fail
        go_roundw
        case rel => exact ⟨0 + 1, l, by omega, by go_num, hl, by rw [show P.dirtyTo (0 + 1) = dirtyStep (P.dirtyTo 0) P.f0 from rfl, hd, hz], h1⟩
        case measure => simp [intOf] <;> omega
      | some p =>
        have hpt : P.f0.ptr = .pointer (some ⟨P.f0.blk, 0, none⟩) := by unfold Fr.ptr; rw [hp]
        have hb := fr_num (f := P.f0) (h1.cast (show _ = P.f0.hp * (row 37 1 (.slice (some ⟨g, 0, none⟩) 6 6) 6 (nus l) * (cel b P.cells 90 * (P.f1.hp * (P.f2.hp * R)))) by unfold poB; ac_rfl)) p hp
        have hz : dirtyStep l P.f0 = l.set p.number P.f0.since := by unfold dirtyStep; rw [hp]
        have h6 : p.number < 6 := hnum P.f0 (by simp) p hp
        have h6z : (p.number : Int) < 6 := by omega
        have v0 := (h1.row_cell rfl (j := p.number) (u := .int .u64 (l[p.number]'(by omega))) (by simp [nus, List.getElem?_eq_getElem (show p.number < l.length by omega)])).2
        have v1 := h1.row_fz p.number
        have v2 := h1.row_lt
        rw [hpt] at c0
        go_upto_region 7 with fail
        refine wp_region_line [0, 1, 2, 3, 4, 5, 6, 7, 8, 9, 10, 11, 12, 13] rfl (by kernel_rfl) ?_
        simp only [picks_cons, picks_nil, getD_zero, getD_succ]
        go_wp2_with fail
        refine ⟨by kernel_rfl, ?_⟩
        have h3 := (h1.row_set' p.number (.int .u64 P.f0.since) (ys := nus (l.set p.number P.f0.since)) (by simp [nus, List.map_set])).drew
        go_wp2_with fail
        go_roundw
        case rel => exact ⟨0 + 1, l.set p.number P.f0.since, by omega, by go_num, by rw [List.length_set]; exact hl, by rw [show P.dirtyTo (0 + 1) = dirtyStep (P.dirtyTo 0) P.f0 from rfl, hd, hz], h3⟩
        case measure => simp [intOf] <;> omega
    · have c0 : wr.cell? ⟨b, 6, none⟩ = some P.f1.ptr := At.cell h2 rfl
      have c1 : wr.cell? ⟨b, 7, none⟩ = some (.int .u64 P.f1.since) := At.cell h2 rfl
      cases hp : P.f1.pg with
      | none =>
        have hpt : P.f1.ptr = .pointer none := by unfold Fr.ptr; rw [hp]
        have hz : dirtyStep l P.f1 = l := by unfold dirtyStep; rw [hp]
        rw [hpt] at c0
        go_wp2_with fail
        go_roundw
        case rel => exact ⟨1 + 1, l, by omega, by go_num, hl, by rw [show P.dirtyTo (1 + 1) = dirtyStep (P.dirtyTo 1) P.f1 from rfl, hd, hz], h1⟩
        case measure => simp [intOf] <;> omega
      | some p =>
        have hpt : P.f1.ptr = .pointer (some ⟨P.f1.blk, 0, none⟩) := by unfold Fr.ptr; rw [hp]
        have hb := fr_num (f := P.f1) (h1.cast (show _ = P.f1.hp * (row 37 1 (.slice (some ⟨g, 0, none⟩) 6 6) 6 (nus l) * (cel b P.cells 90 * (P.f0.hp * (P.f2.hp * R)))) by unfold poB; ac_rfl)) p hp
        have hz : dirtyStep l P.f1 = l.set p.number P.f1.since := by unfold dirtyStep; rw [hp]
        have h6 : p.number < 6 := hnum P.f1 (by simp) p hp
        have h6z : (p.number : Int) < 6 := by omega
        have v0 := (h1.row_cell rfl (j := p.number) (u := .int .u64 (l[p.number]'(by omega))) (by simp [nus, List.getElem?_eq_getElem (show p.number < l.length by omega)])).2
        have v1 := h1.row_fz p.number
        have v2 := h1.row_lt
        rw [hpt] at c0
        go_upto_region 7 with fail
        refine wp_region_line [0, 1, 2, 3, 4, 5, 6, 7, 8, 9, 10, 11, 12, 13] rfl (by kernel_rfl) ?_
        simp only [picks_cons, picks_nil, getD_zero, getD_succ]
        go_wp2_with fail
        refine ⟨by kernel_rfl, ?_⟩
        have h3 := (h1.row_set' p.number (.int .u64 P.f1.since) (ys := nus (l.set p.number P.f1.since)) (by simp [nus, List.map_set])).drew
        go_wp2_with fail
        go_roundw
        case rel => exact ⟨1 + 1, l.set p.number P.f1.since, by omega, by go_num, by rw [List.length_set]; exact hl, by rw [show P.dirtyTo (1 + 1) = dirtyStep (P.dirtyTo 1) P.f1 from rfl, hd, hz], h3⟩
        case measure => simp [intOf] <;> omega
    · have c0 : wr.cell? ⟨b, 9, none⟩ = some P.f2.ptr := At.cell h2 rfl
      have c1 : wr.cell? ⟨b, 10, none⟩ = some (.int .u64 P.f2.since) := At.cell h2 rfl
      cases hp : P.f2.pg with
      | none =>
        have hpt : P.f2.ptr = .pointer none := by unfold Fr.ptr; rw [hp]
        have hz : dirtyStep l P.f2 = l := by unfold dirtyStep; rw [hp]
        rw [hpt] at c0
        go_wp2_with fail
        go_roundw
        case rel => exact ⟨2 + 1, l, by omega, by go_num, hl, by rw [show P.dirtyTo (2 + 1) = dirtyStep (P.dirtyTo 2) P.f2 from rfl, hd, hz], h1⟩
        case measure => simp [intOf] <;> omega
      | some p =>
        have hpt : P.f2.ptr = .pointer (some ⟨P.f2.blk, 0, none⟩) := by unfold Fr.ptr; rw [hp]
        have hb := fr_num (f := P.f2) (h1.cast (show _ = P.f2.hp * (row 37 1 (.slice (some ⟨g, 0, none⟩) 6 6) 6 (nus l) * (cel b P.cells 90 * (P.f0.hp * (P.f1.hp * R)))) by unfold poB; ac_rfl)) p hp
        have hz : dirtyStep l P.f2 = l.set p.number P.f2.since := by unfold dirtyStep; rw [hp]
        have h6 : p.number < 6 := hnum P.f2 (by simp) p hp
        have h6z : (p.number : Int) < 6 := by omega
        have v0 := (h1.row_cell rfl (j := p.number) (u := .int .u64 (l[p.number]'(by omega))) (by simp [nus, List.getElem?_eq_getElem (show p.number < l.length by omega)])).2
        have v1 := h1.row_fz p.number
        have v2 := h1.row_lt
        rw [hpt] at c0
        go_upto_region 7 with fail
        refine wp_region_line [0, 1, 2, 3, 4, 5, 6, 7, 8, 9, 10, 11, 12, 13] rfl (by kernel_rfl) ?_
        simp only [picks_cons, picks_nil, getD_zero, getD_succ]
        go_wp2_with fail
        refine ⟨by kernel_rfl, ?_⟩
        have h3 := (h1.row_set' p.number (.int .u64 P.f2.since) (ys := nus (l.set p.number P.f2.since)) (by simp [nus, List.map_set])).drew
        go_wp2_with fail
        go_roundw
        case rel => exact ⟨2 + 1, l.set p.number P.f2.since, by omega, by go_num, by rw [List.length_set]; exact hl, by rw [show P.dirtyTo (2 + 1) = dirtyStep (P.dirtyTo 2) P.f2 from rfl, hd, hz], h3⟩
        case measure => simp [intOf] <;> omega
    · go_wp2_with fail
      go_ret
      refine ⟨g, rfl, ?_⟩
      rw [hd]
      exact h1
end Go.Proofs.Ytmlifjfgelfbbaa
