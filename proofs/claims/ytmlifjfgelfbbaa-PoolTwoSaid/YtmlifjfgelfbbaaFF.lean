/-
  A pool as blocks; (*Pool).find: a contract, no statement.
  (*Pool).Clean: a contract, no statement.
  A pool's frames, each alike: its cells, the rest. Plain laws; no statement.
  (*Pool).Touch: a contract, no statement.
  pool.New: a contract, no statement.
-/
import Derived.Test.YtmlifjfgelfbbaaPk
import Derived.Test.YtmlifjfgelfbbaaBB
import Derived.Deep.CutBlock
/-! ## Fi -/
namespace Go.Proofs.Ytmlifjfgelfbbaa
open Go Go.RowKit

def Pg.cells (p : Pg) : List Value := .int .u64 p.mark :: .int .i64 p.tenant :: .int .i64 p.number :: bys p.slots
def pgB (b : Nat) (p : Pg) : HP := cel b p.cells.toArray 41
/-- A frame: where its page lies, the page, since which place it is changed, was it asked for. -/
structure Fr where
  blk : Nat
  pg : Option Pg
  since : Nat
  again : Bool
def Fr.ptr (f : Fr) : Value := match f.pg with | some _ => .pointer (some ⟨f.blk, 0, none⟩) | none => .pointer none
def Fr.hp (f : Fr) : HP := match f.pg with | some p => pgB f.blk p | none => 1
def Fr.has (f : Fr) (n : Int) : Bool := match f.pg with | some p => (p.number : Int) == n | none => false
/-- A pool. -/
structure PoS where
  d : Nat
  r : Nat
  l : Nat
  f0 : Fr
  f1 : Fr
  f2 : Fr
  hand : Nat
def PoS.cells (P : PoS) : Array Value :=
  #[.pointer (some ⟨P.d, 0, none⟩), .int .i64 P.r, .pointer (some ⟨P.l, 0, none⟩), P.f0.ptr, .int .u64 P.f0.since, .bool P.f0.again, P.f1.ptr, .int .u64 P.f1.since, .bool P.f1.again, P.f2.ptr, .int .u64 P.f2.since, .bool P.f2.again, .int .i64 P.hand]
def poB (b : Nat) (P : PoS) : HP := cel b P.cells 90 * (P.f0.hp * (P.f1.hp * P.f2.hp))
def PoS.find (P : PoS) (n : Int) : Option Nat := if P.f0.has n then some 0 else if P.f1.has n then some 1 else if P.f2.has n then some 2 else none
def frPtr (b : Nat) : Option Nat → Value
  | some i => .pointer (some ⟨b, 3 + 3 * i, none⟩)
  | none => .pointer none
/-- What a frame's cells and its page's number are in a world. -/
theorem fr_num {w0 w : World} {R : HP} {f : Fr} (h : At w0 (f.hp * R) w) : ∀ p, f.pg = some p → w.cell? ⟨f.blk, 2, none⟩ = some (.int .i64 p.number) := fun p hp => by
  unfold Fr.hp at h
  rw [hp] at h
  exact At.cell h rfl

set_option maxRecDepth 100000 in
set_option maxHeartbeats 4000000 in
theorem poolFind_any (w0 w : World) (R : HP) (b : Nat) (P : PoS) (n : Int) (h : At w0 (poB b P * R) w) :
    Calls Try.prog 33 #[.pointer (some ⟨b, 0, none⟩), .int .i64 n] w fun e w' => e = .returned (frPtr b (P.find n)) ∧ w = w' := by
  unfold poB at h
  have h1 := h.assoc
  have n0 := fr_num (h1.cast (show _ = P.f0.hp * (cel b P.cells 90 * (P.f1.hp * (P.f2.hp * R))) by ac_rfl))
  have n1 := fr_num (h1.cast (show _ = P.f1.hp * (cel b P.cells 90 * (P.f0.hp * (P.f2.hp * R))) by ac_rfl))
  have n2 := fr_num (h1.cast (show _ = P.f2.hp * (cel b P.cells 90 * (P.f0.hp * (P.f1.hp * R))) by ac_rfl))
  have c3 : w.cell? ⟨b, 3, none⟩ = some P.f0.ptr := At.cell h1 rfl
  have c6 : w.cell? ⟨b, 6, none⟩ = some P.f1.ptr := At.cell h1 rfl
  have c9 : w.cell? ⟨b, 9, none⟩ = some P.f2.ptr := At.cell h1 rfl
  obtain ⟨res, hres⟩ : ∃ res, P.find n = res := ⟨_, rfl⟩
  rw [hres]
  unfold PoS.find at hres
  have Hres := hide hres
  clear h h1 hres
  go_enter Try.func33, Try.ntmps33
  go_wp2_with fail
  go_loopw [7] (fun u7 wr => ∃ i : Nat, i ≤ 3 ∧ u7 = .int .i64 i ∧ wr = w ∧ (0 < i → P.f0.has n = false) ∧ (1 < i → P.f1.has n = false) ∧ (2 < i → P.f2.has n = false)) (fun u _ => 3 - (intOf u).toNat)
  case atStart => exact ⟨0, Nat.zero_le _, rfl, rfl, fun h => by omega, fun h => by omega, fun h => by omega⟩
  case round =>
    obtain ⟨i, hi, rfl, rfl, z0, z1, z2⟩ := hrel
    rcases show i = 0 ∨ i = 1 ∨ i = 2 ∨ i = 3 by omega with rfl | rfl | rfl | rfl
    · -- frame 0
      have c0 := c3
      cases hp : P.f0.pg with
      | none =>
        have hpt : P.f0.ptr = .pointer none := by unfold Fr.ptr; rw [hp]
        have hz : P.f0.has n = false := by unfold Fr.has; rw [hp]
        rw [hpt] at c0
        go_wp2_with fail
        go_roundw
        case rel => exact ⟨0 + 1, by omega, by go_num, trivial, (fun _ => hz), (fun h => absurd h (by omega)), (fun h => absurd h (by omega))⟩
        case measure => simp [intOf] <;> omega
      | some p =>
        have hpt : P.f0.ptr = .pointer (some ⟨P.f0.blk, 0, none⟩) := by unfold Fr.ptr; rw [hp]
        have hb := n0 p hp
        rw [hpt] at c0
        by_cases hn : (p.number : Int) = n
        · have hz : P.f0.has n = true := by unfold Fr.has; rw [hp]; simp [hn]
          go_wp2_with fail
          go_ret
          refine ⟨?_, rfl⟩
          rw [← Hres.out]
          rw [if_pos hz]; rfl
        · have hz : P.f0.has n = false := by unfold Fr.has; rw [hp]; simp [hn]
          go_wp2_with fail
          go_roundw
          case rel => exact ⟨0 + 1, by omega, by go_num, trivial, (fun _ => hz), (fun h => absurd h (by omega)), (fun h => absurd h (by omega))⟩
          case measure => simp [intOf] <;> omega
    · -- frame 1
      have c0 := c6
      cases hp : P.f1.pg with
      | none =>
        have hpt : P.f1.ptr = .pointer none := by unfold Fr.ptr; rw [hp]
        have hz : P.f1.has n = false := by unfold Fr.has; rw [hp]
        rw [hpt] at c0
        go_wp2_with fail
        go_roundw
        case rel => exact ⟨1 + 1, by omega, by go_num, trivial, (fun _ => z0 (by omega)), (fun _ => hz), (fun h => absurd h (by omega))⟩
        case measure => simp [intOf] <;> omega
      | some p =>
        have hpt : P.f1.ptr = .pointer (some ⟨P.f1.blk, 0, none⟩) := by unfold Fr.ptr; rw [hp]
        have hb := n1 p hp
        rw [hpt] at c0
        by_cases hn : (p.number : Int) = n
        · have hz : P.f1.has n = true := by unfold Fr.has; rw [hp]; simp [hn]
          go_wp2_with fail
          go_ret
          refine ⟨?_, rfl⟩
          rw [← Hres.out]
          rw [if_neg (by rw [z0 (by omega)]; simp), if_pos hz]; rfl
        · have hz : P.f1.has n = false := by unfold Fr.has; rw [hp]; simp [hn]
          go_wp2_with fail
          go_roundw
          case rel => exact ⟨1 + 1, by omega, by go_num, trivial, (fun _ => z0 (by omega)), (fun _ => hz), (fun h => absurd h (by omega))⟩
          case measure => simp [intOf] <;> omega
    · -- frame 2
      have c0 := c9
      cases hp : P.f2.pg with
      | none =>
        have hpt : P.f2.ptr = .pointer none := by unfold Fr.ptr; rw [hp]
        have hz : P.f2.has n = false := by unfold Fr.has; rw [hp]
        rw [hpt] at c0
        go_wp2_with fail
        go_roundw
        case rel => exact ⟨2 + 1, by omega, by go_num, trivial, (fun _ => z0 (by omega)), (fun _ => z1 (by omega)), (fun _ => hz)⟩
        case measure => simp [intOf] <;> omega
      | some p =>
        have hpt : P.f2.ptr = .pointer (some ⟨P.f2.blk, 0, none⟩) := by unfold Fr.ptr; rw [hp]
        have hb := n2 p hp
        rw [hpt] at c0
        by_cases hn : (p.number : Int) = n
        · have hz : P.f2.has n = true := by unfold Fr.has; rw [hp]; simp [hn]
          go_wp2_with fail
          go_ret
          refine ⟨?_, rfl⟩
          rw [← Hres.out]
          rw [if_neg (by rw [z0 (by omega)]; simp), if_neg (by rw [z1 (by omega)]; simp), if_pos hz]; rfl
        · have hz : P.f2.has n = false := by unfold Fr.has; rw [hp]; simp [hn]
          go_wp2_with fail
          go_roundw
          case rel => exact ⟨2 + 1, by omega, by go_num, trivial, (fun _ => z0 (by omega)), (fun _ => z1 (by omega)), (fun _ => hz)⟩
          case measure => simp [intOf] <;> omega
    · go_wp2_with fail
      go_ret
      refine ⟨?_, rfl⟩
      rw [← Hres.out, if_neg (by rw [z0 (by omega)]; simp), if_neg (by rw [z1 (by omega)]; simp), if_neg (by rw [z2 (by omega)]; simp)]
      rfl
end Go.Proofs.Ytmlifjfgelfbbaa

/-! ## Fc -/
namespace Go.Proofs.Ytmlifjfgelfbbaa
open Go Go.RowKit

def PoS.fr (P : PoS) : Nat → Fr
  | 0 => P.f0
  | 1 => P.f1
  | _ => P.f2
theorem PoS.find_cases (P : PoS) (n : Int) : (P.find n = none) ∨ (P.find n = some 0 ∧ P.f0.has n = true) ∨ (P.find n = some 1 ∧ P.f1.has n = true) ∨ (P.find n = some 2 ∧ P.f2.has n = true) := by
  unfold PoS.find
  by_cases h0 : P.f0.has n = true
  · rw [if_pos h0]
    exact .inr (.inl ⟨rfl, h0⟩)
  · rw [if_neg h0]
    by_cases h1 : P.f1.has n = true
    · rw [if_pos h1]
      exact .inr (.inr (.inl ⟨rfl, h1⟩))
    · rw [if_neg h1]
      by_cases h2 : P.f2.has n = true
      · rw [if_pos h2]
        exact .inr (.inr (.inr ⟨rfl, h2⟩))
      · rw [if_neg h2]
        exact .inl rfl
def PoS.clean (P : PoS) (n : Int) : Bool := match P.find n with
  | some i => (P.fr i).since == 0
  | none => true

set_option maxRecDepth 100000 in
set_option maxHeartbeats 4000000 in
theorem poolClean_any (w0 w : World) (R : HP) (b : Nat) (P : PoS) (n : Int) (h : At w0 (poB b P * R) w) :
    Calls Try.prog 16 #[.pointer (some ⟨b, 0, none⟩), .int .i64 n] w fun e w' => e = .returned (.bool (P.clean n)) ∧ w = w' := by
  have hf := poolFind_any w0 w R b P n h
  unfold poB at h
  have h1 := h.assoc
  have c4 : w.cell? ⟨b, 4, none⟩ = some (.int .u64 P.f0.since) := At.cell h1 rfl
  have c7 : w.cell? ⟨b, 7, none⟩ = some (.int .u64 P.f1.since) := At.cell h1 rfl
  have c10 : w.cell? ⟨b, 10, none⟩ = some (.int .u64 P.f2.since) := At.cell h1 rfl
  unfold PoS.clean
  clear h h1
  go_enter Try.func16, Try.ntmps16
  rcases P.find_cases n with hn | ⟨hn, _⟩ | ⟨hn, _⟩ | ⟨hn, _⟩
  · rw [hn] at hf ⊢
    simp only [frPtr] at hf
    go_wp2_with fail
    refine hf.mono ?_
    rintro e w' ⟨rfl, rfl⟩
    go_wp2_with fail
    go_ret
    exact ⟨rfl, rfl⟩
  · rw [hn] at hf ⊢
    simp only [frPtr] at hf
    by_cases hs : P.f0.since = 0
    · have hsz : (P.f0.since : Int) = 0 := by omega
      go_wp2_with fail
      refine hf.mono ?_
      rintro e w' ⟨rfl, rfl⟩
      go_wp2_with fail
      go_ret
      exact ⟨by simp [PoS.fr, hs], rfl⟩
    · have hsz : ¬ (P.f0.since : Int) = 0 := by omega
      go_wp2_with fail
      refine hf.mono ?_
      rintro e w' ⟨rfl, rfl⟩
      go_wp2_with fail
      go_ret
      exact ⟨by show Ending.returned (Value.bool ((P.f0.since : Int) == 0)) = .returned (.bool (P.f0.since == 0)); rw [beq_eq_false_iff_ne.2 hsz, beq_eq_false_iff_ne.2 hs], rfl⟩
  · rw [hn] at hf ⊢
    simp only [frPtr] at hf
    by_cases hs : P.f1.since = 0
    · have hsz : (P.f1.since : Int) = 0 := by omega
      go_wp2_with fail
      refine hf.mono ?_
      rintro e w' ⟨rfl, rfl⟩
      go_wp2_with fail
      go_ret
      exact ⟨by simp [PoS.fr, hs], rfl⟩
    · have hsz : ¬ (P.f1.since : Int) = 0 := by omega
      go_wp2_with fail
      refine hf.mono ?_
      rintro e w' ⟨rfl, rfl⟩
      go_wp2_with fail
      go_ret
      exact ⟨by show Ending.returned (Value.bool ((P.f1.since : Int) == 0)) = .returned (.bool (P.f1.since == 0)); rw [beq_eq_false_iff_ne.2 hsz, beq_eq_false_iff_ne.2 hs], rfl⟩
  · rw [hn] at hf ⊢
    simp only [frPtr] at hf
    by_cases hs : P.f2.since = 0
    · have hsz : (P.f2.since : Int) = 0 := by omega
      go_wp2_with fail
      refine hf.mono ?_
      rintro e w' ⟨rfl, rfl⟩
      go_wp2_with fail
      go_ret
      exact ⟨by simp [PoS.fr, hs], rfl⟩
    · have hsz : ¬ (P.f2.since : Int) = 0 := by omega
      go_wp2_with fail
      refine hf.mono ?_
      rintro e w' ⟨rfl, rfl⟩
      go_wp2_with fail
      go_ret
      exact ⟨by show Ending.returned (Value.bool ((P.f2.since : Int) == 0)) = .returned (.bool (P.f2.since == 0)); rw [beq_eq_false_iff_ne.2 hsz, beq_eq_false_iff_ne.2 hs], rfl⟩
end Go.Proofs.Ytmlifjfgelfbbaa

/-! ## Pf -/
namespace Go.Proofs.Ytmlifjfgelfbbaa
open Go Go.RowKit

def PoS.setFr (P : PoS) (i : Nat) (f : Fr) : PoS := match i with
  | 0 => { P with f0 := f }
  | 1 => { P with f1 := f }
  | _ => { P with f2 := f }
def PoS.oth (P : PoS) : Nat → HP
  | 0 => P.f1.hp * P.f2.hp
  | 1 => P.f0.hp * P.f2.hp
  | _ => P.f0.hp * P.f1.hp
theorem three {i : Nat} (h : i < 3) : i = 0 ∨ i = 1 ∨ i = 2 := by omega
theorem poB_fr (b : Nat) (P : PoS) {i : Nat} (hi : i < 3) : poB b P = cel b P.cells 90 * ((P.fr i).hp * P.oth i) := by
  unfold poB
  rcases three hi with rfl | rfl | rfl <;> simp only [PoS.fr, PoS.oth] <;> ac_rfl
theorem PoS.cells_fr (P : PoS) {i : Nat} (hi : i < 3) : P.cells[3 + 3 * i]? = some (P.fr i).ptr ∧ P.cells[3 + 3 * i + 1]? = some (.int .u64 (P.fr i).since) ∧ P.cells[3 + 3 * i + 2]? = some (.bool (P.fr i).again) := by
  rcases three hi with rfl | rfl | rfl <;> exact ⟨rfl, rfl, rfl⟩
theorem PoS.cells_set (P : PoS) {i : Nat} (hi : i < 3) (f : Fr) : (P.setFr i f).cells = ((P.cells.setIfInBounds (3 + 3 * i) f.ptr).setIfInBounds (3 + 3 * i + 1) (.int .u64 f.since)).setIfInBounds (3 + 3 * i + 2) (.bool f.again) := by
  rcases three hi with rfl | rfl | rfl <;> rfl
theorem PoS.cells_since (P : PoS) {i : Nat} (hi : i < 3) (s : Nat) : (P.setFr i { P.fr i with since := s }).cells = P.cells.setIfInBounds (3 + 3 * i + 1) (.int .u64 s) := by
  rcases three hi with rfl | rfl | rfl <;> rfl
theorem PoS.cells_again (P : PoS) {i : Nat} (hi : i < 3) (s : Bool) : (P.setFr i { P.fr i with again := s }).cells = P.cells.setIfInBounds (3 + 3 * i + 2) (.bool s) := by
  rcases three hi with rfl | rfl | rfl <;> rfl
theorem PoS.oth_set (P : PoS) {i : Nat} (hi : i < 3) (f : Fr) : (P.setFr i f).oth i = P.oth i := by
  rcases three hi with rfl | rfl | rfl <;> rfl
theorem PoS.fr_set (P : PoS) {i : Nat} (hi : i < 3) (f : Fr) : (P.setFr i f).fr i = f := by
  rcases three hi with rfl | rfl | rfl <;> rfl
theorem PoS.fr_ne (P : PoS) {i j : Nat} (hi : i < 3) (hj : j < 3) (hij : j ≠ i) (f : Fr) : (P.setFr i f).fr j = P.fr j := by
  rcases three hi with rfl | rfl | rfl <;> rcases three hj with rfl | rfl | rfl <;> first | rfl | exact absurd rfl hij
theorem PoS.set_base (P : PoS) (i : Nat) (f : Fr) : (P.setFr i f).d = P.d ∧ (P.setFr i f).r = P.r ∧ (P.setFr i f).l = P.l ∧ (P.setFr i f).hand = P.hand := by
  unfold PoS.setFr
  split <;> exact ⟨rfl, rfl, rfl, rfl⟩
theorem PoS.cells_base (P : PoS) : P.cells[0]? = some (.pointer (some ⟨P.d, 0, none⟩)) ∧ P.cells[1]? = some (.int .i64 P.r) ∧ P.cells[2]? = some (.pointer (some ⟨P.l, 0, none⟩)) ∧ P.cells[12]? = some (.int .i64 P.hand) := ⟨rfl, rfl, rfl, rfl⟩
theorem PoS.find_some {P : PoS} {n : Int} {i : Nat} (h : P.find n = some i) : i < 3 ∧ (P.fr i).has n = true := by
  rcases P.find_cases n with h0 | ⟨h0, h1⟩ | ⟨h0, h1⟩ | ⟨h0, h1⟩ <;> rw [h0] at h <;> cases h
  · exact ⟨by decide, h1⟩
  · exact ⟨by decide, h1⟩
  · exact ⟨by decide, h1⟩
theorem Fr.has_pg {f : Fr} {n : Int} (h : f.has n = true) : ∃ p, f.pg = some p ∧ (p.number : Int) = n ∧ f.ptr = .pointer (some ⟨f.blk, 0, none⟩) ∧ f.hp = pgB f.blk p := by
  unfold Fr.has at h
  cases hq : f.pg with
  | none => rw [hq] at h; cases h
  | some p =>
    rw [hq] at h
    refine ⟨p, rfl, by simpa using h, ?_, ?_⟩
    · unfold Fr.ptr; rw [hq]
    · unfold Fr.hp; rw [hq]
theorem PoS.find_none {P : PoS} {n : Int} (h : P.find n = none) {i : Nat} (hi : i < 3) : (P.fr i).has n = false := by
  unfold PoS.find at h
  split at h
  · cases h
  · split at h
    · cases h
    · split at h
      · cases h
      · rename_i h0 h1 h2
        rcases three hi with rfl | rfl | rfl
        · exact Bool.eq_false_iff.2 h0
        · exact Bool.eq_false_iff.2 h1
        · exact Bool.eq_false_iff.2 h2
theorem frPtr_eq (b i : Nat) : frPtr b (some i) = .pointer (some ⟨b, 3 + 3 * i, none⟩) := rfl
/-- A frame of a pool is turned. -/
theorem At.fr_turn {w0 w : World} {R : HP} {b : Nat} {P : PoS} {i : Nat} (hi : i < 3) {f : Fr} {C : Array Value} (hC : (P.setFr i f).cells = C) (h : At w0 (cel b C 90 * (f.hp * (P.oth i * R))) w) : At w0 (poB b (P.setFr i f) * R) w := by
  rw [poB_fr b _ hi, P.fr_set hi, P.oth_set hi, hC]
  exact h.cast (by ac_rfl)
end Go.Proofs.Ytmlifjfgelfbbaa

/-! ## Ft -/
namespace Go.Proofs.Ytmlifjfgelfbbaa
open Go Go.RowKit

def Fr.touch (f : Fr) (pl : Nat) : Fr := { f with pg := f.pg.map (fun p => { p with mark := pl }), since := if f.since = 0 then pl else f.since }
def PoS.touch (P : PoS) (n : Int) (pl : Nat) : PoS := match P.find n with
  | some 0 => { P with f0 := P.f0.touch pl }
  | some 1 => { P with f1 := P.f1.touch pl }
  | some _ => { P with f2 := P.f2.touch pl }
  | none => P

set_option maxRecDepth 100000 in
set_option maxHeartbeats 4000000 in
theorem poolTouch_any (w0 w : World) (R : HP) (b : Nat) (P : PoS) (n : Int) (pl : Nat) (h : At w0 (poB b P * R) w) :
    Calls Try.prog 15 #[.pointer (some ⟨b, 0, none⟩), .int .i64 n, .int .u64 pl] w fun e w' => e = .returned (.tuple #[]) ∧ At w0 (poB b (P.touch n pl) * R) w' := by
  have hf := poolFind_any w0 w R b P n h
  have h0 := h
  unfold poB at h
  have h1 := h.assoc.cast (show _ = cel b P.cells 90 * (P.f0.hp * (P.f1.hp * (P.f2.hp * R))) by ac_rfl)
  unfold PoS.touch
  clear h
  go_enter Try.func15, Try.ntmps15
  rcases P.find_cases n with hn | ⟨hn, hh⟩ | ⟨hn, hh⟩ | ⟨hn, hh⟩
  · rw [hn] at hf ⊢
    simp only [frPtr] at hf
    go_wp2_with fail
    refine hf.mono ?_
    rintro e w' ⟨rfl, rfl⟩
    go_wp2_with fail
    first | (refine bodyPost_ret (results_none rfl _ _ _) rfl ?_) | (refine bodyPost_end (results_none rfl _ _ _) rfl ?_)
    exact ⟨rfl, h0⟩
  · rw [hn] at hf ⊢
    simp only [frPtr] at hf
    obtain ⟨p, hp⟩ : ∃ p, P.f0.pg = some p := by
      unfold Fr.has at hh
      cases hq : P.f0.pg with
      | none => rw [hq] at hh; cases hh
      | some p => exact ⟨p, rfl⟩
    have hpt : P.f0.ptr = .pointer (some ⟨P.f0.blk, 0, none⟩) := by unfold Fr.ptr; rw [hp]
    have hhp : P.f0.hp = pgB P.f0.blk p := by unfold Fr.hp; rw [hp]
    have c0 : w.cell? ⟨b, 3, none⟩ = some P.f0.ptr := At.cell h1 rfl
    rw [hpt] at c0
    have h2 := h1.cast (show _ = cel P.f0.blk p.cells.toArray 41 * (cel b P.cells 90 * (P.f1.hp * (P.f2.hp * R))) by rw [hhp]; unfold pgB; ac_rfl)
    have m0 := At.cell (i := 0) h2 rfl
    have m1 := At.frz h2 0
    have m2 := At.lt h2
    have h3 := h2.set' (d := ({ p with mark := pl } : Pg).cells.toArray) 0 (.int .u64 pl) rfl
    have s0 := At.cell (i := 4) h3.pull2 rfl
    have s1 := At.frz h3.pull2 4
    have s2 := At.lt h3.pull2
    change World.cell? _ _ = some (.int .u64 P.f0.since) at s0
    have hfr : ∀ s, (s = if P.f0.since = 0 then pl else P.f0.since) → cel P.f0.blk ({ p with mark := pl } : Pg).cells.toArray 41 * (cel b #[.pointer (some ⟨P.d, 0, none⟩), .int .i64 P.r, .pointer (some ⟨P.l, 0, none⟩), P.f0.ptr, .int .u64 s, .bool P.f0.again, P.f1.ptr, .int .u64 P.f1.since, .bool P.f1.again, P.f2.ptr, .int .u64 P.f2.since, .bool P.f2.again, .int .i64 P.hand] 90 * (P.f1.hp * (P.f2.hp * R))) = poB b { P with f0 := P.f0.touch pl } * R := fun s hs => by
      have e1 : (P.f0.touch pl).hp = pgB P.f0.blk { p with mark := pl } := by unfold Fr.touch Fr.hp; simp only [hp, Option.map_some]
      have e2 : (P.f0.touch pl).ptr = P.f0.ptr := by unfold Fr.touch Fr.ptr; simp only [hp, Option.map_some]
      have e3 : ({ P with f0 := P.f0.touch pl } : PoS).cells = #[.pointer (some ⟨P.d, 0, none⟩), .int .i64 P.r, .pointer (some ⟨P.l, 0, none⟩), P.f0.ptr, .int .u64 s, .bool P.f0.again, P.f1.ptr, .int .u64 P.f1.since, .bool P.f1.again, P.f2.ptr, .int .u64 P.f2.since, .bool P.f2.again, .int .i64 P.hand] := by
        unfold PoS.cells
        rw [hs]
        simp only [e2]
        rfl
      unfold poB
      rw [e3]
      simp only [e1]
      unfold pgB
      ac_rfl
    go_wp2_with fail
    refine hf.mono ?_
    rintro e w' ⟨rfl, rfl⟩
    go_upto_region 3 with fail
    generalize hw3 : w.setCell _ _ = w3 at h3 s0 s1 s2 ⊢
    clear hw3 c0 m0 m1 m2 h2 h1 hf
    by_cases hs : P.f0.since = 0
    · have hsz : (P.f0.since : Int) = 0 := by omega
      have h4 := h3.pull2.set' (d := #[.pointer (some ⟨P.d, 0, none⟩), .int .i64 P.r, .pointer (some ⟨P.l, 0, none⟩), P.f0.ptr, .int .u64 pl, .bool P.f0.again, P.f1.ptr, .int .u64 P.f1.since, .bool P.f1.again, P.f2.ptr, .int .u64 P.f2.since, .bool P.f2.again, .int .i64 P.hand]) 4 (.int .u64 pl) rfl
      go_wp2_with fail
      first | (refine bodyPost_ret (results_none rfl _ _ _) rfl ?_) | (refine bodyPost_end (results_none rfl _ _ _) rfl ?_)
      exact ⟨rfl, h4.pull2.cast (hfr pl (by rw [if_pos hs]))⟩
    · have hsz : ¬ (P.f0.since : Int) = 0 := by omega
      go_wp2_with fail
      first | (refine bodyPost_ret (results_none rfl _ _ _) rfl ?_) | (refine bodyPost_end (results_none rfl _ _ _) rfl ?_)
      exact ⟨rfl, h3.cast (hfr P.f0.since (by rw [if_neg hs]))⟩
  · rw [hn] at hf ⊢
    simp only [frPtr] at hf
    obtain ⟨p, hp⟩ : ∃ p, P.f1.pg = some p := by
      unfold Fr.has at hh
      cases hq : P.f1.pg with
      | none => rw [hq] at hh; cases hh
      | some p => exact ⟨p, rfl⟩
    have hpt : P.f1.ptr = .pointer (some ⟨P.f1.blk, 0, none⟩) := by unfold Fr.ptr; rw [hp]
    have hhp : P.f1.hp = pgB P.f1.blk p := by unfold Fr.hp; rw [hp]
    have c0 : w.cell? ⟨b, 6, none⟩ = some P.f1.ptr := At.cell h1 rfl
    rw [hpt] at c0
    have h2 := h1.cast (show _ = cel P.f1.blk p.cells.toArray 41 * (cel b P.cells 90 * (P.f0.hp * (P.f2.hp * R))) by rw [hhp]; unfold pgB; ac_rfl)
    have m0 := At.cell (i := 0) h2 rfl
    have m1 := At.frz h2 0
    have m2 := At.lt h2
    have h3 := h2.set' (d := ({ p with mark := pl } : Pg).cells.toArray) 0 (.int .u64 pl) rfl
    have s0 := At.cell (i := 7) h3.pull2 rfl
    have s1 := At.frz h3.pull2 7
    have s2 := At.lt h3.pull2
    change World.cell? _ _ = some (.int .u64 P.f1.since) at s0
    have hfr : ∀ s, (s = if P.f1.since = 0 then pl else P.f1.since) → cel P.f1.blk ({ p with mark := pl } : Pg).cells.toArray 41 * (cel b #[.pointer (some ⟨P.d, 0, none⟩), .int .i64 P.r, .pointer (some ⟨P.l, 0, none⟩), P.f0.ptr, .int .u64 P.f0.since, .bool P.f0.again, P.f1.ptr, .int .u64 s, .bool P.f1.again, P.f2.ptr, .int .u64 P.f2.since, .bool P.f2.again, .int .i64 P.hand] 90 * (P.f0.hp * (P.f2.hp * R))) = poB b { P with f1 := P.f1.touch pl } * R := fun s hs => by
      have e1 : (P.f1.touch pl).hp = pgB P.f1.blk { p with mark := pl } := by unfold Fr.touch Fr.hp; simp only [hp, Option.map_some]
      have e2 : (P.f1.touch pl).ptr = P.f1.ptr := by unfold Fr.touch Fr.ptr; simp only [hp, Option.map_some]
      have e3 : ({ P with f1 := P.f1.touch pl } : PoS).cells = #[.pointer (some ⟨P.d, 0, none⟩), .int .i64 P.r, .pointer (some ⟨P.l, 0, none⟩), P.f0.ptr, .int .u64 P.f0.since, .bool P.f0.again, P.f1.ptr, .int .u64 s, .bool P.f1.again, P.f2.ptr, .int .u64 P.f2.since, .bool P.f2.again, .int .i64 P.hand] := by
        unfold PoS.cells
        rw [hs]
        simp only [e2]
        rfl
      unfold poB
      rw [e3]
      simp only [e1]
      unfold pgB
      ac_rfl
    go_wp2_with fail
    refine hf.mono ?_
    rintro e w' ⟨rfl, rfl⟩
    go_upto_region 3 with fail
    generalize hw3 : w.setCell _ _ = w3 at h3 s0 s1 s2 ⊢
    clear hw3 c0 m0 m1 m2 h2 h1 hf
    by_cases hs : P.f1.since = 0
    · have hsz : (P.f1.since : Int) = 0 := by omega
      have h4 := h3.pull2.set' (d := #[.pointer (some ⟨P.d, 0, none⟩), .int .i64 P.r, .pointer (some ⟨P.l, 0, none⟩), P.f0.ptr, .int .u64 P.f0.since, .bool P.f0.again, P.f1.ptr, .int .u64 pl, .bool P.f1.again, P.f2.ptr, .int .u64 P.f2.since, .bool P.f2.again, .int .i64 P.hand]) 7 (.int .u64 pl) rfl
      go_wp2_with fail
      first | (refine bodyPost_ret (results_none rfl _ _ _) rfl ?_) | (refine bodyPost_end (results_none rfl _ _ _) rfl ?_)
      exact ⟨rfl, h4.pull2.cast (hfr pl (by rw [if_pos hs]))⟩
    · have hsz : ¬ (P.f1.since : Int) = 0 := by omega
      go_wp2_with fail
      first | (refine bodyPost_ret (results_none rfl _ _ _) rfl ?_) | (refine bodyPost_end (results_none rfl _ _ _) rfl ?_)
      exact ⟨rfl, h3.cast (hfr P.f1.since (by rw [if_neg hs]))⟩
  · rw [hn] at hf ⊢
    simp only [frPtr] at hf
    obtain ⟨p, hp⟩ : ∃ p, P.f2.pg = some p := by
      unfold Fr.has at hh
      cases hq : P.f2.pg with
      | none => rw [hq] at hh; cases hh
      | some p => exact ⟨p, rfl⟩
    have hpt : P.f2.ptr = .pointer (some ⟨P.f2.blk, 0, none⟩) := by unfold Fr.ptr; rw [hp]
    have hhp : P.f2.hp = pgB P.f2.blk p := by unfold Fr.hp; rw [hp]
    have c0 : w.cell? ⟨b, 9, none⟩ = some P.f2.ptr := At.cell h1 rfl
    rw [hpt] at c0
    have h2 := h1.cast (show _ = cel P.f2.blk p.cells.toArray 41 * (cel b P.cells 90 * (P.f0.hp * (P.f1.hp * R))) by rw [hhp]; unfold pgB; ac_rfl)
    have m0 := At.cell (i := 0) h2 rfl
    have m1 := At.frz h2 0
    have m2 := At.lt h2
    have h3 := h2.set' (d := ({ p with mark := pl } : Pg).cells.toArray) 0 (.int .u64 pl) rfl
    have s0 := At.cell (i := 10) h3.pull2 rfl
    have s1 := At.frz h3.pull2 10
    have s2 := At.lt h3.pull2
    change World.cell? _ _ = some (.int .u64 P.f2.since) at s0
    have hfr : ∀ s, (s = if P.f2.since = 0 then pl else P.f2.since) → cel P.f2.blk ({ p with mark := pl } : Pg).cells.toArray 41 * (cel b #[.pointer (some ⟨P.d, 0, none⟩), .int .i64 P.r, .pointer (some ⟨P.l, 0, none⟩), P.f0.ptr, .int .u64 P.f0.since, .bool P.f0.again, P.f1.ptr, .int .u64 P.f1.since, .bool P.f1.again, P.f2.ptr, .int .u64 s, .bool P.f2.again, .int .i64 P.hand] 90 * (P.f0.hp * (P.f1.hp * R))) = poB b { P with f2 := P.f2.touch pl } * R := fun s hs => by
      have e1 : (P.f2.touch pl).hp = pgB P.f2.blk { p with mark := pl } := by unfold Fr.touch Fr.hp; simp only [hp, Option.map_some]
      have e2 : (P.f2.touch pl).ptr = P.f2.ptr := by unfold Fr.touch Fr.ptr; simp only [hp, Option.map_some]
      have e3 : ({ P with f2 := P.f2.touch pl } : PoS).cells = #[.pointer (some ⟨P.d, 0, none⟩), .int .i64 P.r, .pointer (some ⟨P.l, 0, none⟩), P.f0.ptr, .int .u64 P.f0.since, .bool P.f0.again, P.f1.ptr, .int .u64 P.f1.since, .bool P.f1.again, P.f2.ptr, .int .u64 s, .bool P.f2.again, .int .i64 P.hand] := by
        unfold PoS.cells
        rw [hs]
        simp only [e2]
        rfl
      unfold poB
      rw [e3]
      simp only [e1]
      unfold pgB
      ac_rfl
    go_wp2_with fail
    refine hf.mono ?_
    rintro e w' ⟨rfl, rfl⟩
    go_upto_region 3 with fail
    generalize hw3 : w.setCell _ _ = w3 at h3 s0 s1 s2 ⊢
    clear hw3 c0 m0 m1 m2 h2 h1 hf
    by_cases hs : P.f2.since = 0
    · have hsz : (P.f2.since : Int) = 0 := by omega
      have h4 := h3.pull2.set' (d := #[.pointer (some ⟨P.d, 0, none⟩), .int .i64 P.r, .pointer (some ⟨P.l, 0, none⟩), P.f0.ptr, .int .u64 P.f0.since, .bool P.f0.again, P.f1.ptr, .int .u64 P.f1.since, .bool P.f1.again, P.f2.ptr, .int .u64 pl, .bool P.f2.again, .int .i64 P.hand]) 10 (.int .u64 pl) rfl
      go_wp2_with fail
      first | (refine bodyPost_ret (results_none rfl _ _ _) rfl ?_) | (refine bodyPost_end (results_none rfl _ _ _) rfl ?_)
      exact ⟨rfl, h4.pull2.cast (hfr pl (by rw [if_pos hs]))⟩
    · have hsz : ¬ (P.f2.since : Int) = 0 := by omega
      go_wp2_with fail
      first | (refine bodyPost_ret (results_none rfl _ _ _) rfl ?_) | (refine bodyPost_end (results_none rfl _ _ _) rfl ?_)
      exact ⟨rfl, h3.cast (hfr P.f2.since (by rw [if_neg hs]))⟩
end Go.Proofs.Ytmlifjfgelfbbaa

/-! ## Fn -/
namespace Go.Proofs.Ytmlifjfgelfbbaa
open Go Go.RowKit

def Fr.none' : Fr := ⟨0, none, 0, false⟩
def PoS.new (d r l : Nat) : PoS := ⟨d, r, l, Fr.none', Fr.none', Fr.none', 0⟩
theorem Try.buildPool (d r l : Nat) (w : World) : (Instr.build 90 #[(0, .pointer (some ⟨d, 0, none⟩)), (1, .int .i64 r), (2, .pointer (some ⟨l, 0, none⟩))]).run Try.prog w = .ok (.agg (PoS.new d r l).cells) w := by kernel_rfl
set_option maxRecDepth 100000 in
set_option maxHeartbeats 4000000 in
theorem poolNew_any (w0 w : World) (A : HP) (d r l : Nat) (h : At w0 A w) :
    Calls Try.prog 11 #[.pointer (some ⟨d, 0, none⟩), .int .i64 r, .pointer (some ⟨l, 0, none⟩)] w fun e w' => ∃ b, e = .returned (.pointer (some ⟨b, 0, none⟩)) ∧ At w0 (poB b (PoS.new d r l) * A) w' := by
  obtain ⟨B, hB⟩ : ∃ N, w.heap.size = N := ⟨_, rfl⟩
  have h1 := h.alloc' hB (.cells (PoS.new d r l).cells 90)
  have hb := Try.buildPool d r l w
  have h2 : At w0 (poB B (PoS.new d r l) * A) (w.alloc (.cells (PoS.new d r l).cells 90)) := h1.cast (by
    unfold poB
    show _ = cel B _ _ * (1 * (1 * 1)) * A
    rw [HP.one_mul, HP.one_mul, HP.mul_one]
    rfl)
  clear h h1
  go_enter Try.func11, Try.ntmps11
  go_wp2_with fail
  go_ret
  refine ⟨B, ?_, ?_⟩
  · rw [← hB]; first | rfl | simp
  · exact h2
end Go.Proofs.Ytmlifjfgelfbbaa
