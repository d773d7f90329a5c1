/-
  The iterator over a table, and the two functions that range over it: contracts, no statement.
-/
import Derived.RangeFuncBound
import Derived.Shelf.Abstract
import Derived.Shelf.RegionOpen
import Derived.OwnWalkIn
import Derived.TacticsInMore
import Derived.LoopNIn
import Derived.LoopIn
import Derived.Test.YtmkcbadcmkhceaaTb
import Derived.Test.YtmkcbadcmkhceaaRf
namespace Go.Proofs.Ytmkcbadcmkhceaa
open Go Go.RowKit Go.Shelf
attribute [local go_sem] Oper.semAt_some

def one (i : Nat) : Option Nat → List (Nat × Nat)
  | none => []
  | some b => [(i, b)]
/-- Which are open, below a number. -/
def opensTo (p : Nat → Option Nat) : Nat → List (Nat × Nat)
  | 0 => []
  | 1 => []
  | 2 => one 1 (p 1)
  | 3 => one 1 (p 1) ++ one 2 (p 2)
  | _ => one 1 (p 1) ++ one 2 (p 2) ++ one 3 (p 3)
def opens (p : Nat → Option Nat) : List (Nat × Nat) := opensTo p 4
def enc2 (x : Nat × Nat) : Array Value := #[.int .i64 x.1, ptr (some x.2)]

theorem opens_one {p : Nat → Option Nat} {b1 : Nat} (h : p 1 = some b1) : opensTo p 2 = opensTo p 1 ++ [(1, b1)] := by simp [opensTo, one, h]
theorem opens_two {p : Nat → Option Nat} {b1 : Nat} (h : p 2 = some b1) : opensTo p 3 = opensTo p 2 ++ [(2, b1)] := by simp [opensTo, one, h]
theorem opens_three {p : Nat → Option Nat} {b1 : Nat} (h : p 3 = some b1) : opensTo p 4 = opensTo p 3 ++ [(3, b1)] := by simp [opensTo, one, h]
theorem opens_no1 {p : Nat → Option Nat} (h : p 1 = none) : opensTo p 2 = opensTo p 1 := by simp [opensTo, one, h]
theorem opens_no2 {p : Nat → Option Nat} (h : p 2 = none) : opensTo p 3 = opensTo p 2 := by simp [opensTo, one, h]
theorem opens_no3 {p : Nat → Option Nat} (h : p 3 = none) : opensTo p 4 = opensTo p 3 := by simp [opensTo, one, h]
theorem opens_pre1 {p : Nat → Option Nat} : opensTo p 2 <+: opens p := ⟨one 2 (p 2) ++ one 3 (p 3), by simp [opens, opensTo]⟩
theorem opens_pre2 {p : Nat → Option Nat} : opensTo p 3 <+: opens p := ⟨one 3 (p 3), by simp [opens, opensTo]⟩

set_option maxHeartbeats 2000000 in
theorem all_seq (w0 : World) (b : Nat) (p : Nat → Option Nat) :
    SeqAt Try.prog 25 #[.pointer (some ⟨b, 0, none⟩)] #[] enc2 w0 (tbl b p) (opens p) := by
  intro n l J Jr B W hT h0 hY
  obtain ⟨C, hT⟩ := hT
  have hc0 := At.cell (i := 0) (v := .pointer none) hT rfl
  have hc1 := At.cell (i := 1) (v := ptr (p 1)) hT rfl
  have hc2 := At.cell (i := 2) (v := ptr (p 2)) hT rfl
  have hc3 := At.cell (i := 3) (v := ptr (p 3)) hT rfl
  have i0 : ∀ w, (Instr.index 25 (.agg #[.pointer none, ptr (p 1), ptr (p 2), ptr (p 3)]) (.int .i64 0)).run Try.prog w = .ok (.pointer none) w := fun _ => by kernel_rfl
  have i1 : ∀ w, (Instr.index 25 (.agg #[.pointer none, ptr (p 1), ptr (p 2), ptr (p 3)]) (.int .i64 1)).run Try.prog w = .ok (ptr (p 1)) w := fun _ => by kernel_rfl
  have i2 : ∀ w, (Instr.index 25 (.agg #[.pointer none, ptr (p 1), ptr (p 2), ptr (p 3)]) (.int .i64 2)).run Try.prog w = .ok (ptr (p 2)) w := fun _ => by kernel_rfl
  have i3 : ∀ w, (Instr.index 25 (.agg #[.pointer none, ptr (p 1), ptr (p 2), ptr (p 3)]) (.int .i64 3)).run Try.prog w = .ok (ptr (p 3)) w := fun _ => by kernel_rfl
  clear hT
  refine callsIn_of_wp Try.func25 rfl trivial ?_ rfl
  simp only [Try.ntmps25, List.size_toArray, List.length_cons, List.length_nil, Nat.reduceAdd, Nat.reduceSub, Array.replicate_succ, Array.replicate_zero, List.push_toArray, List.append_toArray, List.nil_append, List.cons_append]
  gi_wp2
  gi_loopw [10] (fun i wr => ∃ k : Nat, k ≤ 4 ∧ i = .int .i64 k ∧ At w0 (J (opensTo p k) * B) wr)
    (fun i _ => 4 - (intOf i).toNat)
  case atStart => exact ⟨0, Nat.zero_le _, rfl, h0⟩
  case round =>
    obtain ⟨k, hk, rfl, hJ⟩ := hrel
    have : k = 0 ∨ k = 1 ∨ k = 2 ∨ k = 3 ∨ k = 4 := by omega
    rcases this with rfl | rfl | rfl | rfl | rfl
    · gi_wp2
      refine ⟨fun _ h => (by cases h), ?_⟩
      gi_wp2
      go_roundw
      case rel => exact ⟨1, by omega, by simp, hJ⟩
      case measure => simp [intOf]
    · rcases Option.eq_none_or_eq_some (p 1) with e | ⟨b1, e⟩
      · have Hn := hide (opens_no1 e)
        have i1' := fun w => (i1 w).trans (show _ = Result.ok (Value.pointer none) w by rw [e]; rfl)
        clear i1
        clear e
        gi_wp2
        refine ⟨fun _ h => (by cases h), ?_⟩
        gi_wp2
        go_roundw
        case rel => exact ⟨2, by omega, by simp, by rw [Hn.out]; exact hJ⟩
        case measure => simp [intOf]
      · obtain ⟨fn, tmps, assign, body, hy, hR⟩ := hY (n - 1) _ (1, b1) wr (by rw [← opens_one e]; exact opens_pre1) hJ
        have Hn := hide (opens_one e)
        simp only [enc2, Int.cast_ofNat_Int, ptr_some] at hy
        have i1' := fun w => (i1 w).trans (show _ = Result.ok (Value.pointer (some ⟨b1, 0, none⟩)) w by rw [e]; rfl)
        clear i1
        clear e
        gi_wp2
        refine ⟨fun h => by simp [Fence.wide] at h, hR.mono ?_⟩
        rintro e W3 (⟨rfl, hJ3⟩ | ⟨rfl, hJ3⟩)
        · gi_wp2
          go_roundw
          case rel => exact ⟨2, by omega, by simp, by rw [Hn.out]; exact hJ3⟩
          case measure => simp [intOf]
        · gi_wp2
          refine bodyPost_ret (results_none rfl _ _ _) rfl ?_
          exact ⟨⟨_, rfl⟩, .inr hJ3⟩
    · rcases Option.eq_none_or_eq_some (p 2) with e | ⟨b1, e⟩
      · have Hn := hide (opens_no2 e)
        have i2' := fun w => (i2 w).trans (show _ = Result.ok (Value.pointer none) w by rw [e]; rfl)
        clear i2
        clear e
        gi_wp2
        refine ⟨fun _ h => (by cases h), ?_⟩
        gi_wp2
        go_roundw
        case rel => exact ⟨3, by omega, by simp, by rw [Hn.out]; exact hJ⟩
        case measure => simp [intOf]
      · obtain ⟨fn, tmps, assign, body, hy, hR⟩ := hY (n - 1) _ (2, b1) wr (by rw [← opens_two e]; exact opens_pre2) hJ
        have Hn := hide (opens_two e)
        simp only [enc2, Int.cast_ofNat_Int, ptr_some] at hy
        have i2' := fun w => (i2 w).trans (show _ = Result.ok (Value.pointer (some ⟨b1, 0, none⟩)) w by rw [e]; rfl)
        clear i2
        clear e
        gi_wp2
        refine ⟨fun h => by simp [Fence.wide] at h, hR.mono ?_⟩
        rintro e W3 (⟨rfl, hJ3⟩ | ⟨rfl, hJ3⟩)
        · gi_wp2
          go_roundw
          case rel => exact ⟨3, by omega, by simp, by rw [Hn.out]; exact hJ3⟩
          case measure => simp [intOf]
        · gi_wp2
          refine bodyPost_ret (results_none rfl _ _ _) rfl ?_
          exact ⟨⟨_, rfl⟩, .inr hJ3⟩
    · rcases Option.eq_none_or_eq_some (p 3) with e | ⟨b1, e⟩
      · have Hn := hide (opens_no3 e)
        have i3' := fun w => (i3 w).trans (show _ = Result.ok (Value.pointer none) w by rw [e]; rfl)
        clear i3
        clear e
        gi_wp2
        refine ⟨fun _ h => (by cases h), ?_⟩
        gi_wp2
        go_roundw
        case rel => exact ⟨4, by omega, by simp, by rw [Hn.out]; exact hJ⟩
        case measure => simp [intOf]
      · obtain ⟨fn, tmps, assign, body, hy, hR⟩ := hY (n - 1) _ (3, b1) wr (by rw [← opens_three e]; exact List.prefix_refl _) hJ
        have Hn := hide (opens_three e)
        simp only [enc2, Int.cast_ofNat_Int, ptr_some] at hy
        have i3' := fun w => (i3 w).trans (show _ = Result.ok (Value.pointer (some ⟨b1, 0, none⟩)) w by rw [e]; rfl)
        clear i3
        clear e
        gi_wp2
        refine ⟨fun h => by simp [Fence.wide] at h, hR.mono ?_⟩
        rintro e W3 (⟨rfl, hJ3⟩ | ⟨rfl, hJ3⟩)
        · gi_wp2
          go_roundw
          case rel => exact ⟨4, by omega, by simp, by rw [Hn.out]; exact hJ3⟩
          case measure => simp [intOf]
        · gi_wp2
          refine bodyPost_ret (results_none rfl _ _ _) rfl ?_
          exact ⟨⟨_, rfl⟩, .inr hJ3⟩
    · gi_wp2
      go_end0
      exact ⟨⟨_, rfl⟩, .inl hJ⟩

end Go.Proofs.Ytmkcbadcmkhceaa
