/-
  What the table of transactions comes to, in terms of blocks: contracts, no statement.
-/
import Derived.Test.YtmkcbadcmkhceaaTr1
namespace Go.Proofs.Ytmkcbadcmkhceaa
open Go Go.RowKit

/-- A table's block: which transactions it has. -/
def tbl (b : Nat) (p : Nat → Option Nat) : HP := cel b #[.pointer none, ptr (p 1), ptr (p 2), ptr (p 3)] 27
def upd {α : Type} (p : Nat → α) (k : Nat) (x : α) : Nat → α := fun i => if i = k then x else p i
def least (p : Nat → Option Nat) : Nat := if p 1 = none then 1 else if p 2 = none then 2 else if p 3 = none then 3 else 0

def BegP (w0 : World) (R : HP) (b : Nat) (p : Nat → Option Nat) (e : Ending) (w' : World) : Prop :=
  e = .returned (.int .i64 (least p)) ∧ (least p = 0 → At w0 (tbl b p * R) w') ∧
    (least p ≠ 0 → ∃ n, At w0 (tbl b (upd p (least p) (some n)) * (cel n #[.slice none 0 0, .slice none 0 0, .int .i64 0] 61 * R)) w')
theorem BegP.no {w0 : World} {R : HP} {b : Nat} {p : Nat → Option Nat} {w' : World} (hl : least p = 0) (h : At w0 (tbl b p * R) w') : BegP w0 R b p (.returned (.int .i64 0)) w' :=
  ⟨by rw [hl]; rfl, fun _ => h, fun e => (e hl).elim⟩
theorem BegP.yes {w0 : World} {R : HP} {b : Nat} {p : Nat → Option Nat} {w' : World} (k n : Nat) (hl : least p = k) (hk : k ≠ 0)
    (h : At w0 (pt n (.cells #[.slice none 0 0, .slice none 0 0, .int .i64 0] 61) * (tbl b (upd p k (some n)) * R)) w') : BegP w0 R b p (.returned (.int .i64 k)) w' :=
  ⟨by rw [hl], fun e => (hk (hl.symm.trans e)).elim, fun _ => ⟨n, by rw [hl]; exact h.pull2⟩⟩

set_option maxHeartbeats 2000000 in
theorem begin_any (w0 w : World) (R : HP) (b : Nat) (p : Nat → Option Nat) (h : At w0 (tbl b p * R) w) :
    Calls Try.prog 10 #[.pointer (some ⟨b, 0, none⟩)] w (BegP w0 R b p) := by
  have hf := At.frz h
  have hlt := At.lt h
  have hc1 := At.cell (i := 1) (v := ptr (p 1)) h rfl
  have hc2 := At.cell (i := 2) (v := ptr (p 2)) h rfl
  have hc3 := At.cell (i := 3) (v := ptr (p 3)) h rfl
  rcases h1 : p 1 with _ | b1
  · rw [h1, ptr_none] at hc1
    have Hl := hide (show least p = 1 by simp [least, h1])
    clear h1
    go_enter Try.func10, Try.ntmps10
    go_wp2
    refine wp_loop_rounds 1 ?_
    rw [rounds_succ]
    go_wp2
    go_ret
    exact BegP.yes 1 w.heap.size Hl.out (by decide) ((h.set' 1 (ptr (some w.heap.size)) rfl).alloc' (by simp) _)
  · rw [h1, ptr_some] at hc1
    rcases h2 : p 2 with _ | b2
    · rw [h2, ptr_none] at hc2
      have Hl := hide (show least p = 2 by simp [least, h1, h2])
      clear h1 h2
      go_enter Try.func10, Try.ntmps10
      go_wp2
      refine wp_loop_rounds 2 ?_
      rw [rounds_succ]
      go_wp2
      rw [rounds_succ]
      go_wp2
      go_ret
      exact BegP.yes 2 w.heap.size Hl.out (by decide) ((h.set' 2 (ptr (some w.heap.size)) rfl).alloc' (by simp) _)
    · rw [h2, ptr_some] at hc2
      rcases h3 : p 3 with _ | b3
      · rw [h3, ptr_none] at hc3
        have Hl := hide (show least p = 3 by simp [least, h1, h2, h3])
        clear h1 h2 h3
        go_enter Try.func10, Try.ntmps10
        go_wp2
        refine wp_loop_rounds 3 ?_
        rw [rounds_succ]
        go_wp2
        rw [rounds_succ]
        go_wp2
        rw [rounds_succ]
        go_wp2
        go_ret
        exact BegP.yes 3 w.heap.size Hl.out (by decide) ((h.set' 3 (ptr (some w.heap.size)) rfl).alloc' (by simp) _)
      · rw [h3, ptr_some] at hc3
        have Hl := hide (show least p = 0 by simp [least, h1, h2, h3])
        clear h1 h2 h3
        go_enter Try.func10, Try.ntmps10
        go_wp2
        refine wp_loop_rounds 4 ?_
        rw [rounds_succ]
        go_wp2
        rw [rounds_succ]
        go_wp2
        rw [rounds_succ]
        go_wp2
        rw [rounds_succ]
        go_wp2
        go_ret
        exact BegP.no Hl.out h

set_option maxHeartbeats 2000000 in
theorem end_any (w0 w : World) (R : HP) (b : Nat) (p : Nat → Option Nat) (n : Int) (h : At w0 (tbl b p * R) w) :
    Calls Try.prog 11 #[.pointer (some ⟨b, 0, none⟩), .int .i64 n] w fun e w' => e = .returned (.tuple #[]) ∧
      At w0 (tbl b (if 1 ≤ n ∧ n ≤ 3 then upd p n.toNat none else p) * R) w' := by
  have hf := At.frz h
  have hlt := At.lt h
  have hc1 := At.cell (i := 1) (v := ptr (p 1)) h rfl
  have hc2 := At.cell (i := 2) (v := ptr (p 2)) h rfl
  have hc3 := At.cell (i := 3) (v := ptr (p 3)) h rfl
  by_cases h1 : 1 ≤ n ∧ n ≤ 3
  · rw [if_pos h1]
    obtain ⟨h1, h2⟩ := h1
    have : n = 1 ∨ n = 2 ∨ n = 3 := by omega
    rcases this with rfl | rfl | rfl
    all_goals
      go_enter Try.func11, Try.ntmps11
      go_wp2
      go_end0
      refine ⟨rfl, ?_⟩
    · exact h.set' 1 (.pointer none) rfl
    · exact h.set' 2 (.pointer none) rfl
    · exact h.set' 3 (.pointer none) rfl
  · rw [if_neg h1]
    by_cases h2 : 1 ≤ n
    · have h3 : ¬ n ≤ 3 := fun h => h1 ⟨h2, h⟩
      go_enter Try.func11, Try.ntmps11
      go_wp2
      go_end0
      exact ⟨rfl, h⟩
    · go_enter Try.func11, Try.ntmps11
      go_wp2
      go_end0
      exact ⟨rfl, h⟩

/-- What Get hands back. -/
def got (p : Nat → Option Nat) (n : Int) : Option Nat := if 1 ≤ n ∧ n ≤ 3 then p n.toNat else none

set_option maxHeartbeats 2000000 in
theorem get_any (w0 w : World) (R : HP) (b : Nat) (p : Nat → Option Nat) (n : Int) (h : At w0 (tbl b p * R) w) :
    Calls Try.prog 12 #[.pointer (some ⟨b, 0, none⟩), .int .i64 n] w fun e w' => e = .returned (ptr (got p n)) ∧ w = w' := by
  have hf := At.frz h
  have hlt := At.lt h
  have hc1 := At.cell (i := 1) (v := ptr (p 1)) h rfl
  have hc2 := At.cell (i := 2) (v := ptr (p 2)) h rfl
  have hc3 := At.cell (i := 3) (v := ptr (p 3)) h rfl
  unfold got
  by_cases h1 : 1 ≤ n ∧ n ≤ 3
  · rw [if_pos h1]
    obtain ⟨h1, h2⟩ := h1
    have : n = 1 ∨ n = 2 ∨ n = 3 := by omega
    rcases this with rfl | rfl | rfl
    all_goals
      go_enter Try.func12, Try.ntmps12
      go_wp2
      go_ret
      exact ⟨rfl, rfl⟩
  · rw [if_neg h1]
    by_cases h2 : 1 ≤ n
    · have h3 : ¬ n ≤ 3 := fun h => h1 ⟨h2, h⟩
      go_enter Try.func12, Try.ntmps12
      go_wp2
      go_ret
      exact ⟨rfl, rfl⟩
    · go_enter Try.func12, Try.ntmps12
      go_wp2
      go_ret
      exact ⟨rfl, rfl⟩

def cnt (p : Nat → Option Nat) : Nat := (if (p 1).isSome then 1 else 0) + (if (p 2).isSome then 1 else 0) + (if (p 3).isSome then 1 else 0)

set_option maxHeartbeats 4000000 in
theorem open_any (w0 w : World) (R : HP) (b : Nat) (p : Nat → Option Nat) (h : At w0 (tbl b p * R) w) :
    Calls Try.prog 13 #[.pointer (some ⟨b, 0, none⟩)] w fun e w' => e = .returned (.int .i64 (cnt p)) ∧ w = w' := by
  have hc0 := At.cell (i := 0) (v := .pointer none) h rfl
  have hc1 := At.cell (i := 1) (v := ptr (p 1)) h rfl
  have hc2 := At.cell (i := 2) (v := ptr (p 2)) h rfl
  have hc3 := At.cell (i := 3) (v := ptr (p 3)) h rfl
  have i0 : ∀ w, (Instr.index 25 (.agg #[.pointer none, ptr (p 1), ptr (p 2), ptr (p 3)]) (.int .i64 0)).run Try.prog w = .ok (.pointer none) w := fun _ => by kernel_rfl
  have i1 : ∀ w, (Instr.index 25 (.agg #[.pointer none, ptr (p 1), ptr (p 2), ptr (p 3)]) (.int .i64 1)).run Try.prog w = .ok (ptr (p 1)) w := fun _ => by kernel_rfl
  have i2 : ∀ w, (Instr.index 25 (.agg #[.pointer none, ptr (p 1), ptr (p 2), ptr (p 3)]) (.int .i64 2)).run Try.prog w = .ok (ptr (p 2)) w := fun _ => by kernel_rfl
  have i3 : ∀ w, (Instr.index 25 (.agg #[.pointer none, ptr (p 1), ptr (p 2), ptr (p 3)]) (.int .i64 3)).run Try.prog w = .ok (ptr (p 3)) w := fun _ => by kernel_rfl
  unfold cnt
  clear h
  generalize p 1 = q1 at *
  generalize p 2 = q2 at *
  generalize p 3 = q3 at *
  rcases q1 with _ | b1 <;> rcases q2 with _ | b2 <;> rcases q3 with _ | b3
  all_goals
    simp only [ptr_none, ptr_some] at hc1 hc2 hc3 i0 i1 i2 i3
    go_enter Try.func13, Try.ntmps13
    go_wp2
    refine wp_loop_rounds 5 ?_
    rw [rounds_succ]
    go_wp2
    rw [rounds_succ]
    go_wp2
    rw [rounds_succ]
    go_wp2
    rw [rounds_succ]
    go_wp2
    rw [rounds_succ]
    go_wp2
    go_ret
    exact ⟨rfl, rfl⟩

end Go.Proofs.Ytmkcbadcmkhceaa
