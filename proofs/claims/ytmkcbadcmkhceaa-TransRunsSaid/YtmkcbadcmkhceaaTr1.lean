/-
  What the functions of package trans come to, in terms of blocks: contracts, no statement.
-/
import Derived.Test.YtmkcbadcmkhceaaSl
import Derived.Test.YtmkcbadcmkhceaaProg
import Derived.Test.YtmkcbadcmkhceaaRg
namespace Go.Proofs.Ytmkcbadcmkhceaa
open Go Go.RowKit

/-- A pointer to the head of a block, or nil. -/
def ptr : Option Nat → Value
  | none => .pointer none
  | some b => .pointer (some ⟨b, 0, none⟩)

theorem ptr_none : ptr none = .pointer none := rfl
theorem ptr_some (b : Nat) : ptr (some b) = .pointer (some ⟨b, 0, none⟩) := rfl

/-- A change. -/
structure Ch where
  p : Int
  s : Int
  b : ByteArray
def Ch.cells (c : Ch) : List Value := [.int .i64 c.p, .int .i64 c.s, .string c.b]
def chs (l : List Ch) : List Value := l.flatMap Ch.cells
theorem chs_snoc (l : List Ch) (c : Ch) : chs (l ++ [c]) = chs l ++ c.cells := by simp [chs]

/-- A transaction's block. -/
def txb (b : Nat) (l : List Ch) (saves : List Int) (ops : Int) : HP :=
  hex fun v => hex fun vs => cel b #[v, vs, .int .i64 ops] 61 * (row 36 3 v l.length (chs l) * row 3 1 vs saves.length (saves.map (.int .i64)))

theorem Try.infoCh : (Try.prog.info? 36).map (fun i => (i.zero, i.size, i.bytes)) = some (some (.agg #[.int .i64 0, .int .i64 0, .string ⟨#[]⟩]), 3, 32) := by kernel_rfl
theorem Try.infoInt : (Try.prog.info? 3).map (fun i => (i.zero, i.size, i.bytes)) = some (some (.int .i64 0), 1, 8) := by kernel_rfl

theorem At.txb_open {w0 w : World} {R : HP} {b : Nat} {l : List Ch} {saves : List Int} {ops : Int} (h : At w0 (txb b l saves ops * R) w) :
    ∃ v vs, At w0 (cel b #[v, vs, .int .i64 ops] 61 * (row 36 3 v l.length (chs l) * (row 3 1 vs saves.length (saves.map (.int .i64)) * R))) w := by
  obtain ⟨v, h⟩ := h.exl
  obtain ⟨vs, h⟩ := h.exl
  exact ⟨v, vs, h.cast (by ac_rfl)⟩
theorem At.txb_shut {w0 w : World} {R : HP} {b : Nat} {l : List Ch} {saves : List Int} {ops : Int} {v vs : Value}
    (h : At w0 (cel b #[v, vs, .int .i64 ops] 61 * (row 36 3 v l.length (chs l) * (row 3 1 vs saves.length (saves.map (.int .i64)) * R))) w) : At w0 (txb b l saves ops * R) w :=
  At.mkex v (At.mkex vs (h.cast (by ac_rfl)))


set_option maxHeartbeats 1000000 in
theorem push_some (w0 w : World) (R : HP) (b : Nat) (l : List Ch) (saves : List Int) (ops : Int) (c : Ch) (h : At w0 (txb b l saves ops * R) w)
    (hl : l.length ≤ 1000) (ho : 0 ≤ ops) (ho' : ops ≤ 1000) :
    Calls Try.prog 14 #[.pointer (some ⟨b, 0, none⟩), .agg #[.int .i64 c.p, .int .i64 c.s, .string c.b]] w fun e w' => e = .returned (.tuple #[]) ∧ At w0 (txb b (l ++ [c]) saves (ops + 1) * R) w' := by
  obtain ⟨v, vs, h⟩ := h.txb_open
  have hc0 := At.cell (i := 0) (v := v) h rfl
  have hc2 := At.cell (i := 2) (v := .int .i64 ops) h rfl
  have hf := At.frz h
  have hlt := At.lt h
  obtain ⟨a, cap, rfl⟩ := h.pull2.row_len
  obtain ⟨i0, hi, hz0, hz1, hz2⟩ := info_parts Try.infoCh
  go_enter Try.func14, Try.ntmps14
  go_wp2
  refine wp_region_line [0, 1, 2, 3, 4, 5, 6, 7, 8, 9, 10] rfl (by kernel_rfl) ?_
  simp only [picks_cons, picks_nil, getD_zero, getD_succ]
  go_wp2_with (at_builtin; go_loud (refine wpList_append_row rfl _ _ _ rfl 36 i0 _ 3 32 Try.underlying40 hi hz0 hz1 hz2 rfl (by decide) _ _ _ rfl ((h.alloc _).alloc _).drew.pull4 _ 1 1 c.cells rfl rfl ?c1 ?c2 ?c3 ?c4 ?_))
  case c1 => exact fun j u hu => new_cells (w := w.alloc _) (by simp) j u hu
  case c2 => intro u hu; simp [Ch.cells] at hu; rcases hu with rfl | rfl | rfl <;> rfl
  case c3 => unfold maxLen; omega
  case c4 => omega
  intro a1 cap1 w1 h1
  have hc1 := At.cell (i := 0) h1.pull4 rfl
  have hc2' := At.cell (i := 2) (v := .int .i64 ops) h1.pull4 rfl
  have hf1 := At.frz h1.pull4
  go_wp2
  refine ⟨by kernel_rfl, ?_⟩
  go_wp2
  go_end0
  refine ⟨rfl, ?_⟩
  have h2 := (h1.pull4.set 0 (.slice a1 (l.length + 1) cap1)).set 2 (.int .i64 (ops + 1))
  simp only [List.setIfInBounds_toArray, List.set_cons_zero, List.set_cons_succ] at h2
  refine At.txb_shut (v := .slice a1 (l.length + 1) cap1) (vs := vs) ?_
  rw [chs_snoc, List.length_append]
  exact h2.pull3.r.pull3.r
end Go.Proofs.Ytmkcbadcmkhceaa
