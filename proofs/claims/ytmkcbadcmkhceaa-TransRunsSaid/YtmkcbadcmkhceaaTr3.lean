/-
  What Pop and List of a transaction come to, in terms of blocks: contracts, no statement.
-/
import Derived.Test.YtmkcbadcmkhceaaTr2
namespace Go.Proofs.Ytmkcbadcmkhceaa
open Go Go.RowKit

theorem chs_length (l : List Ch) : (chs l).length = l.length * 3 := by
  induction l with
  | nil => rfl
  | cons c l ih =>
    show (c.cells ++ chs l).length = _
    rw [List.length_append, ih, List.length_cons]
    show 3 + _ = _
    omega
theorem chs_at (l : List Ch) (k j : Nat) (hk : k < l.length) (hj : j < 3) : (chs l)[k * 3 + j]? = (l[k]).cells[j]? := by
  induction l generalizing k with
  | nil => simp at hk
  | cons c l ih =>
    show (c.cells ++ chs l)[k * 3 + j]? = _
    have hc : c.cells.length = 3 := rfl
    cases k with
    | zero => rw [List.getElem?_append_left (by omega)]; simp
    | succ k =>
      rw [List.getElem?_append_right (by omega)]
      have e : (k + 1) * 3 + j - c.cells.length = k * 3 + j := by omega
      rw [e, ih k (by simpa using hk)]
      simp

theorem chs_one (l : List Ch) : ∀ u ∈ chs l, u.oneCell' = true := by
  intro u hu
  obtain ⟨c, _, hc⟩ := List.mem_flatMap.1 hu
  simp [Ch.cells] at hc
  rcases hc with rfl | rfl | rfl <;> rfl

theorem pop_nil (w : World) : Calls Try.prog 18 #[.pointer none] w fun e w' => e = .returned (.tuple #[.agg #[.int .i64 0, .int .i64 0, .string ⟨#[]⟩], .bool false]) ∧ Below w.heap.size w w' := by
  go_enter Try.func18, Try.ntmps18
  go_wp2
  exact bodyPost_ret (v := .tuple #[.agg #[.int .i64 0, .int .i64 0, .string ⟨#[]⟩], .bool false]) (by simp [results, Try.results18, go_sem]) rfl ⟨rfl, (Below.refl _ _).alloc (Nat.le_refl _) _⟩

set_option maxHeartbeats 1000000 in
theorem pop_some (w0 w : World) (R : HP) (b : Nat) (l : List Ch) (c : Ch) (saves : List Int) (ops : Int) (h : At w0 (txb b (l ++ [c]) saves ops * R) w) (hl : l.length ≤ 1000) :
    Calls Try.prog 18 #[.pointer (some ⟨b, 0, none⟩)] w fun e w' => e = .returned (.tuple #[.agg #[.int .i64 c.p, .int .i64 c.s, .string c.b], .bool true]) ∧ At w0 (txb b l saves ops * R) w' := by
  obtain ⟨v, vs, h⟩ := h.txb_open
  rw [List.length_append] at h
  obtain ⟨g, cap2, rfl, hle, hcell⟩ := h.pull2.row_ptr (by simp)
  have hc0 := At.cell (i := 0) h rfl
  have hf := At.frz h
  have hk0 := hcell (l.length * 3) (.int .i64 c.p) (by rw [← Nat.add_zero (l.length * 3), chs_at _ _ _ (by simp) (by decide)]; simp [Ch.cells])
  have hk1 := hcell (l.length * 3 + 1) (.int .i64 c.s) (by rw [chs_at _ _ _ (by simp) (by decide)]; simp [Ch.cells])
  have hk2 := hcell (l.length * 3 + 2) (.string c.b) (by rw [chs_at _ _ _ (by simp) (by decide)]; simp [Ch.cells])
  have hne : b ≠ g := At.row_ne h
  have hlt := At.lt h
  have hlg := World.block_lt_of_cell? w _ hk0
  clear hcell
  simp only [List.length_singleton] at hc0 hle h
  go_enter Try.func18, Try.ntmps18
  go_wp2
  refine wp_region_line [0, 1, 2, 3, 4, 5, 6, 7, 8, 9, 10, 11, 12, 13] rfl (by kernel_rfl) ?_
  simp only [picks_cons, picks_nil, getD_zero, getD_succ]
  go_wp2
  refine ⟨by kernel_rfl, ?_⟩
  go_wp2
  refine wp_region_line [0, 1, 2, 3, 4, 5, 6, 7, 8, 9, 10, 11, 12, 13, 14] rfl (by kernel_rfl) ?_
  simp only [picks_cons, picks_nil, getD_zero, getD_succ]
  go_wp2
  refine ⟨by kernel_rfl, ?_⟩
  go_wp2
  refine bodyPost_ret (v := .tuple #[.agg #[.int .i64 c.p, .int .i64 c.s, .string c.b], .bool true]) (by simp [results, Try.results18, go_sem]) rfl ⟨rfl, ?_⟩
  have h3 := ((((h.set' 0 (.slice (some ⟨g, 0, none⟩) l.length cap2) rfl).pull2.row_take (m := l.length) (by omega)).pull2.alloc (.cells #[.int .i64 c.p, .int .i64 c.s, .string c.b] 36)).alloc (.cells #[.int .i64 c.p, .int .i64 c.s, .string c.b] 36)).drew.drew
  have e1 : (chs (l ++ [c])).take (l.length * 3) = chs l := by rw [chs_snoc, ← chs_length l]; exact List.take_left
  rw [e1] at h3
  exact At.txb_shut h3.r.r
theorem pop_empty (w0 w : World) (R : HP) (b : Nat) (saves : List Int) (ops : Int) (h : At w0 (txb b [] saves ops * R) w) :
    Calls Try.prog 18 #[.pointer (some ⟨b, 0, none⟩)] w fun e w' => e = .returned (.tuple #[.agg #[.int .i64 0, .int .i64 0, .string ⟨#[]⟩], .bool false]) ∧ At w0 (txb b [] saves ops * R) w' := by
  have h' := h
  obtain ⟨v, vs, h⟩ := h.txb_open
  have hc0 := At.cell (i := 0) (v := v) h rfl
  have hlt := At.lt h
  obtain ⟨a, cap, rfl⟩ := h.pull2.row_len
  clear h
  go_enter Try.func18, Try.ntmps18
  go_wp2
  exact bodyPost_ret (v := .tuple #[.agg #[.int .i64 0, .int .i64 0, .string ⟨#[]⟩], .bool false]) (by simp [results, Try.results18, go_sem]) rfl ⟨rfl, (h'.alloc _).r⟩

/-- A new list of the same changes: who changes it changes nothing else. -/
theorem list_some (w0 w : World) (R : HP) (b : Nat) (l : List Ch) (saves : List Int) (ops : Int) (h : At w0 (txb b l saves ops * R) w) (hl : l.length ≤ 1000) :
    Calls Try.prog 23 #[.pointer (some ⟨b, 0, none⟩)] w fun e w' => ∃ a cap, e = .returned (.slice a l.length cap) ∧ At w0 (row 36 3 (.slice a l.length cap) l.length (chs l) * (txb b l saves ops * R)) w' := by
  have h' := h
  obtain ⟨v, vs, h⟩ := h.txb_open
  have hc0 := At.cell (i := 0) (v := v) h rfl
  obtain ⟨i0, hi, hz0, hz1, hz2⟩ := info_parts Try.infoCh
  by_cases hn : l = []
  · subst hn
    rcases h.pull2.row_cases.2 with ⟨rfl, _⟩ | ⟨g, cap, cur, rfl, _⟩
    · clear h
      go_enter Try.func23, Try.ntmps23
      go_wp2
      go_ret
      exact ⟨none, 0, rfl, h'.row_nil _ _⟩
    · clear h
      go_enter Try.func23, Try.ntmps23
      go_wp2
      go_ret
      exact ⟨none, 0, rfl, h'.row_nil _ _⟩
  · obtain ⟨g, cap2, rfl, hle, hcell⟩ := h.pull2.row_ptr (by cases l <;> simp_all)
    clear h
    go_enter Try.func23, Try.ntmps23
    go_wp2_with (at_builtin; go_loud (refine wpList_append_row rfl _ _ _ rfl 36 i0 _ 3 32 Try.underlying40 hi hz0 hz1 hz2 rfl (by decide) _ _ _ rfl (h'.row_nil 36 3) _ l.length cap2 (chs l) rfl (chs_length l) ?c1 ?c2 ?c3 ?c4 ?_))
    case c1 => intro j u hu; rw [Addr.add_lit, Nat.zero_add]; exact hcell j u hu
    case c2 => exact chs_one l
    case c3 => unfold maxLen; omega
    case c4 => omega
    intro a1 cap1 w1 h1
    go_wp2
    go_ret
    exact ⟨a1, cap1, rfl, h1⟩
theorem list_nil (w : World) : Calls Try.prog 23 #[.pointer none] w fun e w' => e = .returned (.slice none 0 0) ∧ w = w' := by
  go_enter Try.func23, Try.ntmps23
  go_wp2
  go_ret
  exact ⟨rfl, rfl⟩

end Go.Proofs.Ytmkcbadcmkhceaa
