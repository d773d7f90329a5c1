/-
  What the methods of a transaction come to, in terms of blocks: contracts, no statement.
-/
import Derived.Test.YtmkcbadcmkhceaaTr1
namespace Go.Proofs.Ytmkcbadcmkhceaa
open Go Go.RowKit

set_option maxHeartbeats 1000000 in
theorem save_some (w0 w : World) (R : HP) (b : Nat) (l : List Ch) (saves : List Int) (ops : Int) (h : At w0 (txb b l saves ops * R) w)
    (hs : saves.length < 4) :
    Calls Try.prog 15 #[.pointer (some ⟨b, 0, none⟩)] w fun e w' => e = .returned (.int .i64 (saves.length + 1 : Nat)) ∧ At w0 (txb b l (saves ++ [(l.length : Int)]) ops * R) w' := by
  obtain ⟨v, vs, h⟩ := h.txb_open
  have hc0 := At.cell (i := 0) (v := v) h rfl
  have hc1 := At.cell (i := 1) (v := vs) h rfl
  have hf := At.frz h
  have hlt := At.lt h
  obtain ⟨a, cap, rfl⟩ := h.pull2.row_len
  obtain ⟨a2, cap2, rfl⟩ := h.pull3.row_len
  obtain ⟨i0, hi, hz0, hz1, hz2⟩ := info_parts Try.infoInt
  have ht : ((saves.length : Int) == 4) = false := by rw [beq_eq_false_iff_ne]; omega
  go_enter Try.func15, Try.ntmps15
  go_wp2
  refine wp_region_line [0, 1, 2, 3, 4, 5, 6, 7, 8, 9, 10, 11, 12, 13, 14] rfl (by kernel_rfl) ?_
  simp only [picks_cons, picks_nil, getD_zero, getD_succ]
  go_wp2_with (at_builtin; go_loud (refine wpList_append_row rfl _ _ _ rfl 3 i0 _ 1 8 Try.underlying22 hi hz0 hz1 hz2 rfl (by decide) _ _ _ rfl (h.alloc _).drew.pull4 _ 1 1 [.int .i64 l.length] rfl rfl ?c1 ?c2 ?c3 ?c4 ?_))
  case c1 => exact fun j u hu => new_cells (w := w) rfl j u hu
  case c2 => intro u hu; simp at hu; rw [hu]; rfl
  case c3 => unfold maxLen; omega
  case c4 => omega
  intro a1 cap1 w1 h1
  have hc1 := At.cell (i := 1) h1.pull3 rfl
  have hf1 := At.frz h1.pull3
  go_wp2
  refine ⟨by kernel_rfl, ?_⟩
  go_wp2
  go_ret
  refine ⟨rfl, ?_⟩
  have h2 := h1.pull3.set' 1 (.slice a1 (saves.length + 1) cap1) rfl
  refine At.txb_shut (v := .slice a l.length cap) (vs := .slice a1 (saves.length + 1) cap1) ?_
  rw [List.length_append, List.map_append]
  exact h2.pull3.r.pull3.cast (by ac_rfl)

set_option maxHeartbeats 1000000 in
theorem save_full (w0 w : World) (R : HP) (b : Nat) (l : List Ch) (saves : List Int) (ops : Int) (h : At w0 (txb b l saves ops * R) w) (hs : saves.length = 4) :
    Calls Try.prog 15 #[.pointer (some ⟨b, 0, none⟩)] w fun e w' => e = .returned (.int .i64 0) ∧ w = w' := by
  obtain ⟨v, vs, h⟩ := h.txb_open
  have hc1 := At.cell (i := 1) (v := vs) h rfl
  obtain ⟨a2, cap2, rfl⟩ := h.pull3.row_len
  rw [hs] at hc1
  clear h hs
  go_enter Try.func15, Try.ntmps15
  go_wp2
  go_ret
  exact ⟨rfl, rfl⟩

theorem save_nil (w : World) : Calls Try.prog 15 #[.pointer none] w fun e w' => e = .returned (.int .i64 0) ∧ w = w' := by
  go_enter Try.func15, Try.ntmps15
  go_wp2
  go_ret
  exact ⟨rfl, rfl⟩

set_option maxHeartbeats 1000000 in
theorem back_yes (w0 w : World) (R : HP) (b : Nat) (l : List Ch) (saves : List Int) (ops : Int) (n : Int) (h : At w0 (txb b l saves ops * R) w)
    (h1 : 1 ≤ n) (h2 : n ≤ saves.length) (h4 : saves.length ≤ 4) :
    Calls Try.prog 16 #[.pointer (some ⟨b, 0, none⟩), .int .i64 n] w fun e w' => e = .returned (.tuple #[.int .i64 (saves.getD (n - 1).toNat 0), .bool true]) ∧ At w0 (txb b l (saves.take n.toNat) ops * R) w' := by
  obtain ⟨m, rfl⟩ : ∃ m : Nat, n = ((m + 1 : Nat) : Int) := ⟨(n - 1).toNat, by omega⟩
  obtain ⟨v, vs, h⟩ := h.txb_open
  obtain ⟨g, cap2, rfl, hle, hcell⟩ := h.pull3.row_ptr (by omega)
  have hc1 := At.cell (i := 1) h rfl
  have hf := At.frz h
  have hm : m < saves.length := by omega
  have hel := hcell m (.int .i64 saves[m]) (by simp [hm])
  have hne : b ≠ g := At.row_ne h.pull3.pull2
  clear hcell
  go_enter Try.func16, Try.ntmps16
  go_wp2
  go_ret2
  refine ⟨by simp [hm], ?_⟩
  have h3 := (h.set' 1 (.slice (some ⟨g, 0, none⟩) (m + 1) cap2) rfl).pull3.row_take (m := m + 1) (by omega)
  refine At.txb_shut (v := v) (vs := .slice (some ⟨g, 0, none⟩) (m + 1) cap2) ?_
  have e1 : (saves.take ((m + 1 : Nat) : Int).toNat).length = m + 1 := by simp; omega
  rw [e1, List.map_take]
  exact h3.cast (by rw [Nat.mul_one]; ac_rfl)

theorem back_no (w0 w : World) (R : HP) (b : Nat) (l : List Ch) (saves : List Int) (ops : Int) (n : Int) (h : At w0 (txb b l saves ops * R) w)
    (hn : ¬ (1 ≤ n ∧ n ≤ saves.length)) :
    Calls Try.prog 16 #[.pointer (some ⟨b, 0, none⟩), .int .i64 n] w fun e w' => e = .returned (.tuple #[.int .i64 0, .bool false]) ∧ w = w' := by
  obtain ⟨v, vs, h⟩ := h.txb_open
  have hc1 := At.cell (i := 1) (v := vs) h rfl
  obtain ⟨a2, cap2, rfl⟩ := h.pull3.row_len
  clear h
  by_cases h1 : 1 ≤ n
  · have h2 : (saves.length : Int) < n := by omega
    clear hn
    go_enter Try.func16, Try.ntmps16
    go_wp2
    go_ret2
    exact ⟨rfl, rfl⟩
  · clear hn
    have h2 : n < 1 := by omega
    go_enter Try.func16, Try.ntmps16
    go_wp2
    go_ret2
    exact ⟨rfl, rfl⟩

theorem back_nil (w : World) (n : Int) : Calls Try.prog 16 #[.pointer none, .int .i64 n] w fun e w' => e = .returned (.tuple #[.int .i64 0, .bool false]) ∧ w = w' := by
  go_enter Try.func16, Try.ntmps16
  go_wp2
  go_ret2
  exact ⟨rfl, rfl⟩

theorem full_some (w0 w : World) (R : HP) (b : Nat) (l : List Ch) (saves : List Int) (ops : Int) (h : At w0 (txb b l saves ops * R) w) :
    Calls Try.prog 17 #[.pointer (some ⟨b, 0, none⟩)] w fun e w' => e = .returned (.bool (decide (8 ≤ ops))) ∧ w = w' := by
  obtain ⟨v, vs, h⟩ := h.txb_open
  have hc2 := At.cell (i := 2) (v := .int .i64 ops) h rfl
  clear h
  go_enter Try.func17, Try.ntmps17
  go_wp2
  go_ret
  exact ⟨rfl, rfl⟩
theorem full_nil (w : World) : Calls Try.prog 17 #[.pointer none] w fun e w' => e = .returned (.bool true) ∧ w = w' := by
  go_enter Try.func17, Try.ntmps17
  go_wp2
  go_ret
  exact ⟨rfl, rfl⟩

theorem len_some (w0 w : World) (R : HP) (b : Nat) (l : List Ch) (saves : List Int) (ops : Int) (h : At w0 (txb b l saves ops * R) w) :
    Calls Try.prog 19 #[.pointer (some ⟨b, 0, none⟩)] w fun e w' => e = .returned (.int .i64 l.length) ∧ w = w' := by
  obtain ⟨v, vs, h⟩ := h.txb_open
  have hc0 := At.cell (i := 0) (v := v) h rfl
  obtain ⟨a, cap, rfl⟩ := h.pull2.row_len
  clear h
  go_enter Try.func19, Try.ntmps19
  go_wp2
  go_ret
  exact ⟨rfl, rfl⟩
theorem len_nil (w : World) : Calls Try.prog 19 #[.pointer none] w fun e w' => e = .returned (.int .i64 0) ∧ w = w' := by
  go_enter Try.func19, Try.ntmps19
  go_wp2
  go_ret
  exact ⟨rfl, rfl⟩
end Go.Proofs.Ytmkcbadcmkhceaa
