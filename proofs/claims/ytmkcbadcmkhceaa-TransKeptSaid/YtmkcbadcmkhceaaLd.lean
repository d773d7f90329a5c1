/-
  Load: a contract, no statement.
-/
import Derived.Test.YtmkcbadcmkhceaaTr3
import Derived.Test.YtmkcbadcmkhceaaTf
namespace Go.Proofs.Ytmkcbadcmkhceaa
open Go Go.RowKit

set_option maxHeartbeats 2000000 in
theorem load_in (w0 w : World) (R : HP) (b : Nat) (p : Nat → Option Nat) (k : Nat) (hk : k = 1 ∨ k = 2 ∨ k = 3) (a : Option Addr) (n cap : Nat) (L : List Ch) (hL : L.length = n) (hn : n ≤ 1000)
    (ha : 0 < n → ∃ g o, a = some ⟨g, o, none⟩ ∧ ∀ j u, (chs L)[j]? = some u → w.cell? ⟨g, o + j, none⟩ = some u) (h : At w0 (tbl b p * R) w) :
    Calls Try.prog 21 #[.pointer (some ⟨b, 0, none⟩), .int .i64 k, .slice a n cap] w fun e w' => e = .returned (.tuple #[]) ∧ ∃ X, At w0 (tbl b (upd p k (some X)) * (txb X L [] n * R)) w' := by
  obtain ⟨i0, hi, hz0, hz1, hz2⟩ := info_parts Try.infoCh
  have hf := At.frz h
  have hlt := At.lt h
  have hc1 := At.cell (i := 1) (v := ptr (p 1)) h rfl
  have hc2 := At.cell (i := 2) (v := ptr (p 2)) h rfl
  have hc3 := At.cell (i := 3) (v := ptr (p 3)) h rfl
  by_cases hn0 : n = 0
  · subst hn0
    obtain rfl : L = [] := List.eq_nil_of_length_eq_zero hL
    rcases hk with rfl | rfl | rfl
    all_goals
      go_enter Try.func21, Try.ntmps21
      go_wp2_with fail
      refine wp_region_line [0, 1, 2, 4, 5, 8, 9, 3, 6, 7, 10, 11] rfl (by kernel_rfl) ?_
      simp only [picks_cons, picks_nil, getD_zero, getD_succ]
      cases a
      all_goals
        go_wp2
        refine ⟨by kernel_rfl, ?_⟩
        go_end0
        refine ⟨rfl, w.heap.size, At.pull2 (At.txb_new (At.drew (At.alloc' (A := tbl b (upd p _ (some w.heap.size)) * R) ?_ (by simp) _)))⟩
    · exact h.set' 1 (ptr (some w.heap.size)) rfl
    · exact h.set' 1 (ptr (some w.heap.size)) rfl
    · exact h.set' 2 (ptr (some w.heap.size)) rfl
    · exact h.set' 2 (ptr (some w.heap.size)) rfl
    · exact h.set' 3 (ptr (some w.heap.size)) rfl
    · exact h.set' 3 (ptr (some w.heap.size)) rfl
  · obtain ⟨g, o, rfl, hcell⟩ := ha (by omega)
    clear ha
    rcases hk with rfl | rfl | rfl
    · go_enter Try.func21, Try.ntmps21
      go_wp2_with fail
      refine wp_region_line [0, 1, 2, 4, 5, 8, 9, 3, 6, 7, 10, 11] rfl (by kernel_rfl) ?_
      simp only [picks_cons, picks_nil, getD_zero, getD_succ]
      go_wp2_with (at_builtin; go_loud (refine wpList_append_row rfl _ _ _ rfl 36 i0 _ 3 32 Try.underlying40 hi hz0 hz1 hz2 rfl (by decide) _ _ _ rfl (h.drew.row_nil 36 3) _ n cap (chs L) rfl (by rw [chs_length, hL]) (fun j u hu => by rw [Addr.add_lit]; exact hcell j u hu) (chs_one L) (by unfold maxLen; omega) (by omega) ?_))
      intro a1 cap1 w1 h1
      have hf1 := At.frz h1.pull2
      have hlt1 := At.lt h1.pull2
      have hk1 := At.cell (i := 1) (v := ptr (p 1)) h1.pull2 rfl
      go_wp2
      refine ⟨by kernel_rfl, ?_⟩
      go_end0
      refine ⟨rfl, w1.heap.size, ?_⟩
      have h2 : At w0 (tbl b (upd p 1 (some w1.heap.size)) * (row 36 3 (.slice a1 n cap1) n (chs L) * R)) _ := h1.pull2.set' 1 (ptr (some w1.heap.size)) rfl
      have h3 := (h2.alloc' (show _ = w1.heap.size by simp) (.cells #[.slice a1 n cap1, .slice none 0 0, .int .i64 n] 61)).row_nil 3 1
      rw [← hL] at h3 ⊢
      exact (At.txb_shut (saves := []) (h3.cast (show _ = cel w1.heap.size #[.slice a1 L.length cap1, .slice none 0 0, .int .i64 L.length] 61 * (row 36 3 (.slice a1 L.length cap1) L.length (chs L) * (row 3 1 (.slice none 0 0) 0 [] * (tbl b (upd p 1 (some w1.heap.size)) * R))) by unfold cel; ac_rfl))).pull2
    · go_enter Try.func21, Try.ntmps21
      go_wp2_with fail
      refine wp_region_line [0, 1, 2, 4, 5, 8, 9, 3, 6, 7, 10, 11] rfl (by kernel_rfl) ?_
      simp only [picks_cons, picks_nil, getD_zero, getD_succ]
      go_wp2_with (at_builtin; go_loud (refine wpList_append_row rfl _ _ _ rfl 36 i0 _ 3 32 Try.underlying40 hi hz0 hz1 hz2 rfl (by decide) _ _ _ rfl (h.drew.row_nil 36 3) _ n cap (chs L) rfl (by rw [chs_length, hL]) (fun j u hu => by rw [Addr.add_lit]; exact hcell j u hu) (chs_one L) (by unfold maxLen; omega) (by omega) ?_))
      intro a1 cap1 w1 h1
      have hf1 := At.frz h1.pull2
      have hlt1 := At.lt h1.pull2
      have hk1 := At.cell (i := 2) (v := ptr (p 2)) h1.pull2 rfl
      go_wp2
      refine ⟨by kernel_rfl, ?_⟩
      go_end0
      refine ⟨rfl, w1.heap.size, ?_⟩
      have h2 : At w0 (tbl b (upd p 2 (some w1.heap.size)) * (row 36 3 (.slice a1 n cap1) n (chs L) * R)) _ := h1.pull2.set' 2 (ptr (some w1.heap.size)) rfl
      have h3 := (h2.alloc' (show _ = w1.heap.size by simp) (.cells #[.slice a1 n cap1, .slice none 0 0, .int .i64 n] 61)).row_nil 3 1
      rw [← hL] at h3 ⊢
      exact (At.txb_shut (saves := []) (h3.cast (show _ = cel w1.heap.size #[.slice a1 L.length cap1, .slice none 0 0, .int .i64 L.length] 61 * (row 36 3 (.slice a1 L.length cap1) L.length (chs L) * (row 3 1 (.slice none 0 0) 0 [] * (tbl b (upd p 2 (some w1.heap.size)) * R))) by unfold cel; ac_rfl))).pull2
    · go_enter Try.func21, Try.ntmps21
      go_wp2_with fail
      refine wp_region_line [0, 1, 2, 4, 5, 8, 9, 3, 6, 7, 10, 11] rfl (by kernel_rfl) ?_
      simp only [picks_cons, picks_nil, getD_zero, getD_succ]
      go_wp2_with (at_builtin; go_loud (refine wpList_append_row rfl _ _ _ rfl 36 i0 _ 3 32 Try.underlying40 hi hz0 hz1 hz2 rfl (by decide) _ _ _ rfl (h.drew.row_nil 36 3) _ n cap (chs L) rfl (by rw [chs_length, hL]) (fun j u hu => by rw [Addr.add_lit]; exact hcell j u hu) (chs_one L) (by unfold maxLen; omega) (by omega) ?_))
      intro a1 cap1 w1 h1
      have hf1 := At.frz h1.pull2
      have hlt1 := At.lt h1.pull2
      have hk1 := At.cell (i := 3) (v := ptr (p 3)) h1.pull2 rfl
      go_wp2
      refine ⟨by kernel_rfl, ?_⟩
      go_end0
      refine ⟨rfl, w1.heap.size, ?_⟩
      have h2 : At w0 (tbl b (upd p 3 (some w1.heap.size)) * (row 36 3 (.slice a1 n cap1) n (chs L) * R)) _ := h1.pull2.set' 3 (ptr (some w1.heap.size)) rfl
      have h3 := (h2.alloc' (show _ = w1.heap.size by simp) (.cells #[.slice a1 n cap1, .slice none 0 0, .int .i64 n] 61)).row_nil 3 1
      rw [← hL] at h3 ⊢
      exact (At.txb_shut (saves := []) (h3.cast (show _ = cel w1.heap.size #[.slice a1 L.length cap1, .slice none 0 0, .int .i64 L.length] 61 * (row 36 3 (.slice a1 L.length cap1) L.length (chs L) * (row 3 1 (.slice none 0 0) 0 [] * (tbl b (upd p 3 (some w1.heap.size)) * R))) by unfold cel; ac_rfl))).pull2

end Go.Proofs.Ytmkcbadcmkhceaa
