/-
  What the statements' own example comes to: true, and nothing that was there turns. Contracts, no statement.
-/
import Derived.Test.YtmkcbadcmkhceaaTb
namespace Go.Proofs.Ytmkcbadcmkhceaa
open Go Go.RowKit

theorem begin_yes (w0 w : World) (R : HP) (b : Nat) (p : Nat → Option Nat) (k : Nat) (hk : least p = k) (h0 : k ≠ 0) (h : At w0 (tbl b p * R) w) :
    Calls Try.prog 10 #[.pointer (some ⟨b, 0, none⟩)] w fun e w' => e = .returned (.int .i64 k) ∧
      ∃ n, At w0 (tbl b (upd p k (some n)) * (cel n #[.slice none 0 0, .slice none 0 0, .int .i64 0] 61 * R)) w' := by
  subst hk
  exact (begin_any w0 w R b p h).mono fun _ _ ⟨h1, _, h3⟩ => ⟨h1, h3 h0⟩
theorem At.txb_new {w0 w : World} {R : HP} {X : Nat} (h : At w0 (cel X #[.slice none 0 0, .slice none 0 0, .int .i64 0] 61 * R) w) : At w0 (txb X [] [] 0 * R) w :=
  At.txb_shut (v := .slice none 0 0) (vs := .slice none 0 0) (h.cast (by
    show _ = cel X _ _ * (row _ 3 (.slice none 0 0) 0 [] * (row _ 1 (.slice none 0 0) 0 [] * R))
    rw [Go.Proofs.Ytmkcbadcmkhceaa.row_nil, Go.Proofs.Ytmkcbadcmkhceaa.row_nil, HP.one_mul, HP.one_mul]))
/-- A new transaction. -/
theorem begin_tx (w0 w : World) (R : HP) (b : Nat) (p : Nat → Option Nat) (k : Nat) (hk : least p = k) (h0 : k ≠ 0) (h : At w0 (tbl b p * R) w) :
    Calls Try.prog 10 #[.pointer (some ⟨b, 0, none⟩)] w fun e w' => e = .returned (.int .i64 k) ∧
      ∃ n, At w0 (tbl b (upd p k (some n)) * (txb n [] [] 0 * R)) w' :=
  (begin_yes w0 w R b p k hk h0 h).mono fun _ _ ⟨h1, n, h2⟩ => ⟨h1, n, h2.pull2.txb_new.pull2⟩
theorem begin_no (w0 w : World) (R : HP) (b : Nat) (p : Nat → Option Nat) (hk : least p = 0) (h : At w0 (tbl b p * R) w) :
    Calls Try.prog 10 #[.pointer (some ⟨b, 0, none⟩)] w fun e w' => e = .returned (.int .i64 0) ∧ At w0 (tbl b p * R) w' :=
  (begin_any w0 w R b p h).mono fun _ _ ⟨h1, h2, _⟩ => ⟨by rw [h1, hk]; rfl, h2 hk⟩

/-- A table that was just laid. -/
theorem At.tbl_new {w0 w : World} {A : HP} (h : At w0 A w) : At w0 (tbl w.heap.size (fun _ => none) * A) (w.alloc (.cells #[.pointer none, .pointer none, .pointer none, .pointer none] 27)) := h.alloc _

set_option maxHeartbeats 2000000 in
theorem fit_any (w0 w : World) (A : HP) (h : At w0 A w) :
    Calls Try.prog 9 #[] w fun e w' => e = .returned (.bool true) ∧ At w0 A w' := by
  have h1 := h.tbl_new
  go_enter Try.func9, Try.ntmps9
  go_wp2_with fail
  refine (begin_yes w0 _ _ _ _ 1 rfl (by decide) h1).mono ?_
  rintro e w1 ⟨rfl, n1, h2⟩
  go_wp2_with fail
  refine (begin_yes w0 _ _ _ _ 2 rfl (by decide) h2).mono ?_
  rintro e w2 ⟨rfl, n2, h3⟩
  go_wp2_with fail
  refine (begin_yes w0 _ _ _ _ 3 rfl (by decide) h3).mono ?_
  rintro e w3 ⟨rfl, n3, h4⟩
  go_wp2_with fail
  refine (begin_no w0 _ _ _ _ rfl h4).mono ?_
  rintro e w4 ⟨rfl, h5⟩
  go_wp2_with fail
  refine (open_any w0 _ _ _ _ h5).mono ?_
  rintro e w5 ⟨rfl, rfl⟩
  go_wp2
  go_ret
  exact ⟨rfl, h5.r.r.r.r⟩
end Go.Proofs.Ytmkcbadcmkhceaa
