/-
  The statement TransNumbers' walk. Contracts, no statement.
-/
import Derived.Test.YtmkcbadcmkhceaaTf
import Derived.Deep.DeepCutAuto
import Derived.Deep.QuietTactic
import Derived.BigQuiet
namespace Go.Proofs.Ytmkcbadcmkhceaa
open Go Go.RowKit

/-- The numbers of a slice that came in can be read. -/
def Nums (W : World) (a : Option Addr) (n : Nat) (z : Nat → Int) : Prop := ∀ i, i < n → ∃ b o, a = some ⟨b, o, none⟩ ∧ W.cell? ⟨b, o + i, none⟩ = some (.int .i64 (z i))

def fw (p : Nat → Option Nat) : Nat → Nat
  | 0 => least p
  | 1 => if p 2 = none then 2 else if p 3 = none then 3 else 0
  | 2 => if p 3 = none then 3 else 0
  | _ => 0

theorem fw_some {p : Nat → Option Nat} {j : Nat} (h : (p (j + 1)).isSome = true) (hj : j < 3) : fw p j = fw p (j + 1) := by
  have : j = 0 ∨ j = 1 ∨ j = 2 := by omega
  rcases this with rfl | rfl | rfl <;> simp only [Nat.zero_add, Nat.reduceAdd] at h <;> simp [fw, least, Option.ne_none_iff_isSome.2 h]
theorem fw_none {p : Nat → Option Nat} {j : Nat} (h : (p (j + 1)).isSome = false) (hj : j < 3) : fw p j = j + 1 := by
  have : j = 0 ∨ j = 1 ∨ j = 2 := by omega
  rcases this with rfl | rfl | rfl <;> simp only [Nat.zero_add, Nat.reduceAdd] at h <;> simp [fw, least, Option.not_isSome_iff_eq_none.1 (by simpa using h)]

theorem least_le (p : Nat → Option Nat) : least p ≤ 3 := by unfold least; repeat' split
                                                            all_goals omega
theorem mod3 (x : Int) : wrap64 ((wrap64 (x.tmod 3 + 3)).tmod 3 + 1) = 1 ∨ wrap64 ((wrap64 (x.tmod 3 + 3)).tmod 3 + 1) = 2 ∨ wrap64 ((wrap64 (x.tmod 3 + 3)).tmod 3 + 1) = 3 := by
  have h1 := Int.tmod_lt_of_pos x (show (0 : Int) < 3 by decide)
  have h2 : -3 < x.tmod 3 := by
    rcases Int.le_total 0 x with h | h
    · have := Int.tmod_nonneg 3 h; omega
    · have := Int.tmod_lt_of_pos (-x) (show (0 : Int) < 3 by decide)
      rw [Int.neg_tmod] at this
      omega
  have h3 : wrap64 (x.tmod 3 + 3) = x.tmod 3 + 3 := IntWalk.wrap64_in _ (by omega)
  rw [h3]
  have h4 : (x.tmod 3 + 3).tmod 3 = (x.tmod 3 + 3) % 3 := Int.tmod_eq_emod_of_nonneg (by omega)
  rw [h4]
  have h5 : wrap64 ((x.tmod 3 + 3) % 3 + 1) = (x.tmod 3 + 3) % 3 + 1 := IntWalk.wrap64_in _ (by omega)
  rw [h5]
  omega
def cb (p : Nat → Option Nat) : Nat → Nat
  | 2 => if (p 1).isSome then 1 else 0
  | 3 => (if (p 1).isSome then 1 else 0) + (if (p 2).isSome then 1 else 0)
  | 4 => cnt p
  | _ => 0

theorem cb_le (p : Nat → Option Nat) (j : Nat) : cb p j ≤ 3 := by
  unfold cb
  repeat' split
  all_goals first | omega | (unfold cnt; repeat' split) | skip
  all_goals omega

/-- The law's own list of what is open. -/
def opn (b : Nat) (p : Nat → Option Nat) : HP := cel b #[.bool false, .bool (p 1).isSome, .bool (p 2).isSome, .bool (p 3).isSome] 28

set_option maxHeartbeats 4000000 in
theorem numbers_walk (W : World) (a : Option Addr) (n cap : Nat) (z : Nat → Int) (hn : n ≤ 9223372036854775807) (hz : Nums W a n z) :
    Calls Try.prog 3 #[.slice a n cap] W fun e w' => e = .returned (.bool true) ∧ Below W.heap.size W w' := by
  by_cases h60 : (60 : Int) < (n : Int)
  · go_enter Try.func3, Try.ntmps3
    go_wp2_with (go_at_call 9; refine (fit_any W _ _ (At.startR W)).mono ?_; rintro e w1 ⟨rfl, h1⟩)
    go_ret
    exact ⟨rfl, h1.below⟩
  · go_enter Try.func3, Try.ntmps3
    go_wp2_with (go_at_call 9; refine (fit_any W _ _ (At.startR W)).mono ?_; rintro e w1 ⟨rfl, h1⟩)
    go_loopw [20] (fun i wr => ∃ (k : Nat) (p : Nat → Option Nat), k ≤ n ∧ i = .int .i64 k ∧ At W (tbl w1.heap.size p * (opn (w1.heap.size + 1) p * (old W * 1))) wr) (fun i _ => n - (intOf i).toNat)
    case atStart => exact ⟨0, fun _ => none, Nat.zero_le _, rfl, (h1.tbl_new.alloc' (by simp) _).pull2⟩
    case round =>
      obtain ⟨k, p, hk, rfl, h2⟩ := hrel
      by_cases hkn : k < n
      · obtain ⟨b, o, rfl, hcell⟩ := hz k hkn
        have hcell' := h2.pull3.old_cell hcell
        clear hcell
        have hkz : (k : Int) < (n : Int) := by omega
        have hc1 := At.cell (i := 1) (v := .bool (p 1).isSome) h2.pull2 rfl
        have hc2 := At.cell (i := 2) (v := .bool (p 2).isSome) h2.pull2 rfl
        have hc3 := At.cell (i := 3) (v := .bool (p 3).isSome) h2.pull2 rfl
        generalize z k = e at *
        go_wp2_with fail
        clear hcell'
        go_loop [7, 8] (fun x y => ∃ j : Nat, j ≤ 3 ∧ y = .int .i64 j ∧ x = .int .i64 (fw p j)) (fun _ y => (intOf y).toNat)
        case atStart => exact ⟨3, Nat.le_refl _, rfl, rfl⟩
        case round =>
          obtain ⟨j, hj, rfl, rfl⟩ := hrel
          have : j = 0 ∨ j = 1 ∨ j = 2 ∨ j = 3 := by omega
          rcases this with rfl | rfl | rfl | rfl
          · go_wp2_with fail
            rw [show fw p 0 = least p from rfl]
            refine (begin_any W _ _ _ p h2).mono ?_
            rintro e1 w2 ⟨rfl, hb0, hb1⟩
            have hl : least p ≤ 3 := least_le p
            have Hb := hide (And.intro hb0 hb1)
            clear hb0 hb1 hc1 hc2 hc3 h2
            go_upto_if 37 with fail
            go_cut [7] (fun _ wc => ∃ p', At W (tbl w1.heap.size p' * (opn (w1.heap.size + 1) p' * (old W * 1))) wc)
            case first =>
              obtain ⟨hb0, hb1⟩ := Hb.out
              have hl4 : least p = 0 ∨ least p = 1 ∨ least p = 2 ∨ least p = 3 := by omega
              clear hl
              rcases hl4 with h0 | h0 | h0 | h0
              · have h3 := hb0 h0
                rw [h0]
                clear hb0 hb1 h0 Hb
                go_wp2_with fail
                go_meet
                exact ⟨p, h3⟩
              · obtain ⟨m, h3⟩ := hb1 (by omega)
                rw [h0] at h3 ⊢
                clear hb0 hb1 h0 Hb
                have h4 := h3.pull2.r
                have hc := At.cell (i := 1) (v := .bool (p 1).isSome) h4.pull2 rfl
                have hf := At.frz h4.pull2
                go_wp2_with fail
                go_meet
                exact ⟨upd p 1 (some m), (h4.pull2.set' 1 (.bool true) rfl).pull2⟩
              · obtain ⟨m, h3⟩ := hb1 (by omega)
                rw [h0] at h3 ⊢
                clear hb0 hb1 h0 Hb
                have h4 := h3.pull2.r
                have hc := At.cell (i := 2) (v := .bool (p 2).isSome) h4.pull2 rfl
                have hf := At.frz h4.pull2
                go_wp2_with fail
                go_meet
                exact ⟨upd p 2 (some m), (h4.pull2.set' 2 (.bool true) rfl).pull2⟩
              · obtain ⟨m, h3⟩ := hb1 (by omega)
                rw [h0] at h3 ⊢
                clear hb0 hb1 h0 Hb
                have h4 := h3.pull2.r
                have hc := At.cell (i := 3) (v := .bool (p 3).isSome) h4.pull2 rfl
                have hf := At.frz h4.pull2
                go_wp2_with fail
                go_meet
                exact ⟨upd p 3 (some m), (h4.pull2.set' 3 (.bool true) rfl).pull2⟩
            case rest =>
              obtain ⟨p1, h5⟩ := hcut
              clear Hb hl
              go_upto_if 42 with fail
              go_cut [] (fun wc => ∃ p', At W (tbl w1.heap.size p' * (opn (w1.heap.size + 1) p' * (old W * 1))) wc)
              case first =>
                cases hb : (bits BinOp.and IntKind.i64 e 1 == 1)
                · go_wp2_with fail
                  go_meet
                  exact ⟨p1, h5⟩
                · go_wp2_with fail
                  obtain ⟨q, hq, hqe⟩ : ∃ q : Int, (q = 1 ∨ q = 2 ∨ q = 3) ∧ wrap64 ((wrap64 ((e / 2).tmod 3 + 3)).tmod 3 + 1) = q := ⟨_, mod3 _, rfl⟩
                  rw [hqe]
                  clear hqe hb
                  refine (end_any W _ _ _ p1 q h5).mono ?_
                  rintro e1 w3 ⟨rfl, h6⟩
                  clear h5
                  rcases hq with rfl | rfl | rfl
                  · have h7 : At W (tbl w1.heap.size (upd p1 1 none) * (opn (w1.heap.size + 1) p1 * (old W * 1))) w3 := h6
                    clear h6
                    have hc := At.cell (i := 1) (v := .bool (p1 1).isSome) h7.pull2 rfl
                    have hf := At.frz h7.pull2
                    go_wp2_with fail
                    go_meet
                    exact ⟨upd p1 1 none, (h7.pull2.set' 1 (.bool false) rfl).pull2⟩
                  · have h7 : At W (tbl w1.heap.size (upd p1 2 none) * (opn (w1.heap.size + 1) p1 * (old W * 1))) w3 := h6
                    clear h6
                    have hc := At.cell (i := 2) (v := .bool (p1 2).isSome) h7.pull2 rfl
                    have hf := At.frz h7.pull2
                    go_wp2_with fail
                    go_meet
                    exact ⟨upd p1 2 none, (h7.pull2.set' 2 (.bool false) rfl).pull2⟩
                  · have h7 : At W (tbl w1.heap.size (upd p1 3 none) * (opn (w1.heap.size + 1) p1 * (old W * 1))) w3 := h6
                    clear h6
                    have hc := At.cell (i := 3) (v := .bool (p1 3).isSome) h7.pull2 rfl
                    have hf := At.frz h7.pull2
                    go_wp2_with fail
                    go_meet
                    exact ⟨upd p1 3 none, (h7.pull2.set' 3 (.bool false) rfl).pull2⟩
              case rest =>
                clear h5
                obtain ⟨p2, h6⟩ := hcut
                go_wp2_with fail
                go_loopw [10, 11] (fun x y wx => ∃ j : Nat, 1 ≤ j ∧ j ≤ 4 ∧ y = .int .i64 j ∧ x = .int .i64 (cb p2 j) ∧ At W (tbl w1.heap.size p2 * (opn (w1.heap.size + 1) p2 * (old W * 1))) wx) (fun _ y _ => (4 - intOf y).toNat)
                case atStart => exact ⟨1, by omega, by omega, rfl, rfl, h6⟩
                case round =>
                  obtain ⟨j, hj1, hj4, rfl, rfl, h7⟩ := hrel
                  clear h6
                  have hj : j = 4 ∨ j = 1 ∨ j = 2 ∨ j = 3 := by omega
                  rcases hj with rfl | rfl | rfl | rfl
                  · go_wp2_with fail
                    refine (open_any W _ _ _ p2 h7).mono ?_
                    rintro e1 w4 ⟨rfl, rfl⟩
                    rw [show cb p2 4 = cnt p2 from rfl]
                    go_wp2_with fail
                    go_roundw
                    case rel => exact ⟨k + 1, p2, by omega, by go_num, h7⟩
                    case measure => simp [intOf]; omega
                  · have hc := At.cell (i := 1) (v := .bool (p2 1).isSome) h7.pull2 rfl
                    have hg := fun n => get_any W _ _ _ p2 1 (h7.drewN n)
                    have h8 : ∀ n, At W (tbl w1.heap.size p2 * (opn (w1.heap.size + 1) p2 * (old W * 1))) (wr.drewN n) := fun n => h7.drewN n
                    cases hp : p2 1 with
                    | none =>
                      have hcb : cb p2 2 = cb p2 1 := by simp [cb, hp]
                      have hgo : got p2 1 = none := by simp [got, hp]
                      rw [hgo, ptr_none] at hg
                      rw [hp] at hc
                      have Hcb := hide hcb
                      clear hgo hp hcb h7
                      go_wp2_with fail
                      go_quiet ((go_at_call 12; exact quiet_left (hg _)))
                      go_wp2_with fail
                      go_roundw
                      case rel => exact ⟨2, by omega, by omega, by go_num, by rw [Hcb.out], h8 _⟩
                      case measure => simp [intOf]
                    | some m =>
                      have hcb : cb p2 2 = cb p2 1 + 1 := by simp [cb, hp]
                      have hgo : got p2 1 = some m := by simp [got, hp]
                      rw [hgo, ptr_some] at hg
                      rw [hp] at hc
                      have hle : cb p2 1 ≤ 3 := cb_le p2 1
                      have Hcb := hide hcb
                      clear hgo hp hcb h7
                      go_wp2_with fail
                      go_quiet ((go_at_call 12; exact quiet_left (hg _)))
                      go_wp2_with fail
                      go_roundw
                      case rel => exact ⟨2, by omega, by omega, by go_num, by rw [Hcb.out]; go_num, h8 _⟩
                      case measure => simp [intOf]
                  · have hc := At.cell (i := 2) (v := .bool (p2 2).isSome) h7.pull2 rfl
                    have hg := fun n => get_any W _ _ _ p2 2 (h7.drewN n)
                    have h8 : ∀ n, At W (tbl w1.heap.size p2 * (opn (w1.heap.size + 1) p2 * (old W * 1))) (wr.drewN n) := fun n => h7.drewN n
                    cases hp : p2 2 with
                    | none =>
                      have hcb : cb p2 3 = cb p2 2 := by simp [cb, hp]
                      have hgo : got p2 2 = none := by simp [got, hp]
                      rw [hgo, ptr_none] at hg
                      rw [hp] at hc
                      have Hcb := hide hcb
                      clear hgo hp hcb h7
                      go_wp2_with fail
                      go_quiet ((go_at_call 12; exact quiet_left (hg _)))
                      go_wp2_with fail
                      go_roundw
                      case rel => exact ⟨3, by omega, by omega, by go_num, by rw [Hcb.out], h8 _⟩
                      case measure => simp [intOf]
                    | some m =>
                      have hcb : cb p2 3 = cb p2 2 + 1 := by simp [cb, hp]
                      have hgo : got p2 2 = some m := by simp [got, hp]
                      rw [hgo, ptr_some] at hg
                      rw [hp] at hc
                      have hle : cb p2 2 ≤ 3 := cb_le p2 2
                      have Hcb := hide hcb
                      clear hgo hp hcb h7
                      go_wp2_with fail
                      go_quiet ((go_at_call 12; exact quiet_left (hg _)))
                      go_wp2_with fail
                      go_roundw
                      case rel => exact ⟨3, by omega, by omega, by go_num, by rw [Hcb.out]; go_num, h8 _⟩
                      case measure => simp [intOf]
                  · have hc := At.cell (i := 3) (v := .bool (p2 3).isSome) h7.pull2 rfl
                    have hg := fun n => get_any W _ _ _ p2 3 (h7.drewN n)
                    have h8 : ∀ n, At W (tbl w1.heap.size p2 * (opn (w1.heap.size + 1) p2 * (old W * 1))) (wr.drewN n) := fun n => h7.drewN n
                    cases hp : p2 3 with
                    | none =>
                      have hcb : cb p2 4 = cb p2 3 := by simp [cb, cnt, hp]
                      have hgo : got p2 3 = none := by simp [got, hp]
                      rw [hgo, ptr_none] at hg
                      rw [hp] at hc
                      have Hcb := hide hcb
                      clear hgo hp hcb h7
                      go_wp2_with fail
                      go_quiet ((go_at_call 12; exact quiet_left (hg _)))
                      go_wp2_with fail
                      go_roundw
                      case rel => exact ⟨4, by omega, by omega, by go_num, by rw [Hcb.out], h8 _⟩
                      case measure => simp [intOf]
                    | some m =>
                      have hcb : cb p2 4 = cb p2 3 + 1 := by simp [cb, cnt, hp]
                      have hgo : got p2 3 = some m := by simp [got, hp]
                      rw [hgo, ptr_some] at hg
                      rw [hp] at hc
                      have hle : cb p2 3 ≤ 3 := cb_le p2 3
                      have Hcb := hide hcb
                      clear hgo hp hcb h7
                      go_wp2_with fail
                      go_quiet ((go_at_call 12; exact quiet_left (hg _)))
                      go_wp2_with fail
                      go_roundw
                      case rel => exact ⟨4, by omega, by omega, by go_num, by rw [Hcb.out]; go_num, h8 _⟩
                      case measure => simp [intOf]
          · cases hp : (p 1).isSome
            · have hF := fw_none (j := 0) hp (by decide)
              rw [hp] at hc1
              clear hp
              go_wp2_with fail
              go_round
              case rel => exact ⟨0, by omega, by go_num, by rw [hF]⟩
              case measure => simp [intOf]
            · have hF := fw_some (j := 0) hp (by decide)
              rw [hp] at hc1
              clear hp
              go_wp2_with fail
              go_round
              case rel => exact ⟨0, by omega, by go_num, by rw [hF]⟩
              case measure => simp [intOf]
          · cases hp : (p 2).isSome
            · have hF := fw_none (j := 1) hp (by decide)
              rw [hp] at hc2
              clear hp
              go_wp2_with fail
              go_round
              case rel => exact ⟨1, by omega, by go_num, by rw [hF]⟩
              case measure => simp [intOf]
            · have hF := fw_some (j := 1) hp (by decide)
              rw [hp] at hc2
              clear hp
              go_wp2_with fail
              go_round
              case rel => exact ⟨1, by omega, by go_num, by rw [hF]⟩
              case measure => simp [intOf]
          · cases hp : (p 3).isSome
            · have hF := fw_none (j := 2) hp (by decide)
              rw [hp] at hc3
              clear hp
              go_wp2_with fail
              go_round
              case rel => exact ⟨2, by omega, by go_num, by rw [hF]⟩
              case measure => simp [intOf]
            · have hF := fw_some (j := 2) hp (by decide)
              rw [hp] at hc3
              clear hp
              go_wp2_with fail
              go_round
              case rel => exact ⟨2, by omega, by go_num, by rw [hF]⟩
              case measure => simp [intOf]
      · go_wp2
        go_ret
        exact ⟨rfl, h2.pull3.below⟩
end Go.Proofs.Ytmkcbadcmkhceaa
