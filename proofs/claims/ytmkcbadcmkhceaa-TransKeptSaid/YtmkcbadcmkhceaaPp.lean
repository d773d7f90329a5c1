/-
  The statement TransPops' walk. Contracts, no statement.
-/
import Derived.Test.YtmkcbadcmkhceaaTf
import Derived.Test.YtmkcbadcmkhceaaCg
import Derived.Deep.DeepCutAuto
namespace Go.Proofs.Ytmkcbadcmkhceaa
open Go Go.RowKit

/-- The changes of a slice that came in can be read. -/
def Chs (W : World) (a : Option Addr) (n : Nat) (z : Nat → Ch) : Prop := ∀ i, i < n → ∃ b o, a = some ⟨b, o, none⟩ ∧
  W.cell? ⟨b, o + i * 3, none⟩ = some (.int .i64 (z i).p) ∧ W.cell? ⟨b, o + i * 3 + 1, none⟩ = some (.int .i64 (z i).s) ∧ W.cell? ⟨b, o + i * 3 + 2, none⟩ = some (.string (z i).b)
/-- The first k of them. -/
def firsts (z : Nat → Ch) (k : Nat) : List Ch := (List.range k).map z
theorem firsts_succ (z : Nat → Ch) (k : Nat) : firsts z (k + 1) = firsts z k ++ [z k] := by simp [firsts, List.range_succ]
theorem firsts_length (z : Nat → Ch) (k : Nat) : (firsts z k).length = k := by simp [firsts]

theorem tabl_one (T X : Nat) (d : Nat → Td) : tabl T (upd (fun _ => none) 1 (some X)) d = tbl T (upd (fun _ => none) 1 (some X)) * txb X (d 1).l (d 1).sv (d 1).ops := by
  show tbl _ _ * (txb X _ _ _ * (1 * 1)) = _
  rw [HP.mul_one, HP.mul_one]
theorem tot_one (X : Nat) (d : Nat → Td) : tot (upd (fun _ => none) 1 (some X)) d = (d 1).l.length := by simp [tot, totOf, opens, opensTo, one, upd]
/-- Changes, where one transaction is open. -/
theorem changes_one (w0 w : World) (R : HP) (T X : Nat) (l : List Ch) (sv : List Int) (ops : Int) (hl : l.length ≤ 1000) (h : At w0 (txb X l sv ops * (tbl T (upd (fun _ => none) 1 (some X)) * R)) w) :
    Calls Try.prog 20 #[.pointer (some ⟨T, 0, none⟩)] w fun e w' => e = .returned (.int .i64 l.length) ∧ At w0 (txb X l sv ops * (tbl T (upd (fun _ => none) 1 (some X)) * R)) w' := by
  refine (changes_any w0 w R T (upd (fun _ => none) 1 (some X)) (fun _ => ⟨l, sv, ops⟩) (by rw [tot_one]; show l.length ≤ _; omega) (h.cast (by rw [tabl_one]; ac_rfl))).mono ?_
  rintro e w' ⟨he, h'⟩
  rw [tot_one] at he
  exact ⟨he, h'.cast (by rw [tabl_one]; ac_rfl)⟩

set_option maxHeartbeats 4000000 in
theorem pops_walk (W : World) (a : Option Addr) (n cap : Nat) (z : Nat → Ch) (hn : n ≤ 9223372036854775807) (hz : Chs W a n z) :
    Calls Try.prog 5 #[.slice a n cap] W fun e w' => e = .returned (.bool true) ∧ Below W.heap.size W w' := by
  by_cases h60 : (100 : Int) < (n : Int)
  · go_enter Try.func5, Try.ntmps5
    go_wp2_with (go_at_call 9; refine (fit_any W _ _ (At.startR W)).mono ?_; rintro e w1 ⟨rfl, h1⟩)
    go_ret
    exact ⟨rfl, h1.below⟩
  · have hn100 : n ≤ 100 := by omega
    go_enter Try.func5, Try.ntmps5
    go_wp2_with (go_at_call 9; refine (fit_any W _ _ (At.startR W)).mono ?_; rintro e w1 ⟨rfl, h1⟩)
    refine (begin_tx W _ _ _ _ 1 rfl (by decide) h1.tbl_new).mono ?_
    rintro e w2 ⟨rfl, X, h2⟩
    go_wp2_with fail
    refine (get_any W _ _ _ _ 1 h2).mono ?_
    rintro e w3 ⟨rfl, rfl⟩
    rw [show ptr (got (upd (fun _ => none) 1 (some X)) 1) = .pointer (some ⟨X, 0, none⟩) from rfl]
    generalize hT : w1.heap.size = T at h2 ⊢
    have h3 := h2.pull2
    clear h1 h2
    go_wp2_with fail
    go_loopw [21] (fun i wr => ∃ k : Nat, k ≤ n ∧ i = .int .i64 k ∧ At W (txb X (firsts z k) [] k * (tbl T (upd (fun _ => none) 1 (some X)) * (old W * 1))) wr) (fun i _ => n - (intOf i).toNat)
    case atStart => exact ⟨0, Nat.zero_le _, rfl, h3⟩
    case round =>
      obtain ⟨k, hk, rfl, h4⟩ := hrel
      clear h3
      by_cases hkn : k < n
      · obtain ⟨b, o, rfl, hc0, hc1, hc2⟩ := hz k hkn
        have hl0 := h4.pull3.old_cell hc0
        have hl1 := h4.pull3.old_cell hc1
        have hl2 := h4.pull3.old_cell hc2
        clear hc0 hc1 hc2
        have hkz : (k : Int) < (n : Int) := by omega
        have Hf := hide (firsts_succ z k)
        have Hl := hide (firsts_length z k)
        generalize z k = c at *
        by_cases hb : (100 : Int) < (c.b.size : Int)
        · go_wp2_with fail
          go_ret
          exact ⟨rfl, (h4.alloc _).pull4.below⟩
        · go_wp2_with fail
          refine (full_some W _ _ X _ _ _ (h4.alloc _).pull2).mono ?_
          rintro e5 w5 ⟨rfl, rfl⟩
          go_wp2_with fail
          · refine (push_some W _ _ X _ _ _ c (h4.alloc _).pull2 (by rw [Hl.out]; omega) (by omega) (by omega)).mono ?_
            rintro e6 w6 ⟨rfl, h6⟩
            go_wp2_with fail
            go_roundw
            case rel => exact ⟨k + 1, by omega, by go_num, by rw [Hf.out]; exact (h6.pull2.r.cast (by ac_rfl))⟩
            case measure => simp [intOf]; omega
      · have hkn' : (n : Int) ≤ (k : Int) := by omega
        obtain rfl : k = n := by omega
        clear hkn
        obtain ⟨nn, hnn⟩ : ∃ nn, nn = k := ⟨_, rfl⟩
        rw [← hnn] at h4
        clear h60 hk hkn'
        go_wp2_with fail
        obtain ⟨wo, rfl⟩ : ∃ wo : World, wo = wr := ⟨_, rfl⟩
        go_loopw [7] (fun i wx => ∃ m : Nat, m ≤ k ∧ i = .int .i64 ((m : Int) - 1) ∧ At W (txb X (firsts z m) [] nn * (tbl T (upd (fun _ => none) 1 (some X)) * (old W * 1))) wx) (fun i _ => (intOf i + 1).toNat)
        case atStart => exact ⟨k, Nat.le_refl _, rfl, hnn ▸ h4⟩
        case round =>
          obtain ⟨m, hm, rfl, h5⟩ := hrel
          clear h4
          cases m with
          | zero =>
            go_wp2_with fail
            refine (pop_empty W _ _ X _ _ h5).mono ?_
            rintro e6 w6 ⟨rfl, h6⟩
            go_wp2_with fail
            refine (full_some W _ _ X _ _ _ (h6.alloc _).pull2).mono ?_
            rintro e7 w7 ⟨rfl, rfl⟩
            go_wp2_with fail
            go_ret
            exact ⟨by simp, (h6.alloc _).pull4.below⟩
          | succ m =>
            obtain ⟨b, o, rfl, hc0, hc1, hc2⟩ := hz m hm
            rw [firsts_succ] at h5
            rw [show ((m + 1 : Nat) : Int) - 1 = (m : Int) by omega]
            have Hl := hide (firsts_length z m)
            generalize z m = c at *
            go_wp2_with fail
            refine (pop_some W _ _ X _ c _ _ h5 (by rw [Hl.out]; omega)).mono ?_
            rintro e6 w6 ⟨rfl, h6⟩
            have h7 := h6.alloc (.cells #[.int .i64 c.p, .int .i64 c.s, .string c.b] 36)
            have hl0 := h7.pull4.old_cell hc0
            have hl1 := h7.pull4.old_cell hc1
            have hl2 := h7.pull4.old_cell hc2
            clear hc0 hc1 hc2 h5 h6
            go_wp2_with fail
            refine wp_region_line [0,1,2,3,4,5,6,7,8,9,10,11,13,12,14,15,16,18,17,19,20] rfl (by kernel_rfl) ?_
            simp only [picks_cons, picks_nil, getD_zero, getD_succ]
            go_wp2_with fail
            refine (len_some W _ _ X _ _ _ h7.drew.pull2).mono ?_
            rintro e8 w8 ⟨rfl, rfl⟩
            rw [Hl.out]
            go_wp2_with fail
            refine (changes_one W _ _ T X _ _ _ (by rw [Hl.out]; omega) (h7.drew.cast (show _ = txb X (firsts z m) [] nn * (tbl T (upd (fun _ => none) 1 (some X)) * (pt w6.heap.size (.cells #[.int .i64 c.p, .int .i64 c.s, .string c.b] 36) * (old W * 1))) by ac_rfl))).mono ?_
            rintro e9 w9 ⟨rfl, h9⟩
            rw [Hl.out]
            go_wp2_with fail
            refine ⟨by kernel_rfl, ?_⟩
            go_wp2_with fail
            go_roundw
            case rel => exact ⟨m, by omega, rfl, h9.cast (show _ = pt w6.heap.size (.cells #[.int .i64 c.p, .int .i64 c.s, .string c.b] 36) * (txb X (firsts z m) [] nn * (tbl T (upd (fun _ => none) 1 (some X)) * (old W * 1))) by ac_rfl) |>.r⟩
            case measure => simp [intOf]
end Go.Proofs.Ytmkcbadcmkhceaa
