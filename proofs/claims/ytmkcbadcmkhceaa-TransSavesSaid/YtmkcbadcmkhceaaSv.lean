/-
  The statement TransSaves' walk. Contracts, no statement.
-/
import Derived.Test.YtmkcbadcmkhceaaTf
import Derived.Test.YtmkcbadcmkhceaaTr3
import Derived.Deep.DeepCutAuto
namespace Go.Proofs.Ytmkcbadcmkhceaa
open Go Go.RowKit

theorem and3 (x : Int) : 0 ≤ bits .and .i64 x 3 ∧ bits .and .i64 x 3 ≤ 3 := by
  show 0 ≤ IntKind.i64.wrap ((BitVec.ofInt 64 x &&& BitVec.ofInt 64 3).toNat : Int) ∧ IntKind.i64.wrap ((BitVec.ofInt 64 x &&& BitVec.ofInt 64 3).toNat : Int) ≤ 3
  have h : (BitVec.ofInt 64 x &&& BitVec.ofInt 64 3).toNat ≤ 3 := by
    rw [BitVec.toNat_and]
    exact Nat.and_le_right
  rw [IntWalk.i64_in _ (by omega)]
  omega

/-- The numbers of a slice that came in can be read. -/
def Ints (W : World) (a : Option Addr) (n : Nat) (z : Nat → Int) : Prop := ∀ i, i < n → ∃ b o, a = some ⟨b, o, none⟩ ∧ W.cell? ⟨b, o + i, none⟩ = some (.int .i64 (z i))

set_option maxHeartbeats 4000000 in
theorem saves_walk (W : World) (a : Option Addr) (n cap : Nat) (z : Nat → Int) (back : Int) (hn : n ≤ 9223372036854775807) (hz : Ints W a n z)
    (hb1 : -9223372036854775808 ≤ back) (hb2 : back ≤ 9223372036854775807) :
    Calls Try.prog 4 #[.slice a n cap, .int .i64 back] W fun e w' => e = .returned (.bool true) ∧ Below W.heap.size W w' := by
  by_cases h60 : (10 : Int) < (n : Int)
  · go_enter Try.func4, Try.ntmps4
    go_wp2_with (go_at_call 9; refine (fit_any W _ _ (At.startR W)).mono ?_; rintro e w1 ⟨rfl, h1⟩)
    go_ret
    exact ⟨rfl, h1.below⟩
  · go_enter Try.func4, Try.ntmps4
    go_wp2_with (go_at_call 9; refine (fit_any W _ _ (At.startR W)).mono ?_; rintro e w1 ⟨rfl, h1⟩)
    refine (begin_tx W _ _ _ _ 1 rfl (by decide) h1.tbl_new).mono ?_
    rintro e w2 ⟨rfl, X, h2⟩
    go_wp2_with fail
    refine (get_any W _ _ _ _ 1 h2).mono ?_
    rintro e w3 ⟨rfl, rfl⟩
    rw [show ptr (got (upd (fun _ => none) 1 (some X)) 1) = .pointer (some ⟨X, 0, none⟩) from rfl]
    have h3 : At W (txb X [] [] 0 * (row 3 1 (.slice none 0 0) 0 [] * (old W * 1))) w2 := (h2.r.row_nil _ _).pull2
    clear h1 h2
    obtain ⟨i0, hi, hz0, hz1, hz2⟩ := info_parts Try.infoInt
    go_wp2_with fail
    go_loopw [7, 8, 27] (fun at_ nn i wr => ∃ (k : Nat) (sv : List Int) (l : List Ch) (ar : Option Addr) (cp : Nat), k ≤ n ∧ i = .int .i64 k ∧ nn = .int .i64 l.length ∧ at_ = .slice ar sv.length cp ∧ sv.length = min k 4 ∧ l.length ≤ 3 * k ∧
      At W (txb X l sv l.length * (row 3 1 (.slice ar sv.length cp) sv.length (sv.map (.int .i64)) * (old W * 1))) wr) (fun _ _ i _ => n - (intOf i).toNat)
    case atStart => exact ⟨0, [], [], none, 0, Nat.zero_le _, rfl, rfl, rfl, rfl, Nat.le_refl _, h3⟩
    case round =>
      obtain ⟨k, sv, l, ar, cp, hk, rfl, rfl, rfl, hsv, hl, h4⟩ := hrel
      clear h3
      have Hsv := hide hsv
      clear hsv
      by_cases hkn : k < n
      · obtain ⟨b, o, rfl, hcell⟩ := hz k hkn
        have hcell' := h4.pull3.old_cell hcell
        clear hcell
        have hkz : (k : Int) < (n : Int) := by omega
        generalize z k = e at *
        go_wp2_with fail
        have hq := and3 e
        generalize bits .and .i64 e 3 = q at *
        obtain ⟨hq0, hq3⟩ := hq
        clear hcell'
        obtain ⟨wo, rfl⟩ : ∃ wo : World, wo = wr := ⟨_, rfl⟩
        go_loopw [8, 34] (fun nn i wx => ∃ (j : Nat) (l' : List Ch), (j : Int) ≤ q ∧ i = .int .i64 j ∧ nn = .int .i64 l'.length ∧ l'.length = l.length + j ∧
          At W (txb X l' sv l'.length * (row 3 1 (.slice ar sv.length cp) sv.length (sv.map (.int .i64)) * (old W * 1))) wx) (fun _ i _ => (q - intOf i).toNat)
        case atStart => exact ⟨0, l, by omega, rfl, rfl, rfl, h4⟩
        case round =>
          obtain ⟨j, l', hj, rfl, rfl, hl', h5⟩ := hrel
          clear h4
          have Hl' := hide hl'
          clear hl'
          by_cases hjq : (j : Int) < q
          · have hb5 : l'.length ≤ 1000 := by have := Hl'.out; omega
            go_wp2_with fail
            refine (push_some W _ _ X l' sv _ ⟨0, k, ⟨#[]⟩⟩ h5 hb5 (by omega) (by omega)).mono ?_
            rintro e5 w5 ⟨rfl, h6⟩
            go_wp2_with fail
            go_roundw
            case rel => exact ⟨j + 1, l' ++ [⟨0, k, ⟨#[]⟩⟩], by omega, by go_num, by rw [List.length_append]; rfl, by have := Hl'.out; rw [List.length_append]; simp; omega, by rw [List.length_append]; exact h6⟩
            case measure => simp [intOf]; omega
          · have hb5 : l'.length ≤ 1000 := by have := Hl'.out; omega
            have hl2 : l'.length ≤ 3 * (k + 1) := by have := Hl'.out; omega
            by_cases hk4 : k < 4
            · have hk4' : ¬ (4 : Int) ≤ (k : Int) := by omega
              have Hs := hide (show sv.length = k by have := Hsv.out; omega)
              have hs4 : sv.length < 4 := by have := Hs.out; omega
              go_wp2_with (at_builtin; go_loud (refine wpList_append_row rfl _ _ _ rfl 3 i0 _ 1 8 Try.underlying22 hi hz0 hz1 hz2 rfl (by decide) _ _ _ rfl (h5.alloc _).pull3 _ 1 1 [.int .i64 l'.length] rfl rfl (fun j u hu => new_cells rfl j u hu) (one_cells1 rfl) (by unfold maxLen; omega) (by omega) ?_))
              intro a6 c6 w6 h6
              go_wp2_with fail
              refine (save_some W _ _ X l' sv _ h6.pull3 hs4).mono ?_
              rintro e7 w7 ⟨rfl, h7⟩
              rw [Hs.out]
              go_wp2_with fail
              go_roundw
              case rel => exact ⟨k + 1, sv ++ [(l'.length : Int)], l', a6, c6, by omega, by go_num, rfl, by rw [List.length_append, Hs.out]; rfl, by rw [List.length_append, Hs.out]; simp; omega, hl2, by rw [List.length_append, List.map_append]; exact h7.pull3.r⟩
              case measure => simp [intOf]; omega
            · have hk4' : (4 : Int) ≤ (k : Int) := by omega
              have hs4 : sv.length = 4 := by have := Hsv.out; omega
              have Hs := hide hs4
              clear hs4
              go_wp2_with fail
              refine (save_full W _ _ X l' sv _ h5 Hs.out).mono ?_
              rintro e7 w7 ⟨rfl, rfl⟩
              go_wp2_with fail
              go_roundw
              case rel => exact ⟨k + 1, sv, l', ar, cp, by omega, by go_num, rfl, rfl, by rw [Hs.out]; omega, hl2, h5⟩
              case measure => simp [intOf]; omega
      · have hkn' : (n : Int) ≤ (k : Int) := by omega
        have hs4 : sv.length ≤ 4 := by have := Hsv.out; omega
        by_cases hb : 1 ≤ back ∧ back ≤ sv.length
        · obtain ⟨hb3, hb4⟩ := hb
          obtain ⟨m, rfl⟩ : ∃ m : Nat, back = (m : Int) + 1 := ⟨(back - 1).toNat, by omega⟩
          have hm : m < sv.length := by omega
          obtain ⟨g, cp', hv, hle, hcell⟩ := h4.pull2.row_ptr (by omega)
          simp at hv
          obtain ⟨rfl, rfl⟩ := hv
          clear hcell
          have ht : (sv.take ((m : Int) + 1).toNat).length = m + 1 := by simp; omega
          go_wp2_with fail
          refine (back_yes W _ _ X l sv _ _ h4 hb3 hb4 hs4).mono ?_
          rintro e5 w5 ⟨rfl, h5⟩
          have hd : sv.getD ((m : Int) + 1 - 1).toNat 0 = sv[m] := by simp [hm]
          rw [hd]
          go_wp2_with fail
          refine (back_no W _ _ X l _ _ _ h5 (by rw [ht]; omega)).mono ?_
          rintro e6 w6 ⟨rfl, rfl⟩
          go_wp2_with fail
          refine (back_yes W _ _ X l _ _ _ h5 hb3 (by rw [ht]; omega) (by rw [ht]; omega)).mono ?_
          rintro e7 w7 ⟨rfl, h7⟩
          have hel := (h7.pull2.row_cell rfl (j := m) (u := .int .i64 sv[m]) (by simp [hm])).2
          have ht2 : ((sv.take ((m : Int) + 1).toNat).take ((m : Int) + 1).toNat).length = m + 1 := by simp; omega
          generalize (sv.take ((m : Int) + 1).toNat).take ((m : Int) + 1).toNat = sv2 at *
          generalize (sv.take ((m : Int) + 1).toNat).getD ((m : Int) + 1 - 1).toNat 0 = d2 at *
          have Ht2 := hide ht2
          clear hd ht ht2 h4 h5
          generalize sv[m] = d at *
          by_cases hm4 : m = 3
          · subst hm4
            go_wp2
            go_ret
            exact ⟨rfl, h7.pull3.below⟩
          · have hm4' : ((m : Int) + 1 == 4) = false := by rw [beq_eq_false_iff_ne]; omega
            go_wp2_with fail
            refine (save_some W _ _ X l sv2 _ h7 (by have := Ht2.out; omega)).mono ?_
            rintro e8 w8 ⟨rfl, h8⟩
            rw [Ht2.out]
            go_wp2
            go_ret
            exact ⟨by simp, h8.pull3.below⟩
        · go_wp2_with fail
          refine (back_no W _ _ X l sv _ back h4 hb).mono ?_
          rintro e5 w5 ⟨rfl, rfl⟩
          by_cases hb3 : 1 ≤ back
          · have hb4 : (sv.length : Int) < back := by omega
            go_wp2
            go_ret
            exact ⟨rfl, h4.pull3.below⟩
          · go_wp2
            go_ret
            exact ⟨rfl, h4.pull3.below⟩
end Go.Proofs.Ytmkcbadcmkhceaa
