/-
  The statement TransApart's walk. Contracts, no statement.
-/
import Derived.Test.YtmkcbadcmkhceaaPp
namespace Go.Proofs.Ytmkcbadcmkhceaa
open Go Go.RowKit

theorem At.row_set {w0 w : World} {R : HP} {e : TypeId} {size : Nat} {g o cp n : Nat} {xs : List Value} (h : At w0 (row e size (.slice (some ⟨g, o, none⟩) n cp) n xs * R) w) (j : Nat) (v : Value) :
    At w0 (row e size (.slice (some ⟨g, o, none⟩) n cp) n (xs.set j v) * R) (w.setCell ⟨g, j, none⟩ v) := by
  rcases h.row_cases.2 with ⟨hv, _⟩ | ⟨g', cap', cur, hv, h1, h2, h3, h4, hat⟩
  · cases hv
  · simp at hv
    obtain ⟨⟨rfl, rfl⟩, rfl⟩ := hv
    refine At.mkrow (hat.set j v) h1 h2 (by simpa using h3) ?_
    rw [Array.toList_setIfInBounds, List.take_set, h4]

theorem At.row_frz {w0 w : World} {R : HP} {e : TypeId} {size : Nat} {g o cp n : Nat} {xs : List Value} (h : At w0 (row e size (.slice (some ⟨g, o, none⟩) n cp) n xs * R) w) (j : Nat) : w.frozen? ⟨g, j, none⟩ = false := by
  rcases h.row_cases.2 with ⟨hv, _⟩ | ⟨g', cap', cur, hv, h1, h2, h3, h4, hat⟩
  · cases hv
  · simp at hv
    obtain ⟨⟨rfl, rfl⟩, rfl⟩ := hv
    exact hat.frz j
theorem chs_three (L : List Ch) (j : Nat) (c : Ch) (hc : L[j]? = some c) : (chs L)[j * 3]? = some (.int .i64 c.p) ∧ (chs L)[j * 3 + 1]? = some (.int .i64 c.s) ∧ (chs L)[j * 3 + 2]? = some (.string c.b) := by
  obtain ⟨hj, rfl⟩ := List.getElem?_eq_some_iff.1 hc
  refine ⟨?_, ?_, ?_⟩
  · have := chs_at L j 0 hj (by decide); simpa [Ch.cells] using this
  · have := chs_at L j 1 hj (by decide); simpa [Ch.cells] using this
  · have := chs_at L j 2 hj (by decide); simpa [Ch.cells] using this
theorem firsts_at (z : Nat → Ch) (n j : Nat) (hj : j < n) : (firsts z n)[j]? = some (z j) := by simp [firsts, hj]

theorem chs_set (l : List Ch) (i : Nat) (c : Ch) (s : Int) (hi : l[i]? = some c) : (chs l).set (i * 3 + 1) (.int .i64 s) = chs (l.set i ⟨c.p, s, c.b⟩) := by
  induction l generalizing i with
  | nil => simp at hi
  | cons x l ih =>
    cases i with
    | zero =>
      simp at hi
      subst hi
      rfl
    | succ i =>
      have e : (i + 1) * 3 + 1 = (i * 3 + 1) + 3 := by omega
      show (x.cells ++ chs l).set ((i + 1) * 3 + 1) _ = x.cells ++ chs (l.set i _)
      rw [e, ← ih i (by simpa using hi)]
      rfl

theorem tabl_two (T Y : Nat) (p : Nat → Option Nat) (d : Nat → Td) (h1 : p 1 = none) (h2 : p 2 = some Y) (h3 : p 3 = none) : tabl T p d = tbl T p * txb Y (d 2).l (d 2).sv (d 2).ops := by
  unfold tabl
  rw [h1, h2, h3]
  show tbl _ _ * (1 * (txb Y _ _ _ * 1)) = _
  rw [HP.mul_one, HP.one_mul]

set_option maxRecDepth 100000 in
set_option maxHeartbeats 8000000 in
theorem apart_walk (W : World) (a : Option Addr) (n cap : Nat) (za : Nat → Ch) (a' : Option Addr) (m cap' : Nat) (zb : Nat → Ch) (hn : n ≤ 9223372036854775807) (hz : Chs W a n za) (hm : m ≤ 9223372036854775807) (hz' : Chs W a' m zb) :
    Calls Try.prog 7 #[.slice a n cap, .slice a' m cap'] W fun e w' => e = .returned (.bool true) ∧ Below W.heap.size W w' := by
  by_cases h60 : (50 : Int) < (n : Int)
  · go_enter Try.func7, Try.ntmps7
    go_wp2_with (go_at_call 9; refine (fit_any W _ _ (At.startR W)).mono ?_; rintro e w1 ⟨rfl, h1⟩)
    go_ret
    exact ⟨rfl, h1.below⟩
  · by_cases h61 : (50 : Int) < (m : Int)
    · go_enter Try.func7, Try.ntmps7
      go_wp2_with (go_at_call 9; refine (fit_any W _ _ (At.startR W)).mono ?_; rintro e w1 ⟨rfl, h1⟩)
      go_ret
      exact ⟨rfl, h1.below⟩
    · have hn50 : n ≤ 50 := by omega
      have hm50 : m ≤ 50 := by omega
      go_enter Try.func7, Try.ntmps7
      go_wp2_with (go_at_call 9; refine (fit_any W _ _ (At.startR W)).mono ?_; rintro e w1 ⟨rfl, h1⟩)
      refine (begin_tx W _ _ _ _ 1 rfl (by decide) h1.tbl_new).mono ?_
      rintro e w2 ⟨rfl, X, h2⟩
      go_wp2_with fail
      refine (get_any W _ _ _ _ 1 h2).mono ?_
      rintro e w3 ⟨rfl, rfl⟩
      rw [show ptr (got (upd (fun _ => none) 1 (some X)) 1) = .pointer (some ⟨X, 0, none⟩) from rfl]
      generalize hT : w1.heap.size = T at h2 ⊢
      go_wp2_with fail
      refine (begin_tx W _ _ _ _ 2 rfl (by decide) h2).mono ?_
      rintro e w4 ⟨rfl, Y, h4⟩
      go_wp2_with fail
      refine (get_any W _ _ _ _ 2 h4).mono ?_
      rintro e w5 ⟨rfl, rfl⟩
      rw [show ptr (got (upd (upd (fun _ => none) 1 (some X)) 2 (some Y)) 2) = .pointer (some ⟨Y, 0, none⟩) from rfl]
      have h5 := h4.cast (show _ = txb X [] [] 0 * (txb Y [] [] 0 * (tbl T (upd (upd (fun _ => none) 1 (some X)) 2 (some Y)) * (old W * 1))) by ac_rfl)
      clear h1 h2 h4
      generalize hp : upd (upd (fun _ => none) 1 (some X)) 2 (some Y) = p at h5
      have Hp := hide hp
      clear hp
      go_upto_region 7 with fail
      go_cut [31, 32] (fun v i wc => ∃ M : Nat, v = .int .i64 M ∧ i = .int .i64 0 ∧ M ≤ 50 ∧ (M = n ∨ M = m) ∧ n ≤ M ∧ m ≤ M ∧ At W (txb X [] [] 0 * (txb Y [] [] 0 * (tbl T p * (old W * 1)))) wc)
      case first =>
        by_cases hnm : n < m
        · go_wp2_with fail
          go_meet
          exact ⟨m, rfl, rfl, hm50, .inr rfl, by omega, Nat.le_refl _, h5⟩
        · go_wp2_with fail
          go_meet
          exact ⟨n, rfl, rfl, hn50, .inl rfl, Nat.le_refl _, by omega, h5⟩
      case rest =>
        obtain ⟨M, rfl, rfl, hM, hMM, hnM, hmM, h6⟩ := hcut
        clear h5
        have HMM := hide hMM
        clear hMM
        go_wp2_with fail
        go_loopw [32] (fun i wr => ∃ (k ka kb : Nat) (oa ob : Int), k ≤ M ∧ i = .int .i64 k ∧ ka = min k n ∧ kb = min k m ∧ 0 ≤ oa ∧ oa ≤ k ∧ 0 ≤ ob ∧ ob ≤ 2 * k ∧ At W (txb X (firsts za ka) [] oa * (txb Y (firsts zb kb) [] ob * (tbl T p * (old W * 1)))) wr) (fun i _ => M - (intOf i).toNat)
        case atStart => exact ⟨0, 0, 0, 0, 0, Nat.zero_le _, rfl, by omega, by omega, by omega, by omega, by omega, by omega, h6⟩
        case round =>
          obtain ⟨k, ka, kb, oa, ob, hk, rfl, hka, hkb, hoa, hoa', hob, hob', h7⟩ := hrel
          clear h6
          by_cases hkM : k < M
          · have Hka := hide hka
            have Hkb := hide hkb
            clear hka hkb
            have hkz : (k : Int) < (M : Int) := by omega
            have Hla := hide (firsts_length za ka)
            have Hlb := hide (firsts_length zb kb)
            by_cases hkn : k < n
            · obtain ⟨b, o, rfl, hc0, hc1, hc2⟩ := hz k hkn
              have hl0 := h7.pull4.old_cell hc0
              have hl1 := h7.pull4.old_cell hc1
              have hl2 := h7.pull4.old_cell hc2
              clear hc0 hc1 hc2
              have hk1 : (k : Int) < (n : Int) := by omega
              have Hfa := hide (show firsts za (min (k + 1) n) = firsts za ka ++ [za k] by rw [Hka.out, show min (k + 1) n = k + 1 by omega, show min k n = k by omega, firsts_succ])
              generalize za k = c at *
              have hal : ka ≤ 50 := by have := Hka.out; omega
              go_wp2_with fail
              refine (push_some W _ _ X _ _ _ c h7 (by rw [Hla.out]; omega) (by omega) (by omega)).mono ?_
              rintro e8 w8 ⟨rfl, h8⟩
              clear hl0 hl1 hl2
              by_cases hkm : k < m
              · have hk2 : (k : Int) < (m : Int) := by omega
                obtain ⟨b2, o2, rfl, hd0, hd1, hd2⟩ := hz' k hkm
                have hm0 := h8.pull4.old_cell hd0
                have hm1 := h8.pull4.old_cell hd1
                have hm2 := h8.pull4.old_cell hd2
                have Hfb := hide (show firsts zb (min (k + 1) m) = firsts zb kb ++ [zb k] by rw [Hkb.out, show min (k + 1) m = k + 1 by omega, show min k m = k by omega, firsts_succ])
                generalize zb k = c2 at *
                have HD := hide (And.intro hd0 (And.intro hd1 hd2))
                clear hd0 hd1 hd2
                have hbl : kb ≤ 50 := by have := Hkb.out; omega
                go_wp2_with fail
                refine (push_some W _ _ Y _ _ _ c2 h8.pull2 (by rw [Hlb.out]; omega) (by omega) (by omega)).mono ?_
                rintro e9 w9 ⟨rfl, h9⟩
                go_wp2_with fail
                refine (pop_some W _ _ Y _ c2 _ _ h9 (by rw [Hlb.out]; omega)).mono ?_
                rintro e10 w10 ⟨rfl, h10⟩
                have hn0 := h10.pull4.old_cell (show W.cell? ⟨b2, o2 + k * 3, none⟩ = _ from HD.out.1)
                have hn1 := h10.pull4.old_cell HD.out.2.1
                have hn2 := h10.pull4.old_cell HD.out.2.2
                go_wp2_with fail
                refine (push_some W _ _ Y _ _ _ c2 h10 (by rw [Hlb.out]; omega) (by omega) (by omega)).mono ?_
                rintro e11 w11 ⟨rfl, h11⟩
                go_wp2_with fail
                go_roundw
                case rel => exact ⟨k + 1, min (k + 1) n, min (k + 1) m, oa + 1, ob + 1 + 1, by omega, by go_num, rfl, rfl, by omega, by omega, by omega, by omega, by rw [Hfa.out, Hfb.out]; exact h11.pull2⟩
                case measure => simp [intOf]; omega
              · have hk2 : (m : Int) ≤ (k : Int) := by omega
                go_wp2_with fail
                go_roundw
                case rel => exact ⟨k + 1, min (k + 1) n, kb, oa + 1, ob, by omega, by go_num, rfl, by rw [Hkb.out]; omega, by omega, by omega, by omega, by omega, by rw [Hfa.out]; exact h8⟩
                case measure => simp [intOf]; omega
            · have hk1 : (n : Int) ≤ (k : Int) := by omega
              have hkm : k < m := by have := HMM.out; omega
              have hk2 : (k : Int) < (m : Int) := by omega
              obtain ⟨b2, o2, rfl, hd0, hd1, hd2⟩ := hz' k hkm
              have hm0 := h7.pull4.old_cell hd0
              have hm1 := h7.pull4.old_cell hd1
              have hm2 := h7.pull4.old_cell hd2
              have Hfb := hide (show firsts zb (min (k + 1) m) = firsts zb kb ++ [zb k] by rw [Hkb.out, show min (k + 1) m = k + 1 by omega, show min k m = k by omega, firsts_succ])
              generalize zb k = c2 at *
              have HD := hide (And.intro hd0 (And.intro hd1 hd2))
              clear hd0 hd1 hd2
              have hbl : kb ≤ 50 := by have := Hkb.out; omega
              go_wp2_with fail
              refine (push_some W _ _ Y _ _ _ c2 h7.pull2 (by rw [Hlb.out]; omega) (by omega) (by omega)).mono ?_
              rintro e9 w9 ⟨rfl, h9⟩
              go_wp2_with fail
              refine (pop_some W _ _ Y _ c2 _ _ h9 (by rw [Hlb.out]; omega)).mono ?_
              rintro e10 w10 ⟨rfl, h10⟩
              have hn0 := h10.pull4.old_cell (show W.cell? ⟨b2, o2 + k * 3, none⟩ = _ from HD.out.1)
              have hn1 := h10.pull4.old_cell HD.out.2.1
              have hn2 := h10.pull4.old_cell HD.out.2.2
              go_wp2_with fail
              refine (push_some W _ _ Y _ _ _ c2 h10 (by rw [Hlb.out]; omega) (by omega) (by omega)).mono ?_
              rintro e11 w11 ⟨rfl, h11⟩
              go_wp2_with fail
              go_roundw
              case rel => exact ⟨k + 1, ka, min (k + 1) m, oa, ob + 1 + 1, by omega, by go_num, by rw [Hka.out]; omega, rfl, by omega, by omega, by omega, by omega, by rw [Hfb.out]; exact h11.pull2⟩
              case measure => simp [intOf]; omega
          · obtain rfl : k = M := by omega
            have hka' : ka = n := by omega
            have hkb' : kb = m := by omega
            subst hka'
            subst hkb'
            clear hka hkb hkM hk
            have Hla := hide (firsts_length za ka)
            have Hlb := hide (firsts_length zb kb)
            go_wp2_with fail
            refine (list_some W _ _ X _ _ _ h7 (by rw [Hla.out]; omega)).mono ?_
            rintro e8 w8 ⟨a8, c8, rfl, h8⟩
            rw [Hla.out] at h8 ⊢
            clear h7
            go_wp2_with fail
            obtain ⟨wo, rfl⟩ : ∃ wo : World, wo = wr := ⟨_, rfl⟩
            go_loopw [68] (fun i wx => ∃ (j : Nat) (L : List Ch), j ≤ ka ∧ i = .int .i64 j ∧ L.length = ka ∧ (∀ q, j ≤ q → q < ka → L[q]? = some (za q)) ∧
              At W (row 36 3 (.slice a8 ka c8) ka (chs L) * (txb X (firsts za ka) [] oa * (txb Y (firsts zb kb) [] ob * (tbl T p * (old W * 1))))) wx) (fun i _ => ka - (intOf i).toNat)
            case atStart => exact ⟨0, _, Nat.zero_le _, rfl, Hla.out, fun q _ hq => firsts_at za ka q hq, h8⟩
            case round =>
              obtain ⟨j, L, hj, rfl, hL, hLq, h9⟩ := hrel
              clear h8
              have HL := hide hL
              have HLq := hide hLq
              clear hL hLq
              by_cases hjk : j < ka
              · obtain ⟨b, o, rfl, hc0, hc1, hc2⟩ := hz j hjk
                have hjz : (j : Int) < (ka : Int) := by omega
                have hl0 := h9.pull5.old_cell hc0
                have hl1 := h9.pull5.old_cell hc1
                have hl2 := h9.pull5.old_cell hc2
                clear hc0 hc1 hc2
                obtain ⟨g, cp9, hv, hle, hcell⟩ := h9.row_ptr (by omega)
                simp at hv
                obtain ⟨rfl, rfl⟩ := hv
                have hLj := HLq.out j (Nat.le_refl _) hjk
                generalize za j = c at *
                obtain ⟨hx0, hx1, hx2⟩ := chs_three L j c hLj
                have hg0 := hcell _ _ hx0
                have hg1 := hcell _ _ hx1
                have hg2 := hcell _ _ hx2
                have hfz := h9.row_frz (j * 3 + 1)
                have HLj := hide hLj
                clear hcell hx0 hx1 hx2 hLj
                go_wp2_with fail
                refine wp_region_line [0, 1, 2, 3, 4, 5, 6, 7, 8] rfl (by kernel_rfl) ?_
                simp only [picks_cons, picks_nil, getD_zero, getD_succ]
                go_wp2_with fail
                refine ⟨by kernel_rfl, ?_⟩
                go_wp2_with fail
                go_roundw
                case rel => exact ⟨j + 1, L.set j ⟨c.p, wrap64 (c.s + 9), c.b⟩, by omega, by go_num, by simpa using HL.out, fun q hq hq2 => by rw [List.getElem?_set_ne (by omega)]; exact HLq.out q (by omega) hq2, by rw [← chs_set L j c _ HLj.out]; exact (h9.drew).row_set _ _⟩
                case measure => simp [intOf]; omega
              · have hjz : (ka : Int) ≤ (j : Int) := by omega
                have h10 := h9.r
                clear h9
                go_wp2_with fail
                refine (list_some W _ _ X _ _ _ h10 (by rw [Hla.out]; omega)).mono ?_
                rintro e11 w11 ⟨a9, c9, rfl, h11⟩
                rw [Hla.out] at h11 ⊢
                clear h10
                go_wp2_with fail
                obtain ⟨wo2, rfl⟩ : ∃ wo : World, wo = wr := ⟨_, rfl⟩
                go_loopw [92] (fun i wy => ∃ (i3 : Nat), i3 ≤ ka ∧ i = .int .i64 i3 ∧
                  At W (row 36 3 (.slice a9 ka c9) ka (chs (firsts za ka)) * (txb X (firsts za ka) [] oa * (txb Y (firsts zb kb) [] ob * (tbl T p * (old W * 1))))) wy) (fun i _ => ka - (intOf i).toNat)
                case atStart => exact ⟨0, Nat.zero_le _, rfl, h11⟩
                case round =>
                  obtain ⟨i3, hi3, rfl, h12⟩ := hrel
                  clear h11
                  by_cases hik : i3 < ka
                  · obtain ⟨b, o, rfl, hc0, hc1, hc2⟩ := hz i3 hik
                    have hiz : (i3 : Int) < (ka : Int) := by omega
                    obtain ⟨g, cp9, hv, hle, hcell⟩ := h12.row_ptr (by omega)
                    simp at hv
                    obtain ⟨rfl, rfl⟩ := hv
                    have hLj := firsts_at za ka i3 hik
                    obtain ⟨hx0, hx1, hx2⟩ := chs_three _ i3 _ hLj
                    have hg0 := hcell _ _ hx0
                    have hg1 := hcell _ _ hx1
                    have hg2 := hcell _ _ hx2
                    have h13 := h12.alloc (.cells #[.int .i64 (za i3).p, .int .i64 (za i3).s, .string (za i3).b] 36)
                    have hl0 := h13.pull6.old_cell hc0
                    have hl1 := h13.pull6.old_cell hc1
                    have hl2 := h13.pull6.old_cell hc2
                    clear hcell hx0 hx1 hx2 hLj hc0 hc1 hc2 h12
                    generalize za i3 = c at *
                    go_wp2_with fail
                    refine wp_region_line [0, 1, 2, 3, 4, 5] rfl (by kernel_rfl) ?_
                    simp only [picks_cons, picks_nil, getD_zero, getD_succ]
                    go_wp2_with fail
                    refine ⟨by kernel_rfl, ?_⟩
                    go_wp2_with fail
                    go_roundw
                    case rel => exact ⟨i3 + 1, by omega, by go_num, h13.drew.r⟩
                    case measure => simp [intOf]; omega
                  · have hiz : (ka : Int) ≤ (i3 : Int) := by omega
                    have h13 := h12.r.pull3
                    clear h12
                    go_wp2_with fail
                    refine (end_any W _ _ T p 1 h13).mono ?_
                    rintro e14 w14 ⟨rfl, h14⟩
                    rw [if_pos (by decide)] at h14
                    have q1 : upd p (Int.toNat 1) none 1 = none := rfl
                    have q2 : upd p (Int.toNat 1) none 2 = some Y := by rw [← Hp.out]; rfl
                    have q3 : upd p (Int.toNat 1) none 3 = none := by rw [← Hp.out]; rfl
                    generalize upd p (Int.toNat 1) none = p' at *
                    have Q := hide (And.intro q1 (And.intro q2 q3))
                    clear q1 q2 q3 h13
                    go_wp2_with fail
                    refine (get_any W _ _ T p' 2 h14).mono ?_
                    rintro e15 w15 ⟨rfl, rfl⟩
                    rw [show ptr (got p' 2) = .pointer (some ⟨Y, 0, none⟩) by rw [show got p' 2 = p' 2 from rfl, Q.out.2.1]; rfl]
                    go_wp2_with fail
                    refine (len_some W _ _ Y _ _ _ h14.pull3).mono ?_
                    rintro e16 w16 ⟨rfl, rfl⟩
                    rw [Hlb.out]
                    go_wp2_with fail
                    refine (changes_any W _ (txb X (firsts za ka) [] oa * (old W * 1)) T p' (fun _ => ⟨firsts zb kb, [], ob⟩) (by
                      rw [show tot p' (fun _ => ⟨firsts zb kb, [], ob⟩) = kb by simp [tot, totOf, opens, opensTo, one, Q.out.1, Q.out.2.1, Q.out.2.2, Hlb.out]]; omega) (h14.cast (by rw [tabl_two T Y p' _ Q.out.1 Q.out.2.1 Q.out.2.2]; ac_rfl))).mono ?_
                    rintro e17 w17 ⟨rfl, h17⟩
                    rw [show tot p' (fun _ => ⟨firsts zb kb, [], ob⟩) = kb by simp [tot, totOf, opens, opensTo, one, Q.out.1, Q.out.2.1, Q.out.2.2, Hlb.out]]
                    rw [tabl_two T Y p' _ Q.out.1 Q.out.2.1 Q.out.2.2] at h17
                    have h18 := h17.assoc
                    clear h14 h17
                    go_wp2_with fail
                    refine (get_any W _ _ T p' 1 h18).mono ?_
                    rintro e19 w19 ⟨rfl, rfl⟩
                    rw [show ptr (got p' 1) = .pointer none by rw [show got p' 1 = p' 1 from rfl, Q.out.1]; rfl]
                    go_wp2_with fail
                    refine (get_any W _ _ T p' 0 h18).mono ?_
                    rintro e20 w20 ⟨rfl, rfl⟩
                    rw [show ptr (got p' 0) = .pointer none from rfl]
                    go_wp2_with fail
                    refine (get_any W _ _ T p' 9 h18).mono ?_
                    rintro e21 w21 ⟨rfl, rfl⟩
                    rw [show ptr (got p' 9) = .pointer none from rfl]
                    go_wp2
                    go_ret
                    exact ⟨by simp, h18.pull4.below⟩
end Go.Proofs.Ytmkcbadcmkhceaa
