/-
  The statement TransKept's walk. Contracts, no statement.
-/
import Derived.Test.YtmkcbadcmkhceaaAp
import Derived.Test.YtmkcbadcmkhceaaKp
import Derived.Test.YtmkcbadcmkhceaaLd
import Derived.Test.YtmkcbadcmkhceaaMp
namespace Go.Proofs.Ytmkcbadcmkhceaa
open Go Go.RowKit Go.Maps

theorem and3k (x : Int) : 0 ≤ bits .and .i64 x 3 ∧ bits .and .i64 x 3 ≤ 3 := by
  show 0 ≤ IntKind.i64.wrap ((BitVec.ofInt 64 x &&& BitVec.ofInt 64 3).toNat : Int) ∧ IntKind.i64.wrap ((BitVec.ofInt 64 x &&& BitVec.ofInt 64 3).toNat : Int) ≤ 3
  have h : (BitVec.ofInt 64 x &&& BitVec.ofInt 64 3).toNat ≤ 3 := by
    rw [BitVec.toNat_and]
    exact Nat.and_le_right
  rw [IntWalk.i64_in _ (by omega)]
  omega

theorem load_no (w : World) (b : Nat) (k : Int) (a : Option Addr) (n cap : Nat) (hk : 3 < k) :
    Calls Try.prog 21 #[.pointer (some ⟨b, 0, none⟩), .int .i64 k, .slice a n cap] w fun e w' => e = .returned (.tuple #[]) ∧ w = w' := by
  have h1 : (1 : Int) ≤ k := by omega
  go_enter Try.func21, Try.ntmps21
  go_wp2
  go_end0
  exact ⟨rfl, rfl⟩

theorem chs_cells {W : World} {a : Option Addr} {n : Nat} {z : Nat → Ch} (hz : Chs W a n z) (hn : 0 < n) : ∃ g o, a = some ⟨g, o, none⟩ ∧ ∀ j u, (chs (firsts z n))[j]? = some u → W.cell? ⟨g, o + j, none⟩ = some u := by
  obtain ⟨g, o, rfl, _⟩ := hz 0 hn
  refine ⟨g, o, rfl, fun j u hu => ?_⟩
  have hj : j < n * 3 := by
    have := (List.getElem?_eq_some_iff.1 hu).1
    rwa [chs_length, firsts_length] at this
  obtain ⟨g', o', he, h0, h1, h2⟩ := hz (j / 3) (by omega)
  simp at he
  obtain ⟨rfl, rfl⟩ := he
  obtain ⟨c0, c1, c2⟩ := chs_trio (firsts z n) (j / 3) _ (firsts_at z n (j / 3) (by omega))
  have hm : j = j / 3 * 3 + j % 3 := by omega
  have h3 : j % 3 = 0 ∨ j % 3 = 1 ∨ j % 3 = 2 := by omega
  rcases h3 with h3 | h3 | h3
  · rw [h3] at hm
    rw [hm] at hu ⊢
    rw [Nat.add_zero] at hu ⊢
    rw [c0] at hu
    cases hu
    exact h0
  · rw [h3] at hm
    rw [hm] at hu ⊢
    rw [c1] at hu
    cases hu
    exact h1
  · rw [h3] at hm
    rw [hm] at hu ⊢
    rw [c2] at hu
    cases hu
    exact h2

theorem slotsOf_append (pg : Int) (l l' : List Ch) : slotsOf pg (l ++ l') = slotsOf pg l ++ slotsOf pg l' := by
  simp only [slotsOf, List.filter_append, List.map_append]

theorem slots_wf {z : Nat → Ch} (hf : ∀ i, (Lit.int .i64 (z i).p).wf = true ∧ (Lit.int .i64 (z i).s).wf = true) (pg : Int) (n : Nat) : ∀ s ∈ slotsOf pg (firsts z n), (Lit.int .i64 s).wf = true := by
  intro s hs
  unfold slotsOf firsts at hs
  obtain ⟨c, hc, rfl⟩ := List.mem_map.1 hs
  obtain ⟨i, _, rfl⟩ := List.mem_map.1 (List.mem_filter.1 hc).1
  exact (hf i).2
theorem setD_yes {l : List Int} {kl : Lit} {y : DataW Unit} (h : ∀ zd, (setD l).atKey kl zd = y) {x : Bool} (hx : (setD l).atKey kl (.lit (.bool false)) = .lit (.bool x)) : x = true := by
  have h1 : y = .lit (.bool true) := by
    rcases setD_true l kl (.lit (.bool true)) with e | e <;> rw [h] at e <;> exact e
  rw [h, h1] at hx
  cases hx
  rfl

theorem key_shape : ∀ key kl, keyOf Try.prog 3 key = some kl → ∃ x, key = (fun x : Int => Value.int .i64 x) x := fun key kl h => by
  obtain ⟨x, hx, _⟩ := Maps.keyOf_int_inv Try.underlying3 h
  exact ⟨x, hx⟩
theorem elem_shape : ∀ (v : Value) (y : DataW Unit × List MemPlace), plainElem Try.prog 4 v = some y → ∃ x, v = (fun x : Bool => Value.bool x) x := fun v y h => by
  obtain ⟨x, hx, _⟩ := plainElem_bool_inv Try.underlying4 h
  exact ⟨x, hx⟩

theorem opens_upd {k X : Nat} (hk : k = 1 ∨ k = 2 ∨ k = 3) : opens (upd (fun _ => none) k (some X)) = [(k, X)] := by
  rcases hk with rfl | rfl | rfl <;> simp [opens, opensTo, one, upd]
theorem tabl_upd {T k X : Nat} (hk : k = 1 ∨ k = 2 ∨ k = 3) (t : Td) : tabl T (upd (fun _ => none) k (some X)) (fun _ => t) = tbl T (upd (fun _ => none) k (some X)) * txb X t.l t.sv t.ops := by
  unfold tabl
  rcases hk with rfl | rfl | rfl
  · show tbl _ _ * (txb X _ _ _ * (1 * 1)) = _
    rw [HP.mul_one, HP.mul_one]
  · show tbl _ _ * (1 * (txb X _ _ _ * 1)) = _
    rw [HP.mul_one, HP.one_mul]
  · show tbl _ _ * (1 * (1 * txb X _ _ _)) = _
    rw [HP.one_mul, HP.one_mul]
theorem cnt_upd {k X : Nat} (hk : k = 1 ∨ k = 2 ∨ k = 3) : cnt (upd (fun _ => none) k (some X)) = 1 := by
  rcases hk with rfl | rfl | rfl <;> simp [cnt, upd]
theorem got_upd {k X : Nat} (hk : k = 1 ∨ k = 2 ∨ k = 3) : got (upd (fun _ => none) k (some X)) k = some X := by
  rcases hk with rfl | rfl | rfl <;> rfl

set_option maxRecDepth 100000 in
set_option maxHeartbeats 8000000 in
theorem kept_walk (W : World) (a : Option Addr) (n cap : Nat) (z : Nat → Ch) (nn pp : Int) (hf : ∀ i, (Lit.int .i64 (z i).p).wf = true ∧ (Lit.int .i64 (z i).s).wf = true) (hn : n ≤ 9223372036854775807) (hz : Chs W a n z)
    (_h1 : -9223372036854775808 ≤ nn) (_h2 : nn ≤ 9223372036854775807) (_h3 : -9223372036854775808 ≤ pp) (_h4 : pp ≤ 9223372036854775807) :
    Calls Try.prog 6 #[.slice a n cap, .int .i64 nn, .int .i64 pp] W fun e w' => e = .returned (.bool true) ∧ Below W.heap.size W w' := by
  by_cases h60 : (100 : Int) < (n : Int)
  · go_enter Try.func6, Try.ntmps6
    go_wp2_with (go_at_call 9; refine (fit_any W _ _ (At.startR W)).mono ?_; rintro e w1 ⟨rfl, h1⟩)
    go_ret
    exact ⟨rfl, h1.below⟩
  · have hn100 : n ≤ 100 := by omega
    go_enter Try.func6, Try.ntmps6
    go_wp2_with (go_at_call 9; refine (fit_any W _ _ (At.startR W)).mono ?_; rintro e w1 ⟨rfl, h1⟩)
    go_loopw [24] (fun i wr => ∃ k : Nat, k ≤ n ∧ i = .int .i64 k ∧ At W (old W * 1) wr) (fun i _ => n - (intOf i).toNat)
    case atStart => exact ⟨0, Nat.zero_le _, rfl, h1⟩
    case round =>
      obtain ⟨k, hk, rfl, h5⟩ := hrel
      clear h1
      by_cases hkn : k < n
      · obtain ⟨b, o, rfl, hc0, hc1, hc2⟩ := hz k hkn
        have hl0 := h5.old_cell hc0
        have hl1 := h5.old_cell hc1
        have hl2 := h5.old_cell hc2
        clear hc0 hc1 hc2
        have hkz : (k : Int) < (n : Int) := by omega
        generalize z k = c at *
        by_cases hb : (100 : Int) < (c.b.size : Int)
        · go_wp2_with fail
          go_ret
          exact ⟨rfl, (h5.alloc _).pull2.below⟩
        · go_wp2_with fail
          go_roundw
          case rel => exact ⟨k + 1, by omega, by go_num, (h5.alloc _).r⟩
          case measure => simp [intOf]; omega
      · have hkz : (n : Int) ≤ (k : Int) := by omega
        have h6 := h5.tbl_new
        clear h5
        generalize hT : wr.heap.size = T at h6
        go_wp2_with fail
        obtain ⟨q, hq1, hq4, hqe⟩ : ∃ q : Nat, 1 ≤ q ∧ q ≤ 4 ∧ wrap64 (bits .and .i64 nn 3 + 1) = (q : Int) := by
          have hq := and3k nn
          exact ⟨(bits .and .i64 nn 3 + 1).toNat, by omega, by omega, by rw [IntWalk.wrap64_in _ (by omega)]; omega⟩
        rw [hqe]
        clear hqe
        by_cases h4q : q = 4
        · subst h4q
          refine (load_no _ T _ _ _ _ (by decide)).mono ?_
          rintro e7 w7 ⟨rfl, rfl⟩
          go_wp2_with fail
          refine (open_any W _ _ T _ h6).mono ?_
          rintro e8 w8 ⟨rfl, rfl⟩
          rw [show cnt (fun _ => none) = 0 from rfl]
          go_wp2_with fail
          refine (get_any W _ _ T _ 4 h6).mono ?_
          rintro e9 w9 ⟨rfl, rfl⟩
          rw [show ptr (got (fun _ => none) 4) = .pointer none from rfl]
          go_wp2
          go_ret
          exact ⟨rfl, h6.pull2.below⟩
        · have hk3 : q = 1 ∨ q = 2 ∨ q = 3 := by omega
          have hq4' : ((q : Int) == 4) = false := by rw [beq_eq_false_iff_ne]; omega
          refine (load_in W _ _ T _ q hk3 a n cap (firsts z n) (firsts_length z n) (by omega) (fun h0 => by
            obtain ⟨g, o, he, hc⟩ := chs_cells hz h0
            exact ⟨g, o, he, fun j u hu => h6.pull2.old_cell (hc j u hu)⟩) h6).mono ?_
          rintro e7 w7 ⟨rfl, X, h7⟩
          have Hk3 := hide hk3
          have Hbn := hide (And.intro hq1 hq4)
          clear hk3 h4q h6 hq1 hq4
          have hmm := @run_makeMap Try.prog
          have h8 := h7.mp_new Try.prog 3 4
          generalize hM1 : w7.heap.size = M1 at h8
          go_wp2_with fail
          clear hM1 h7
          obtain ⟨wo, rfl⟩ : ∃ wo : World, wo = wr := ⟨_, rfl⟩
          go_loopw [50] (fun i wx => ∃ j : Nat, j ≤ n ∧ i = .int .i64 j ∧ At W (mp Try.prog 3 4 M1 j (setD (slotsOf pp (firsts z j))) * (tbl T (upd (fun _ => none) q (some X)) * (txb X (firsts z n) [] n * (old W * 1)))) wx) (fun i _ => n - (intOf i).toNat)
          case atStart => exact ⟨0, Nat.zero_le _, rfl, h8⟩
          case round =>
            obtain ⟨j, hj, rfl, h9⟩ := hrel
            clear h8 hkz
            by_cases hjn : j < n
            · obtain ⟨b, o, rfl, hc0, hc1, hc2⟩ := hz j hjn
              have hjz : (j : Int) < (n : Int) := by omega
              have hl0 := h9.pull4.old_cell hc0
              have hl1 := h9.pull4.old_cell hc1
              have hl2 := h9.pull4.old_cell hc2
              clear hc0 hc1 hc2
              have Hs := hide (show slotsOf pp (firsts z (j + 1)) = slotsOf pp (firsts z j) ++ slotsOf pp [z j] by rw [firsts_succ, slotsOf_append])
              have hwf := (hf j).2
              generalize z j = c at *
              by_cases hp1 : c.p = pp
              · have hp2 : (c.p == pp) = true := by rw [hp1]; simp
                have Hp := hide hp1
                clear hp1
                cases hb1 : c.b.toList.isEmpty with
                | true =>
                  have Hn := hide (slotsOf_no2 (pg := pp) hb1)
                  go_wp2_with fail
                  go_roundw
                  case rel => exact ⟨j + 1, by omega, by go_num, by rw [Hs.out, Hn.out, List.append_nil]; exact ((h9.alloc _).r).mp_mono (Nat.le_succ _)⟩
                  case measure => simp [intOf]; omega
                | false =>
                  have Hy := hide (slotsOf_yes Hp.out hb1)
                  have h10 := (h9.alloc (.cells #[.int .i64 c.p, .int .i64 c.s, .string c.b] 36)).pull2
                  have hown := h10.mp_own
                  go_wp2_with (at_mapUpdate; go_loud (refine wpList_mapUpdate_own _ rfl _ _ _ 45 rfl 3 4 (Maps.int_keyed Try.underlying3) Try.underlying45 _ M1 j _ rfl hown (by unfold maxLen; omega) _ _ _ rfl rfl (Maps.keyOf_int_mk Try.underlying3 hwf) _ [] (plainElem_bool Try.underlying4 true) ?_))
                  intro w11 hown11 hg11
                  have h11 := h10.mp_grown hg11 hown11
                  go_wp2_with fail
                  go_roundw
                  case rel => exact ⟨j + 1, by omega, by go_num, by rw [Hs.out, Hy.out, setD_snoc]; exact h11.pull2.r⟩
                  case measure => simp [intOf]; omega
              · have hp2 : (c.p == pp) = false := beq_eq_false_iff_ne.2 hp1
                have Hn := hide (slotsOf_no1 hp1)
                go_wp2_with fail
                go_roundw
                case rel => exact ⟨j + 1, by omega, by go_num, by rw [Hs.out, Hn.out, List.append_nil]; exact ((h9.alloc _).r).mp_mono (Nat.le_succ _)⟩
                case measure => simp [intOf]; omega
            · have hjz : (n : Int) ≤ (j : Int) := by omega
              obtain rfl : j = n := by omega
              have h10 := h9.pull2
              clear h9 hjn
              have h11 := h10.mp_new Try.prog 3 4
              generalize hM2 : wr.heap.size = M2 at h11
              go_wp2_with fail
              have ek : keptOf pp (fun _ => ⟨firsts z j, [], j⟩) (opens (upd (fun _ => none) q (some X))) = slotsOf pp (firsts z j) := by rw [opens_upd Hk3.out]; simp [keptOf]
              have et : tot (upd (fun _ => none) q (some X)) (fun _ => ⟨firsts z j, [], j⟩) = j := by unfold tot; rw [opens_upd Hk3.out]; simp [totOf, firsts_length]
              refine (kept_any W _ (mp Try.prog 3 4 M2 0 (.map []) * (mp Try.prog 3 4 M1 j (setD (slotsOf pp (firsts z j))) * (old W * 1))) T (upd (fun _ => none) q (some X)) (fun _ => ⟨firsts z j, [], j⟩) pp (by rw [et]; omega) (h11.cast (by rw [tabl_upd Hk3.out]; ac_rfl))).mono ?_
              rintro e12 w12 ⟨ar, cp, rfl, h12⟩
              rw [ek] at h12 ⊢
              rw [tabl_upd Hk3.out] at h12
              have hlk : (slotsOf pp (firsts z j)).length ≤ 100 := by
                have := slotsOf_length pp (firsts z j)
                rw [firsts_length] at this
                omega
              have hwf := slots_wf hf pp j
              have Het := hide et
              clear ek et h10 h11 hM2
              generalize slotsOf pp (firsts z j) = ks at *
              have h13 := h12.cast (show _ = mp Try.prog 3 4 M2 0 (.map []) * (row 3 1 (.slice ar ks.length cp) ks.length (ks.map (.int .i64)) * (mp Try.prog 3 4 M1 j (setD ks) * (tbl T (upd (fun _ => none) q (some X)) * (txb X (firsts z j) [] j * (old W * 1))))) by ac_rfl)
              clear h12
              go_wp2_with fail
              obtain ⟨wo2, rfl⟩ : ∃ wo : World, wo = wr := ⟨_, rfl⟩
              go_loopw [71] (fun i wx => ∃ i3 : Nat, i3 ≤ ks.length ∧ i = .int .i64 i3 ∧ At W (mp Try.prog 3 4 M2 i3 (setD (ks.take i3)) * (row 3 1 (.slice ar ks.length cp) ks.length (ks.map (.int .i64)) * (mp Try.prog 3 4 M1 j (setD ks) * (tbl T (upd (fun _ => none) q (some X)) * (txb X (firsts z j) [] j * (old W * 1)))))) wx) (fun i _ => ks.length - (intOf i).toNat)
              case atStart => exact ⟨0, Nat.zero_le _, rfl, h13⟩
              case round =>
                obtain ⟨i3, hi3, rfl, h14⟩ := hrel
                clear h13
                by_cases hik : i3 < ks.length
                · have hiz : (i3 : Int) < (ks.length : Int) := by omega
                  obtain ⟨g, cp9, hv, hle, hcell⟩ := h14.pull2.row_ptr (by omega)
                  simp at hv
                  obtain ⟨rfl, rfl⟩ := hv
                  have hg := hcell i3 (.int .i64 ks[i3]) (by simp [hik])
                  have Hs := hide (show setD (ks.take (i3 + 1)) = (setD (ks.take i3)).put (.int .i64 ks[i3]) (.lit (.bool true)) by rw [List.take_add_one, List.getElem?_eq_getElem hik, Option.toList_some, setD_snoc])
                  have hw3 := hwf _ (List.getElem_mem hik)
                  clear hcell
                  generalize ks[i3] = sl at *
                  have hown := h14.mp_own
                  go_wp2_with (at_mapUpdate; go_loud (refine wpList_mapUpdate_own _ rfl _ _ _ 45 rfl 3 4 (Maps.int_keyed Try.underlying3) Try.underlying45 _ M2 i3 _ rfl hown (by unfold maxLen; omega) _ _ _ rfl rfl (Maps.keyOf_int_mk Try.underlying3 hw3) _ [] (plainElem_bool Try.underlying4 true) ?_))
                  intro w15 hown15 hg15
                  have h15 := h14.mp_grown hg15 hown15
                  go_wp2_with fail
                  go_roundw
                  case rel => exact ⟨i3 + 1, by omega, by go_num, by rw [Hs.out]; exact h15⟩
                  case measure => simp [intOf]; omega
                · obtain rfl : i3 = ks.length := by omega
                  rw [List.take_length] at h14
                  have hown := h14.mp_own
                  clear hik hi3
                  go_wp2_with (at_range; go_loud (refine wpList_range_own _ rfl _ 45 rfl 3 4 (Maps.int_keyed Try.underlying3) Try.underlying45 _ M2 ks.length (setD ks) rfl hown ?_))
                  intro w16 hrg0 hg0 hs0
                  generalize hRb : wr.heap.size = Rb at hrg0
                  have HRb := hide (Nat.le_of_eq hRb)
                  clear hs0
                  go_wp2_with fail
                  clear hRb
                  obtain ⟨wo3, rfl⟩ : ∃ wo : World, wo = wr := ⟨_, rfl⟩
                  go_loopw [16] (fun _ wy => ∃ left cnt, wy.ranges Try.prog 3 (plainElem Try.prog 4) M2 Rb ks.length (setD ks) left cnt ∧ wo3.grownBy wy none) (fun _ wy => wy.rangeLeft M2 Rb)
                  case atStart => exact ⟨_, _, hrg0, hg0⟩
                  case round =>
                    obtain ⟨left, cnt, hrg, hgr⟩ := hrel
                    clear hrg0 hg0
                    have h17 := h14.grown hgr
                    go_wp2_with (at_next; go_loud (refine wpList_next_set rfl _ rfl 3 4 Try.underlying3 Try.underlying4 M2 Rb ks.length ks left cnt rfl hrg ?_ ?_))
                    · have hl2 := h17.mp_own.len Try.underlying45 3
                      have hl1 := h17.pull3.mp_own.len Try.underlying45 3
                      have h18 := h17.cast (show _ = tbl T (upd (fun _ => none) q (some X)) * (txb X (firsts z j) [] j * (old W * (mp Try.prog 3 4 M2 ks.length (setD ks) * (row 3 1 (.slice ar ks.length cp) ks.length (ks.map (.int .i64)) * (mp Try.prog 3 4 M1 j (setD ks)))))) by rw [HP.mul_one]; ac_rfl)
                      clear h17 h14
                      generalize Maps.size (setD ks) = sz at hl1 hl2
                      go_wp2_with fail
                      rw [hl2]
                      go_wp2_with fail
                      refine (open_any W _ _ T _ h18).mono ?_
                      rintro e19 w19 ⟨rfl, rfl⟩
                      rw [cnt_upd Hk3.out]
                      go_wp2_with fail
                      refine (get_any W _ _ T _ q h18).mono ?_
                      rintro e20 w20 ⟨rfl, rfl⟩
                      rw [got_upd Hk3.out, ptr_some]
                      go_wp2_with fail
                      refine (len_some W _ _ X _ _ _ h18.pull2).mono ?_
                      rintro e21 w21 ⟨rfl, rfl⟩
                      rw [firsts_length]
                      go_wp2_with fail
                      refine (get_any W _ _ T _ q h18).mono ?_
                      rintro e22 w22 ⟨rfl, rfl⟩
                      rw [got_upd Hk3.out, ptr_some]
                      go_wp2_with fail
                      refine (full_some W _ _ X _ _ _ h18.pull2).mono ?_
                      rintro e23 w23 ⟨rfl, rfl⟩
                      go_wp2_with fail
                      refine (changes_any W _ (old W * (mp Try.prog 3 4 M2 ks.length (setD ks) * (row 3 1 (.slice ar ks.length cp) ks.length (ks.map (.int .i64)) * mp Try.prog 3 4 M1 j (setD ks)))) T (upd (fun _ => none) q (some X)) (fun _ => ⟨firsts z j, [], j⟩) (by rw [Het.out]; omega) (h18.cast (by rw [tabl_upd Hk3.out]; ac_rfl))).mono ?_
                      rintro e24 w24 ⟨rfl, h24⟩
                      rw [Het.out]
                      rw [tabl_upd Hk3.out] at h24
                      go_wp2
                      go_ret
                      exact ⟨by simp, (h24.cast (show _ = old W * (tbl T (upd (fun _ => none) q (some X)) * (txb X (firsts z j) [] j * (mp Try.prog 3 4 M2 ks.length (setD ks) * (row 3 1 (.slice ar ks.length cp) ks.length (ks.map (.int .i64)) * mp Try.prog 3 4 M1 j (setD ks))))) by ac_rfl)).below⟩
                    · intro x w18 cnt1 hst hen
                      obtain ⟨⟨kl, left1, hkey, hat, hrg1⟩, hlt, hg1⟩ := hst
                      have hgr2 : wo3.grownBy w18 none := hgr.andThen hg1 (fun i hi => by cases hi; exact .inl HRb.out)
                      obtain ⟨u, hrun, hu⟩ := own_lookup_bool ((h14.grown hgr2).pull3.mp_own) (Maps.int_keyed Try.underlying3) Try.underlying45 Try.underlying4 (by kernel_rfl) hkey
                      rw [hat] at hu
                      cases hu
                      have Hm := hide (show w18.rangeLeft M2 Rb < wr.rangeLeft M2 Rb by rw [hrg1.left_eq, hrg.left_eq]; exact hlt)
                      clear hat hkey hlt hg1
                      go_wp2_with fail
                      exact ⟨⟨_, _, hrg1, hgr2⟩, Hm.out⟩
end Go.Proofs.Ytmkcbadcmkhceaa
