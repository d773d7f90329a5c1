/-
  The statement TransRuns' walk. Contracts, no statement.
-/
import Derived.Test.YtmkcbadcmkhceaaSm
import Derived.Test.YtmkcbadcmkhceaaTr2
import Derived.Deep.CutBlock
import Derived.StillTailTactics
import Derived.Test.YtmkcbadcmkhceaaRs
namespace Go.Proofs.Ytmkcbadcmkhceaa
open Go Go.RowKit

/-- A call. -/
structure Cl where
  k : Int
  n : Int
  t : Int
  c : Ch
/-- The calls of a slice that came in can be read. -/
def Cls (W : World) (a : Option Addr) (n : Nat) (z : Nat → Cl) : Prop := ∀ i, i < n → ∃ b o, a = some ⟨b, o, none⟩ ∧
  W.cell? ⟨b, o + i * 6, none⟩ = some (.int .i64 (z i).k) ∧ W.cell? ⟨b, o + i * 6 + 1, none⟩ = some (.int .i64 (z i).n) ∧ W.cell? ⟨b, o + i * 6 + 2, none⟩ = some (.int .i64 (z i).t) ∧
  W.cell? ⟨b, o + i * 6 + 3, none⟩ = some (.int .i64 (z i).c.p) ∧ W.cell? ⟨b, o + i * 6 + 4, none⟩ = some (.int .i64 (z i).c.s) ∧ W.cell? ⟨b, o + i * 6 + 5, none⟩ = some (.string (z i).c.b)
/-- How much there is after k calls. -/
def Bd (d : Nat → Td) (k : Nat) : Prop := ∀ i, (d i).l.length ≤ k ∧ (d i).sv.length ≤ 4 ∧ 0 ≤ (d i).ops ∧ (d i).ops ≤ k
theorem Bd.up {d : Nat → Td} {k : Nat} (h : Bd d k) : Bd d (k + 1) := fun i => by
  have := h i
  omega
theorem Bd.upd {d : Nat → Td} {k n : Nat} {t : Td} (h : Bd d k) (h1 : t.l.length ≤ k) (h2 : t.sv.length ≤ 4) (h3 : 0 ≤ t.ops) (h4 : t.ops ≤ k) : Bd (Go.Proofs.Ytmkcbadcmkhceaa.upd d n t) k := fun i => by
  unfold Go.Proofs.Ytmkcbadcmkhceaa.upd
  split
  · exact ⟨h1, h2, h3, h4⟩
  · exact h i
theorem full_split (T : Nat) (st : St) (d : Nat → Td) (A : HP) : full T st d A = full T st d 1 * A := by
  unfold full
  rw [HP.one_mul]
  ac_rfl
theorem sel_cases (st : St) (N : Nat) (hN : N ≤ 3) : (sel st N = none ∧ got (pA st) (N : Int) = none) ∨
    ∃ b b', (N = 1 ∨ N = 2 ∨ N = 3) ∧ st N = some (b, b') ∧ sel st N = some b' ∧ got (pA st) (N : Int) = some b := by
  by_cases h0 : N = 0
  · subst h0
    exact .inl ⟨rfl, rfl⟩
  · have h3 : N = 1 ∨ N = 2 ∨ N = 3 := by omega
    rw [got_nat h3]
    unfold sel pA pB
    rw [if_neg h0]
    cases st N with
    | none => exact .inl ⟨rfl, rfl⟩
    | some x => exact .inr ⟨x.1, x.2, h3, rfl, rfl, rfl⟩
theorem push_nil (w0 w : World) (A : HP) (h : At w0 A w) (c : Ch) : Calls Try.prog 14 #[.pointer none, .agg #[.int .i64 c.p, .int .i64 c.s, .string c.b]] w fun e w' => e = .returned (.tuple #[]) ∧ At w0 A w' := by
  go_enter Try.func14, Try.ntmps14
  go_wp2
  go_end0
  exact ⟨rfl, (h.alloc _).r⟩
theorem pop_nil_at (w0 w : World) (A : HP) (h : At w0 A w) : Calls Try.prog 18 #[.pointer none] w fun e w' => e = .returned (.tuple #[.agg #[.int .i64 0, .int .i64 0, .string ⟨#[]⟩], .bool false]) ∧ At w0 A w' := by
  go_enter Try.func18, Try.ntmps18
  go_wp2
  exact bodyPost_ret (v := .tuple #[.agg #[.int .i64 0, .int .i64 0, .string ⟨#[]⟩], .bool false]) (by simp [results, Try.results18, go_sem]) rfl ⟨rfl, (h.alloc _).r⟩
theorem list_last (l : List Ch) : l = [] ∨ ∃ l0 c, l = l0 ++ [c] := by
  rcases List.eq_nil_or_concat l with h | ⟨l0, c, h⟩
  · exact .inl h
  · exact .inr ⟨l0, c, by simpa using h⟩
theorem and3x (x : Int) : 0 ≤ bits .and .i64 x 3 ∧ bits .and .i64 x 3 ≤ 3 := by
  show 0 ≤ IntKind.i64.wrap ((BitVec.ofInt 64 x &&& BitVec.ofInt 64 3).toNat : Int) ∧ IntKind.i64.wrap ((BitVec.ofInt 64 x &&& BitVec.ofInt 64 3).toNat : Int) ≤ 3
  have h : (BitVec.ofInt 64 x &&& BitVec.ofInt 64 3).toNat ≤ 3 := by
    rw [BitVec.toNat_and]
    exact Nat.and_le_right
  rw [IntWalk.i64_in _ (by omega)]
  omega
theorem mod6 (x : Int) : (wrap64 (x.tmod 6 + 6)).tmod 6 = 0 ∨ (wrap64 (x.tmod 6 + 6)).tmod 6 = 1 ∨ (wrap64 (x.tmod 6 + 6)).tmod 6 = 2 ∨ (wrap64 (x.tmod 6 + 6)).tmod 6 = 3 ∨ (wrap64 (x.tmod 6 + 6)).tmod 6 = 4 ∨ (wrap64 (x.tmod 6 + 6)).tmod 6 = 5 := by
  have h1 : -6 < x.tmod 6 := by have := Int.lt_tmod_of_pos x (show (0 : Int) < 6 by decide); omega
  have h2 : x.tmod 6 < 6 := Int.tmod_lt_of_pos x (by decide)
  have h3 : wrap64 (x.tmod 6 + 6) = x.tmod 6 + 6 := IntWalk.wrap64_in _ (by omega)
  rw [h3]
  have h4 : (x.tmod 6 + 6).tmod 6 = (x.tmod 6 + 6) % 6 := Int.tmod_eq_emod_of_nonneg (by omega)
  rw [h4]
  omega

def wfrom (st : St) (k : Nat) : Nat := if k < 1 ∧ st 1 = none then 1 else if k < 2 ∧ st 2 = none then 2 else if k < 3 ∧ st 3 = none then 3 else 0
theorem wfrom_none {st : St} {j : Nat} (hj : j + 1 ≤ 3) (h : st (j + 1) = none) : wfrom st j = j + 1 := by
  have : j = 0 ∨ j = 1 ∨ j = 2 := by omega
  rcases this with rfl | rfl | rfl <;> simp at h <;> simp [wfrom, h]
theorem wfrom_some {st : St} {j : Nat} {x : Nat × Nat} (hj : j + 1 ≤ 3) (h : st (j + 1) = some x) : wfrom st j = wfrom st (j + 1) := by
  have : j = 0 ∨ j = 1 ∨ j = 2 := by omega
  rcases this with rfl | rfl | rfl <;> simp at h <;> simp [wfrom, h]
theorem wfrom_zero (st : St) : wfrom st 0 = least (pA st) := by
  simp only [wfrom, least, pA, Option.map_eq_none_iff]
  simp
theorem wfrom_at {st : St} {q : Nat} (h : wfrom st 0 = q) (h0 : q ≠ 0) : (q = 1 ∨ q = 2 ∨ q = 3) ∧ st q = none := by
  unfold wfrom at h
  split at h
  · rename_i h1; subst h; exact ⟨.inl rfl, h1.2⟩
  · split at h
    · rename_i h1; subst h; exact ⟨.inr (.inl rfl), h1.2⟩
    · split at h
      · rename_i h1; subst h; exact ⟨.inr (.inr rfl), h1.2⟩
      · exact (h0 h.symm).elim
theorem sel_succ (st : St) (j : Nat) : sel st (j + 1) = (st (j + 1)).map (·.2) := by unfold sel pB; rw [if_neg (by omega)]
theorem back_m (w0 w : World) (R : HP) (b : Nat) (l : List Ch) (saves : List Int) (ops : Int) (m : Nat) (h : At w0 (txb b l saves ops * R) w) (hm : m < saves.length) (h4 : saves.length ≤ 4) :
    Calls Try.prog 16 #[.pointer (some ⟨b, 0, none⟩), .int .i64 ((m + 1 : Nat) : Int)] w fun e w' => e = .returned (.tuple #[.int .i64 saves[m], .bool true]) ∧ At w0 (txb b l (saves.take (m + 1)) ops * R) w' := by
  refine (back_yes w0 w R b l saves ops ((m + 1 : Nat) : Int) h (by omega) (by omega) h4).mono ?_
  rintro e w' ⟨rfl, h'⟩
  refine ⟨?_, h'⟩
  have e1 : (((m + 1 : Nat) : Int) - 1).toNat = m := by omega
  rw [e1]
  simp [List.getD_eq_getElem?_getD, hm]

set_option maxRecDepth 100000 in
set_option maxHeartbeats 8000000 in
theorem runs_walk (W : World) (a : Option Addr) (n cap : Nat) (z : Nat → Cl) (hn : n ≤ 9223372036854775807) (hz : Cls W a n z) :
    Calls Try.prog 8 #[.slice a n cap] W fun e w' => e = .returned (.bool true) ∧ Below W.heap.size W w' := by
  by_cases h60 : (200 : Int) < (n : Int)
  · go_enter Try.func8, Try.ntmps8
    go_wp2_with (go_at_call 9; refine (fit_any W _ _ (At.startR W)).mono ?_; rintro e w1 ⟨rfl, h1⟩)
    go_ret
    exact ⟨rfl, h1.below⟩
  · have hn200 : n ≤ 200 := by omega
    go_enter Try.func8, Try.ntmps8
    go_wp2_with (go_at_call 9; refine (fit_any W _ _ (At.startR W)).mono ?_; rintro e w1 ⟨rfl, h1⟩)
    obtain ⟨T, hT⟩ : ∃ T, w1.heap.size = T := ⟨_, rfl⟩
    obtain ⟨M, hM⟩ : ∃ M, w1.heap.size + 1 = M := ⟨_, rfl⟩
    have h2 : At W (full T (fun _ => none) (fun _ => ⟨[], [], 0⟩) (lar M (fun _ => none)) * (old W * 1)) ((w1.alloc (.cells #[.pointer none, .pointer none, .pointer none, .pointer none] 27)).alloc (.cells #[.pointer none, .pointer none, .pointer none, .pointer none] 52)) := by
      have h3 := (h1.alloc' hT (.cells #[.pointer none, .pointer none, .pointer none, .pointer none] 27)).alloc' (show _ = M by simp [hM]) (.cells #[.pointer none, .pointer none, .pointer none, .pointer none] 52)
      refine h3.cast ?_
      show cel M _ _ * (tbl T (fun _ => none) * (old W * 1)) = (tbl T (fun _ => none) * (cel M _ _ * (1 * (1 * 1)))) * (old W * 1)
      rw [HP.mul_one, HP.mul_one, HP.mul_one]
      ac_rfl
    rw [hM, hT]
    clear hT hM
    go_loopw [23] (fun i wr => ∃ (k : Nat) (st : St) (d : Nat → Td), k ≤ n ∧ i = .int .i64 k ∧ Bd d k ∧ At W (full T st d (lar M st) * (old W * 1)) wr) (fun i _ => n - (intOf i).toNat)
    case atStart => exact ⟨0, _, _, Nat.zero_le _, rfl, fun i => ⟨Nat.le_refl _, Nat.zero_le _, Int.le_refl _, Int.le_refl _⟩, h2⟩
    case round =>
      obtain ⟨k, st, d, hk, rfl, hbd, h3⟩ := hrel
      clear h1 h2
      by_cases hkn : k < n
      · obtain ⟨b, o, rfl, hc0, hc1, hc2, hc3, hc4, hc5⟩ := hz k hkn
        have hl0 := h3.pull2.old_cell hc0
        have hl1 := h3.pull2.old_cell hc1
        have hl2 := h3.pull2.old_cell hc2
        have hl3 := h3.pull2.old_cell hc3
        have hl4 := h3.pull2.old_cell hc4
        have hl5 := h3.pull2.old_cell hc5
        clear hc0 hc1 hc2 hc3 hc4 hc5
        have hkz : (k : Int) < (n : Int) := by omega
        have Hbd := hide hbd
        clear hbd
        generalize (z k).k = ck at *
        generalize (z k).n = cn at *
        generalize (z k).t = ct at *
        generalize (z k).c = c at *
        by_cases hb : (100 : Int) < (c.b.size : Int)
        · go_wp2_with fail
          go_ret
          exact ⟨rfl, (h3.alloc _).pull3.below⟩
        · have h4 := (h3.alloc (.cells #[.int .i64 ck, .int .i64 cn, .int .i64 ct, .int .i64 c.p, .int .i64 c.s, .string c.b] 54)).pull2
          clear h3
          go_upto_region 13 with fail
          obtain ⟨N, hN3, hNe⟩ : ∃ N : Nat, N ≤ 3 ∧ bits .and .i64 cn 3 = (N : Int) := by
            have hq := and3x cn
            exact ⟨(bits .and .i64 cn 3).toNat, by omega, by omega⟩
          rw [hNe]
          clear hNe
          obtain ⟨CB, hCB⟩ : ∃ CB, wr.heap.size = CB := ⟨_, rfl⟩
          rw [hCB] at h4 ⊢
          clear hCB hl0 hl1 hl2 hl3 hl4 hl5
          generalize wr.alloc (.cells #[.int .i64 ck, .int .i64 cn, .int .i64 ct, .int .i64 c.p, .int .i64 c.s, .string c.b] 54) = wa at h4 ⊢
          have hcb := h4.pull2
          have hk0 := At.cell (i := 0) (b := CB) hcb rfl
          have hm : wa.cell? ⟨M, N, none⟩ = some (ptr (sel st N)) := by
            have h5 := h4.cast (show _ = lar M st * (tbl T (pA st) * ((two (st 1) (d 1) * (two (st 2) (d 2) * two (st 3) (d 3))) * (pt CB (.cells #[.int .i64 ck, .int .i64 cn, .int .i64 ct, .int .i64 c.p, .int .i64 c.s, .string c.b] 54) * (old W * 1)))) by unfold full; ac_rfl)
            exact At.cell (i := N) h5 (lcells_at st N hN3)
          have hNz : (N : Int) < 4 := by omega
          go_upto_block 2 with fail
          go_cut [8, 37, 42] (fun _ _ _ wc => ∃ (st' : St) (d' : Nat → Td), Bd d' (k + 1) ∧ At W (full T st' d' (lar M st') * (pt CB (.cells #[.int .i64 ck, .int .i64 cn, .int .i64 ct, .int .i64 c.p, .int .i64 c.s, .string c.b] 54) * (old W * 1))) wc)
          case first =>
            have h6 := mod6 ck
            clear hcb
            rcases h6 with hkk | hkk | hkk | hkk | hkk | hkk
            · as_aux_lemma =>
              rw [hkk]
              clear hkk
              have h5 := h4.cast (show _ = lar M st * (tbl T (pA st) * ((two (st 1) (d 1) * (two (st 2) (d 2) * two (st 3) (d 3))) * (pt CB (.cells #[.int .i64 ck, .int .i64 cn, .int .i64 ct, .int .i64 c.p, .int .i64 c.s, .string c.b] 54) * (old W * 1)))) by unfold full; ac_rfl)
              have Hm := hide (fun (j : Nat) (hj : j ≤ 3) => At.cell (i := j) h5 (lcells_at st j hj))
              clear hm hk0 h5
              go_wp2_with fail
              go_loop [9, 10] (fun wv iv => ∃ j : Nat, j ≤ 3 ∧ iv = .int .i64 j ∧ wv = .int .i64 (wfrom st j)) (fun _ iv => (intOf iv).toNat)
              case atStart => exact ⟨3, by omega, rfl, by simp [wfrom]⟩
              case round =>
                obtain ⟨j, hj3, rfl, rfl⟩ := hrel
                cases j with
                | succ j =>
                  have hmj := Hm.out (j + 1) hj3
                  rw [sel_succ] at hmj
                  have hj4 : ((j + 1 : Nat) : Int) < 4 := by omega
                  have hj0 : (0 : Int) < ((j + 1 : Nat) : Int) := by omega
                  cases hst : st (j + 1) with
                  | none =>
                    rw [hst, Option.map_none, ptr_none] at hmj
                    have Hst := hide hst
                    clear hst
                    go_wp2_with fail
                    go_round
                    case rel => exact ⟨j, by omega, by go_num, by rw [wfrom_none hj3 Hst.out]⟩
                    case measure => simp [intOf]
                  | some x =>
                    rw [hst, Option.map_some, ptr_some] at hmj
                    have Hst := hide hst
                    clear hst
                    go_wp2_with fail
                    go_round
                    case rel => exact ⟨j, by omega, by go_num, by rw [wfrom_some hj3 Hst.out]⟩
                    case measure => simp [intOf]
                | zero =>
                  obtain ⟨q, hq⟩ : ∃ q, wfrom st 0 = q := ⟨_, rfl⟩
                  rw [hq]
                  have hl : least (pA st) = q := (wfrom_zero st).symm.trans hq
                  by_cases hq0 : q = 0
                  · subst hq0
                    have hbg := begin_no W wa _ T (pA st) hl (h4.cast (show _ = tbl T (pA st) * (lar M st * ((two (st 1) (d 1) * (two (st 2) (d 2) * two (st 3) (d 3))) * (pt CB (.cells #[.int .i64 ck, .int .i64 cn, .int .i64 ct, .int .i64 c.p, .int .i64 c.s, .string c.b] 54) * (old W * 1)))) by unfold full; ac_rfl))
                    clear hl hq
                    rw [Int.natCast_zero]
                    go_wp2_with fail
                    refine hbg.mono ?_
                    rintro e6 w6 ⟨rfl, h6⟩
                    go_wp2_with fail
                    go_meet
                    exact ⟨st, d, Hbd.out.up, h6.cast (by unfold full; ac_rfl)⟩
                  · obtain ⟨hq3, hsq⟩ := wfrom_at hq hq0
                    obtain ⟨C, hC, hE⟩ := full_new (T := T) (d := d) (A := lar M st) hq3 hsq
                    rw [hC] at h4
                    have HE := hide hE
                    have hbg := begin_tx W wa _ T (pA st) q hl hq0 (h4.cast (show _ = tbl T (pA st) * (lar M st * (C * (pt CB (.cells #[.int .i64 ck, .int .i64 cn, .int .i64 ct, .int .i64 c.p, .int .i64 c.s, .string c.b] 54) * (old W * 1)))) by ac_rfl))
                    have hq4 : (q : Int) < 4 := by omega
                    have hqp : (0 : Int) < (q : Int) := by omega
                    have Hq3 := hide hq3
                    clear hl hq hsq hC hE h4 hq3
                    go_wp2_with fail
                    refine hbg.mono ?_
                    rintro e6 w6 ⟨rfl, X1, h6⟩
                    have hmq := At.cell (i := q) h6.pull3 (lcells_at st q (by omega))
                    have hmf := At.frz h6.pull3 q
                    have hml := At.lt h6.pull3
                    clear hbg
                    go_wp2_with fail
                    go_meet
                    refine ⟨upd st q (some (X1, w6.heap.size)), upd d q ⟨[], [], 0⟩, Hbd.out.up.upd (Nat.zero_le _) (Nat.zero_le _) (Int.le_refl _) (by show (0 : Int) ≤ _; omega), ?_⟩
                    have h7 := (h6.pull3.set' q (ptr (some w6.heap.size)) (lcells_upd st q hq0 (by have := Hq3.out; omega) (some (X1, w6.heap.size)))).alloc' (show _ = w6.heap.size by simp) (.cells #[.slice none 0 0, .slice none 0 0, .int .i64 0] 56)
                    have h9 := At.txl_new h7
                    rw [HE.out]
                    show At W (tbl T (upd (pA st) q (some X1)) * (cel M (lcells (upd st q (some (X1, w6.heap.size)))) 52 * (txb X1 [] [] 0 * (txl w6.heap.size [] [] 0 * C))) * (pt CB (.cells #[.int .i64 ck, .int .i64 cn, .int .i64 ct, .int .i64 c.p, .int .i64 c.s, .string c.b] 54) * (old W * 1))) _
                    exact h9.cast (by ac_rfl)
            · as_aux_lemma =>
              rw [hkk]
              clear hkk
              go_wp2_with fail
              by_cases hN0 : N = 0
              · subst hN0
                refine (end_any W _ _ T (pA st) _ (h4.cast (show _ = tbl T (pA st) * (lar M st * ((two (st 1) (d 1) * (two (st 2) (d 2) * two (st 3) (d 3))) * (pt CB (.cells #[.int .i64 ck, .int .i64 cn, .int .i64 ct, .int .i64 c.p, .int .i64 c.s, .string c.b] 54) * (old W * 1)))) by unfold full; ac_rfl))).mono ?_
                rintro e5 w5 ⟨rfl, h5⟩
                rw [if_neg (by decide)] at h5
                have hm0 := At.cell (i := 0) h5.pull2 rfl
                have hmf := At.frz h5.pull2 0
                have hml := At.lt h5.pull2
                clear hm hk0 h4
                go_wp2_with fail
                go_meet
                refine ⟨st, d, Hbd.out.up, ?_⟩
                exact (h5.pull2.set' 0 (.pointer none) (lcells_zero st)).cast (show cel M (lcells st) 52 * _ = _ by unfold full lar; ac_rfl)
              · obtain ⟨C, G, hC, hE⟩ := full_end (T := T) (st := st) (d := d) (A := lar M st) (n := N) (by omega)
                rw [hC] at h4
                refine (end_any W _ _ T (pA st) _ (h4.cast (show _ = tbl T (pA st) * (lar M st * (C * (G * (pt CB (.cells #[.int .i64 ck, .int .i64 cn, .int .i64 ct, .int .i64 c.p, .int .i64 c.s, .string c.b] 54) * (old W * 1))))) by ac_rfl))).mono ?_
                rintro e5 w5 ⟨rfl, h5⟩
                rw [if_pos (by omega), Int.toNat_natCast] at h5
                have hm0 := At.cell (i := N) h5.pull2 (lcells_at st N hN3)
                have hmf := At.frz h5.pull2 N
                have hml := At.lt h5.pull2
                have HE := hide hE
                clear hm hk0 h4 hC hE
                go_wp2_with fail
                go_meet
                refine ⟨upd st N none, d, Hbd.out.up, ?_⟩
                rw [HE.out]
                exact (h5.pull2.set' N (.pointer none) (lcells_upd st N hN0 hN3 none)).cast (show cel M (lcells (upd st N none)) 52 * (tbl T (upd (pA st) N none) * (C * (G * _))) = G * (tbl T (upd (pA st) N none) * (lar M (upd st N none) * C) * _) by unfold lar; ac_rfl) |>.r
            · as_aux_lemma =>
              rw [hkk]
              clear hkk
              have hk3 := At.cell (i := 3) (b := CB) (h4.pull2) rfl
              have hk4 := At.cell (i := 4) (b := CB) (h4.pull2) rfl
              have hk5 := At.cell (i := 5) (b := CB) (h4.pull2) rfl
              have h5 := h4.cast (show _ = tbl T (pA st) * (lar M st * ((two (st 1) (d 1) * (two (st 2) (d 2) * two (st 3) (d 3))) * (pt CB (.cells #[.int .i64 ck, .int .i64 cn, .int .i64 ct, .int .i64 c.p, .int .i64 c.s, .string c.b] 54) * (old W * 1)))) by unfold full; ac_rfl)
              have hg := (get_any W _ _ T (pA st) (N : Int) h5.drew).mono (R' := fun e w' => e = .returned (ptr (got (pA st) (N : Int))) ∧ w' = wa.drew) fun _ _ ⟨he, hw⟩ => ⟨he, hw.symm⟩
              clear h5
              rcases sel_cases st N hN3 with ⟨hs, hgo⟩ | ⟨b1, b2, hn3, hst, hs, hgo⟩
              · rw [hgo, ptr_none] at hg
                rw [hs, ptr_none]
                clear hm hs hgo
                go_wp2_with fail
                go_still_tail 4, (by kernel_rfl)
                still_call hg
                repeat still_step
                refine wpStill_nil ?_
                change wpList _ _ _ _ _ wa.drew
                go_wp2_with fail
                refine (push_nil W _ _ h4.drew c).mono ?_
                rintro e6 w6 ⟨rfl, h6⟩
                go_wp2_with fail
                go_meet
                exact ⟨st, d, Hbd.out.up, h6.pull2.cast (HP.mul_left_comm _ _ _)⟩
              · rw [hgo, ptr_some] at hg
                rw [hs, ptr_some]
                obtain ⟨C, hC, hE⟩ := full_at0 (T := T) (d := d) (A := lar M st) hn3 hst
                rw [hC] at h4
                have HE := hide hE
                have hb3 := Hbd.out N
                clear hm hs hgo hC hE
                generalize (d N).l = ls at *
                generalize (d N).sv = sv at *
                generalize (d N).ops = op at *
                go_wp2_with fail
                go_still_tail 4, (by kernel_rfl)
                still_call hg
                repeat still_step
                refine wpStill_nil ?_
                change wpList _ _ _ _ _ wa.drew
                go_wp2_with fail
                refine (push_some W _ _ b1 ls sv op c (h4.drew.cast (show _ = txb b1 ls sv op * (txl b2 ls sv op * (tbl T (pA st) * (lar M st * (C * (pt CB (.cells #[.int .i64 ck, .int .i64 cn, .int .i64 ct, .int .i64 c.p, .int .i64 c.s, .string c.b] 54) * (old W * 1)))))) by ac_rfl)) (by omega) hb3.2.2.1 (by omega)).mono ?_
                rintro e6 w6 ⟨rfl, h6⟩
                obtain ⟨v, vs, h7⟩ := h6.pull2.txl_open
                obtain ⟨a7, c7, rfl⟩ := h7.pull2.row_len
                have hc0 := At.cell (i := 0) h7 rfl
                have hf7 := At.frz h7
                have hq3 := At.cell (i := 3) (b := CB) h7.pull8 rfl
                have hq4 := At.cell (i := 4) (b := CB) h7.pull8 rfl
                have hq5 := At.cell (i := 5) (b := CB) h7.pull8 rfl
                have Hbd3 := hide hb3
                have hll : ls.length ≤ 1000 := by omega
                have hop : 0 ≤ op ∧ op ≤ 1000 := by omega
                obtain ⟨hop1, hop2⟩ := hop
                obtain ⟨i0, hi, hz0, hz1, hz2⟩ := info_parts Try.infoCh
                clear h4 h6 hg hk0 hk3 hk4 hk5 hb3
                go_wp2_with fail
                refine wp_region_line [0, 1, 2, 3, 4, 5, 6, 7, 8, 9, 10, 11] rfl (by kernel_rfl) ?_
                simp only [picks_cons, picks_nil, getD_zero, getD_succ]
                go_wp2_with (at_builtin; go_loud (refine wpList_append_row rfl _ _ _ rfl 36 i0 _ 3 32 Try.underlying40 hi hz0 hz1 hz2 rfl (by decide) _ _ _ rfl (h7.alloc _).drew.pull3 _ 1 1 c.cells rfl rfl ?c1 ?c2 ?c3 ?c4 ?_))
                case c1 => exact fun j u hu => new_cells rfl j u hu
                case c2 => intro u hu; simp [Ch.cells] at hu; rcases hu with rfl | rfl | rfl <;> rfl
                case c3 => unfold maxLen; omega
                case c4 => omega
                intro a8 c8 w8 h8
                have hc1 := At.cell (i := 0) h8.pull3 rfl
                have hc2 := At.cell (i := 2) (v := .int .i64 op) h8.pull3 rfl
                have hf8 := At.frz h8.pull3
                clear hc0 hf7 hq3 hq4 hq5 h7
                go_wp2_with fail
                refine ⟨by kernel_rfl, ?_⟩
                go_wp2_with fail
                go_meet
                refine ⟨st, upd d N ⟨ls ++ [c], sv, op + 1⟩, Hbd.out.up.upd (by have := Hbd3.out; simp; omega) Hbd3.out.2.1 (by show 0 ≤ op + 1; omega) (by have := Hbd3.out; show op + 1 ≤ _; omega), ?_⟩
                have h9 := (h8.pull3.set 0 (.slice a8 (ls.length + 1) c8)).set 2 (.int .i64 (op + 1))
                simp only [List.setIfInBounds_toArray, List.set_cons_zero, List.set_cons_succ] at h9
                have h10 : At W (txl b2 (ls ++ [c]) sv (op + 1) * _) _ := At.txl_shut (v := .slice a8 (ls.length + 1) c8) (vs := vs) (by rw [chs_snoc, List.length_append]; exact h9.pull3.r)
                rw [HE.out]
                exact h10.cast (by ac_rfl)
            · as_aux_lemma =>
              rw [hkk]
              clear hkk
              have h5 := h4.cast (show _ = tbl T (pA st) * (lar M st * ((two (st 1) (d 1) * (two (st 2) (d 2) * two (st 3) (d 3))) * (pt CB (.cells #[.int .i64 ck, .int .i64 cn, .int .i64 ct, .int .i64 c.p, .int .i64 c.s, .string c.b] 54) * (old W * 1)))) by unfold full; ac_rfl)
              rcases sel_cases st N hN3 with ⟨hs, hgo⟩ | ⟨b1, b2, hn3, hst, hs, hgo⟩
              · have hg := get_any W _ _ T (pA st) (N : Int) h5
                rw [hgo, ptr_none] at hg
                rw [hs, ptr_none]
                clear hm hs hgo h5
                go_wp2_with fail
                refine hg.mono ?_
                rintro e6 w6 ⟨rfl, rfl⟩
                go_wp2_with fail
                refine (pop_nil_at W _ _ h4).mono ?_
                rintro e7 w7 ⟨rfl, h7⟩
                have h8 := h7.alloc (.cells #[.int .i64 0, .int .i64 0, .string ⟨#[]⟩] 36)
                go_wp2_with fail
                refine wp_region_line [0, 1, 2, 3, 4, 5, 6, 7, 8, 9, 10, 11, 12, 13, 14, 15, 16, 17, 18, 19, 20, 21, 22, 23, 24, 25, 26, 27, 28, 29, 30] rfl (by kernel_rfl) ?_
                simp only [picks_cons, picks_nil, getD_zero, getD_succ]
                go_wp2_with fail
                refine ⟨by kernel_rfl, ?_⟩
                go_wp2_with fail
                go_meet
                exact ⟨st, d, Hbd.out.up, h8.drew.r⟩
              · rw [hs, ptr_some]
                obtain ⟨C, hC, hE⟩ := full_at0 (T := T) (d := d) (A := lar M st) hn3 hst
                rw [hC] at h4
                have HE := hide hE
                have HC := hide hC
                have hb3 := Hbd.out N
                have hg := get_any W _ _ T (pA st) (N : Int) h5
                rw [hgo, ptr_some] at hg
                clear hm hs hC hE h5 hgo
                generalize (d N).l = ls at *
                generalize (d N).sv = sv at *
                generalize (d N).ops = op at *
                have Hbd3 := hide hb3
                clear hb3 hk0
                rcases list_last ls with rfl | ⟨l0, c0, rfl⟩
                · go_wp2_with fail
                  refine hg.mono ?_
                  rintro e6 w6 ⟨rfl, rfl⟩
                  go_wp2_with fail
                  refine (pop_empty W _ _ b1 sv op (h4.cast (show _ = txb b1 [] sv op * (txl b2 [] sv op * (tbl T (pA st) * (lar M st * (C * (pt CB (.cells #[.int .i64 ck, .int .i64 cn, .int .i64 ct, .int .i64 c.p, .int .i64 c.s, .string c.b] 54) * (old W * 1)))))) by ac_rfl))).mono ?_
                  rintro e7 w7 ⟨rfl, h7⟩
                  have h8 := h7.alloc (.cells #[.int .i64 0, .int .i64 0, .string ⟨#[]⟩] 36)
                  obtain ⟨v, vs, h9⟩ := h8.pull3.txl_open
                  obtain ⟨a9, c9, rfl⟩ := h9.pull2.row_len
                  have hc0 := At.cell (i := 0) h9 rfl
                  clear h9 hg h4
                  go_wp2_with fail
                  refine wp_region_line [0, 1, 2, 3, 4, 5, 6, 7, 8, 9, 10, 11, 12, 13, 14, 15, 16, 17, 18, 19, 20, 21, 22, 23, 24, 25, 26, 27, 28, 29, 30] rfl (by kernel_rfl) ?_
                  simp only [picks_cons, picks_nil, getD_zero, getD_succ]
                  go_wp2_with fail
                  refine ⟨by kernel_rfl, ?_⟩
                  go_wp2_with fail
                  go_meet
                  refine ⟨st, d, Hbd.out.up, ?_⟩
                  rw [HC.out]
                  exact h8.drew.r.cast (by ac_rfl)
                · have hl0 : l0.length ≤ 1000 := by have := Hbd3.out.1; simp at this; omega
                  go_wp2_with fail
                  refine hg.mono ?_
                  rintro e6 w6 ⟨rfl, rfl⟩
                  go_wp2_with fail
                  refine (pop_some W _ _ b1 l0 c0 sv op (h4.cast (show _ = txb b1 (l0 ++ [c0]) sv op * (txl b2 (l0 ++ [c0]) sv op * (tbl T (pA st) * (lar M st * (C * (pt CB (.cells #[.int .i64 ck, .int .i64 cn, .int .i64 ct, .int .i64 c.p, .int .i64 c.s, .string c.b] 54) * (old W * 1)))))) by ac_rfl)) hl0).mono ?_
                  rintro e7 w7 ⟨rfl, h7⟩
                  have h8 := h7.alloc (.cells #[.int .i64 c0.p, .int .i64 c0.s, .string c0.b] 36)
                  obtain ⟨v, vs, h9⟩ := h8.pull3.txl_open
                  rw [List.length_append] at h9
                  obtain ⟨g, c9, rfl, hle, hcell⟩ := h9.pull2.row_ptr (by simp)
                  obtain ⟨hx0, hx1, hx2⟩ := chs_trio (l0 ++ [c0]) l0.length c0 (by simp)
                  have hq0 := hcell _ _ hx0
                  have hq1 := hcell _ _ hx1
                  have hq2 := hcell _ _ hx2
                  have hc0 := At.cell (i := 0) h9 rfl
                  have hf9 := At.frz h9
                  have hne : b2 ≠ g := At.row_ne h9
                  have hlt := At.lt h9
                  clear hcell hx0 hx1 hx2 hg h4 h7
                  simp only [List.length_singleton] at hc0 hle h9
                  go_wp2_with fail
                  refine wp_region_line [0, 1, 2, 3, 4, 5, 6, 7, 8, 9, 10, 11, 12, 13, 14, 15, 16, 17, 18, 19, 20, 21, 22, 23, 24, 25, 26, 27, 28, 29, 30] rfl (by kernel_rfl) ?_
                  simp only [picks_cons, picks_nil, getD_zero, getD_succ]
                  go_wp2_with fail
                  refine ⟨by kernel_rfl, ?_⟩
                  go_wp2_with fail
                  refine wp_region_line [0, 1, 2, 3, 4, 5, 6, 7, 8, 9, 10, 11, 12, 13, 14] rfl (by kernel_rfl) ?_
                  simp only [picks_cons, picks_nil, getD_zero, getD_succ]
                  go_wp2_with fail
                  refine ⟨by kernel_rfl, ?_⟩
                  go_wp2_with fail
                  go_meet
                  refine ⟨st, upd d N ⟨l0, sv, op⟩, Hbd.out.up.upd (by have := Hbd3.out.1; simp at this; show l0.length ≤ _; omega) Hbd3.out.2.1 Hbd3.out.2.2.1 (by have := Hbd3.out; show op ≤ _; omega), ?_⟩
                  have h10 := (((h9.set' 0 (.slice (some ⟨g, 0, none⟩) l0.length c9) rfl).pull2.row_take (m := l0.length) (by omega)).pull2).drew.drew
                  have e1 : (chs (l0 ++ [c0])).take (l0.length * 3) = chs l0 := by rw [chs_snoc, ← chs_length l0]; exact List.take_left
                  rw [e1] at h10
                  rw [HE.out]
                  exact (At.txl_shut h10).pull2.r.cast (by ac_rfl)
            · as_aux_lemma =>
              rw [hkk]
              clear hkk
              have h5 := h4.cast (show _ = tbl T (pA st) * (lar M st * ((two (st 1) (d 1) * (two (st 2) (d 2) * two (st 3) (d 3))) * (pt CB (.cells #[.int .i64 ck, .int .i64 cn, .int .i64 ct, .int .i64 c.p, .int .i64 c.s, .string c.b] 54) * (old W * 1)))) by unfold full; ac_rfl)
              rcases sel_cases st N hN3 with ⟨hs, hgo⟩ | ⟨b1, b2, hn3, hst, hs, hgo⟩
              · have hg := get_any W _ _ T (pA st) (N : Int) h5
                rw [hgo, ptr_none] at hg
                rw [hs, ptr_none]
                clear hm hs hgo h5
                go_wp2_with fail
                refine hg.mono ?_
                rintro e6 w6 ⟨rfl, rfl⟩
                go_wp2_with fail
                refine (save_nil _).mono ?_
                rintro e7 w7 ⟨rfl, rfl⟩
                go_wp2_with fail
                go_meet
                exact ⟨st, d, Hbd.out.up, h4⟩
              · rw [hs, ptr_some]
                obtain ⟨C, hC, hE⟩ := full_at0 (T := T) (d := d) (A := lar M st) hn3 hst
                rw [hC] at h4
                have HE := hide hE
                have HC := hide hC
                have hb3 := Hbd.out N
                clear hm hs hC hE h5
                generalize (d N).l = ls at *
                generalize (d N).sv = sv at *
                generalize (d N).ops = op at *
                have h6 := h4.cast (show _ = txl b2 ls sv op * (tbl T (pA st) * (txb b1 ls sv op * (lar M st * (C * (pt CB (.cells #[.int .i64 ck, .int .i64 cn, .int .i64 ct, .int .i64 c.p, .int .i64 c.s, .string c.b] 54) * (old W * 1)))))) by ac_rfl)
                obtain ⟨v, vs, h7⟩ := h6.txl_open
                obtain ⟨a7, c7, rfl⟩ := h7.pull2.row_len
                obtain ⟨a8, c8, rfl⟩ := h7.pull3.row_len
                have hc0 := At.cell (i := 0) h7 rfl
                have hc1 := At.cell (i := 1) h7 rfl
                have hf7 := At.frz h7
                have Hbd3 := hide hb3
                have hll : ls.length ≤ 1000 := by omega
                have Hgo := hide hgo
                clear h4 hk0 hb3 hgo
                by_cases hs4 : sv.length < 4
                · have hs4' : (sv.length : Int) < 4 := by omega
                  obtain ⟨i0, hi, hz0, hz1, hz2⟩ := info_parts Try.infoInt
                  go_wp2_with fail
                  refine wp_region_line [0, 1, 2, 3, 4, 5, 6, 7, 8, 9, 10, 11, 12, 13, 14] rfl (by kernel_rfl) ?_
                  simp only [picks_cons, picks_nil, getD_zero, getD_succ]
                  go_wp2_with (at_builtin; go_loud (refine wpList_append_row rfl _ _ _ rfl 3 i0 _ 1 8 Try.underlying22 hi hz0 hz1 hz2 rfl (by decide) _ _ _ rfl (h7.alloc _).drew.pull4 _ 1 1 [.int .i64 ls.length] rfl rfl (fun j u hu => new_cells rfl j u hu) (one_cells1 rfl) (by unfold maxLen; omega) (by omega) ?_))
                  intro a9 c9 w9 h9
                  have hd1 := At.cell (i := 1) h9.pull3 rfl
                  have hf9 := At.frz h9.pull3
                  clear hc0 hc1 hf7 h7 h6
                  go_wp2_with fail
                  refine ⟨by kernel_rfl, ?_⟩
                  have h10 := h9.pull3.set 1 (.slice a9 (sv.length + 1) c9)
                  simp only [List.setIfInBounds_toArray, List.set_cons_zero, List.set_cons_succ] at h10
                  have h12 : At W (txl b2 ls (sv ++ [(ls.length : Int)]) op * _) _ := At.txl_shut (v := .slice a7 ls.length c7) (vs := .slice a9 (sv.length + 1) c9) (by rw [List.length_append, List.map_append]; exact h10.pull3.r.pull3.pull2)
                  have hg := get_any W _ _ T (pA st) (N : Int) h12.pull2
                  rw [Hgo.out, ptr_some] at hg
                  have hsv := save_some W _ _ b1 ls sv op h12.pull3 hs4
                  clear h10 h12 h9
                  go_wp2_with fail
                  refine hg.mono ?_
                  rintro e13 w13 ⟨rfl, rfl⟩
                  go_wp2_with fail
                  refine hsv.mono ?_
                  rintro e14 w14 ⟨rfl, h14⟩
                  go_wp2_with fail
                  go_meet
                  refine ⟨st, upd d N ⟨ls, sv ++ [(ls.length : Int)], op⟩, Hbd.out.up.upd (by have := Hbd3.out; show ls.length ≤ _; omega) (by simp; omega) (by have := Hbd3.out; show 0 ≤ op; omega) (by have := Hbd3.out; show op ≤ _; omega), ?_⟩
                  rw [HE.out]
                  exact h14.cast (by ac_rfl)
                · have hs4' : (4 : Int) ≤ (sv.length : Int) := by omega
                  have hg := get_any W _ _ T (pA st) (N : Int) h6.pull2
                  rw [Hgo.out, ptr_some] at hg
                  have hsf := save_full W wa _ b1 ls sv op h6.pull3 (by have := Hbd3.out; omega)
                  clear h7
                  go_wp2_with fail
                  refine hg.mono ?_
                  rintro e6 w6 ⟨rfl, rfl⟩
                  go_wp2_with fail
                  refine hsf.mono ?_
                  rintro e7 w7 ⟨rfl, rfl⟩
                  go_wp2_with fail
                  go_meet
                  refine ⟨st, d, Hbd.out.up, ?_⟩
                  rw [HC.out]
                  exact h6.cast (by ac_rfl)
            · as_aux_lemma =>
              rw [hkk]
              clear hkk
              have hk2 := At.cell (i := 2) (b := CB) (h4.pull2) rfl
              have h5 := h4.cast (show _ = tbl T (pA st) * (lar M st * ((two (st 1) (d 1) * (two (st 2) (d 2) * two (st 3) (d 3))) * (pt CB (.cells #[.int .i64 ck, .int .i64 cn, .int .i64 ct, .int .i64 c.p, .int .i64 c.s, .string c.b] 54) * (old W * 1)))) by unfold full; ac_rfl)
              have hg := (get_any W _ _ T (pA st) (N : Int) h5.drew).mono (R' := fun e w' => e = .returned (ptr (got (pA st) (N : Int))) ∧ w' = wa.drew) fun _ _ ⟨he, hw⟩ => ⟨he, hw.symm⟩
              clear h5
              rcases sel_cases st N hN3 with ⟨hs, hgo⟩ | ⟨b1, b2, hn3, hst, hs, hgo⟩
              · rw [hgo, ptr_none] at hg
                rw [hs, ptr_none]
                clear hm hs hgo hk0
                go_wp2_with fail
                refine wp_region_still_line 4 [4, 5, 6, 7, 8, 9] rfl (by kernel_rfl) ?_
                simp only [List.take_succ_cons, List.take_zero]
                still_step
                still_call hg
                repeat still_step
                refine wpStill_nil ?_
                simp only [picks_cons, picks_nil, getD_zero, getD_succ]
                go_wp2_with fail
                refine (back_nil _ _).mono ?_
                rintro e7 w7 ⟨rfl, rfl⟩
                go_wp2_with fail
                refine ⟨by kernel_rfl, ?_⟩
                go_wp2_with fail
                refine wp_region_line [0, 1, 2, 3, 4, 5, 6, 7, 8, 9, 10, 11, 12, 13, 14, 15, 16, 17, 18, 19, 20, 21, 22, 23, 24, 25, 26, 27, 28, 29, 30, 31, 32, 33, 34] rfl (by kernel_rfl) ?_
                simp only [picks_cons, picks_nil, getD_zero, getD_succ]
                go_wp2_with fail
                refine ⟨by kernel_rfl, ?_⟩
                go_wp2_with fail
                go_meet
                exact ⟨st, d, Hbd.out.up, h4.drew.drew⟩
              · rw [hgo, ptr_some] at hg
                rw [hs, ptr_some]
                obtain ⟨C, hC, hE⟩ := full_at0 (T := T) (d := d) (A := lar M st) hn3 hst
                rw [hC] at h4
                have HE := hide hE
                have HC := hide hC
                have hb3 := Hbd.out N
                clear hm hs hgo hC hE hk0
                generalize (d N).l = ls at *
                generalize (d N).sv = sv at *
                generalize (d N).ops = op at *
                have hsv4 := hb3.2.1
                have Hbd3 := hide hb3
                clear hb3
                by_cases hat : 1 ≤ ct ∧ ct ≤ sv.length
                · obtain ⟨m, rfl⟩ : ∃ m : Nat, ct = ((m + 1 : Nat) : Int) := ⟨(ct - 1).toNat, by omega⟩
                  have hm : m < sv.length := by omega
                  clear hat
                  have hbk := back_m W wa.drew _ b1 ls sv op m (h4.drew.cast (show _ = txb b1 ls sv op * (txl b2 ls sv op * (tbl T (pA st) * (lar M st * (C * (pt CB (.cells #[.int .i64 ck, .int .i64 cn, .int .i64 ((m + 1 : Nat) : Int), .int .i64 c.p, .int .i64 c.s, .string c.b] 54) * (old W * 1)))))) by ac_rfl)) hm hsv4
                  go_wp2_with fail
                  refine wp_region_still_line 4 [4, 5, 6, 7, 8, 9] rfl (by kernel_rfl) ?_
                  simp only [List.take_succ_cons, List.take_zero]
                  still_step
                  still_call hg
                  repeat still_step
                  refine wpStill_nil ?_
                  simp only [picks_cons, picks_nil, getD_zero, getD_succ]
                  go_wp2_with fail
                  refine hbk.mono ?_
                  rintro e6 w6 ⟨rfl, h6⟩
                  obtain ⟨v, vs, h7⟩ := h6.pull2.txl_open
                  obtain ⟨g, c8, rfl, hle, hcell⟩ := h7.pull3.row_ptr (by omega)
                  have hel := hcell m (.int .i64 sv[m]) (by simp [hm])
                  have hc1 := At.cell (i := 1) h7 rfl
                  have hf7 := At.frz h7
                  have hlt := At.lt h7
                  have hne : b2 ≠ g := At.row_ne h7.pull3.pull2
                  have hq2 := At.cell (i := 2) (b := CB) h7.pull8 rfl
                  clear hcell hk2 hg hbk h4 h6
                  go_wp2_with fail
                  refine ⟨by kernel_rfl, ?_⟩
                  go_wp2_with fail
                  refine wp_region_line [0, 1, 2, 3, 4, 5, 6, 7, 8, 9, 10, 11, 12, 13, 14, 15, 16, 17, 18, 19, 20, 21, 22, 23, 24, 25, 26, 27, 28, 29, 30, 31, 32, 33, 34] rfl (by kernel_rfl) ?_
                  simp only [picks_cons, picks_nil, getD_zero, getD_succ]
                  go_wp2_with fail
                  refine ⟨by kernel_rfl, ?_⟩
                  go_wp2_with fail
                  refine wp_region_line [0, 1, 2, 3, 4, 5, 6, 7, 8, 9, 10] rfl (by kernel_rfl) ?_
                  simp only [picks_cons, picks_nil, getD_zero, getD_succ]
                  go_wp2_with fail
                  refine ⟨by kernel_rfl, ?_⟩
                  go_wp2_with fail
                  go_meet
                  refine ⟨st, upd d N ⟨ls, sv.take (m + 1), op⟩, Hbd.out.up.upd (by have := Hbd3.out; show ls.length ≤ _; omega) (by simp; omega) (by have := Hbd3.out; show 0 ≤ op; omega) (by have := Hbd3.out; show op ≤ _; omega), ?_⟩
                  have h9 := ((h7.set' (d := #[v, .slice (some ⟨g, 0, none⟩) (m + 1) c8, .int .i64 op]) 1 (.slice (some ⟨g, 0, none⟩) (m + 1) c8) rfl).pull3.row_take (m := m + 1) (by omega)).drew.drew
                  rw [Nat.mul_one, ← List.map_take] at h9
                  have e1 : (sv.take (m + 1)).length = m + 1 := by simp; omega
                  have h10 := At.txl_shut (saves := sv.take (m + 1)) (R := txb b1 ls (sv.take (m + 1)) op * (tbl T (pA st) * (lar M st * (C * (pt CB (.cells #[.int .i64 ck, .int .i64 cn, .int .i64 ((m + 1 : Nat) : Int), .int .i64 c.p, .int .i64 c.s, .string c.b] 54) * (old W * 1)))))) (by rw [e1]; exact h9.cast (by ac_rfl))
                  rw [HE.out]
                  exact h10.cast (by ac_rfl)
                · have hbk := back_no W wa.drew _ b1 ls sv op ct (h4.drew.cast (show _ = txb b1 ls sv op * (txl b2 ls sv op * (tbl T (pA st) * (lar M st * (C * (pt CB (.cells #[.int .i64 ck, .int .i64 cn, .int .i64 ct, .int .i64 c.p, .int .i64 c.s, .string c.b] 54) * (old W * 1)))))) by ac_rfl)) hat
                  have h6 := h4.cast (show _ = txl b2 ls sv op * (tbl T (pA st) * (txb b1 ls sv op * (lar M st * (C * (pt CB (.cells #[.int .i64 ck, .int .i64 cn, .int .i64 ct, .int .i64 c.p, .int .i64 c.s, .string c.b] 54) * (old W * 1)))))) by ac_rfl)
                  obtain ⟨v, vs, h7⟩ := h6.txl_open
                  obtain ⟨a8, c8, rfl⟩ := h7.pull3.row_len
                  have hc1 := At.cell (i := 1) h7 rfl
                  clear h7 h6
                  by_cases ha1 : 1 ≤ ct
                  · have ha2 : (sv.length : Int) < ct := by omega
                    clear hat
                    go_wp2_with fail
                    refine wp_region_still_line 4 [4, 5, 6, 7, 8, 9] rfl (by kernel_rfl) ?_
                    simp only [List.take_succ_cons, List.take_zero]
                    still_step
                    still_call hg
                    repeat still_step
                    refine wpStill_nil ?_
                    simp only [picks_cons, picks_nil, getD_zero, getD_succ]
                    go_wp2_with fail
                    refine hbk.mono ?_
                    rintro e7 w7 ⟨rfl, rfl⟩
                    go_wp2_with fail
                    refine ⟨by kernel_rfl, ?_⟩
                    go_wp2_with fail
                    refine wp_region_line [0, 1, 2, 3, 4, 5, 6, 7, 8, 9, 10, 11, 12, 13, 14, 15, 16, 17, 18, 19, 20, 21, 22, 23, 24, 25, 26, 27, 28, 29, 30, 31, 32, 33, 34] rfl (by kernel_rfl) ?_
                    simp only [picks_cons, picks_nil, getD_zero, getD_succ]
                    go_wp2_with fail
                    refine ⟨by simp only [Int.not_le.2 ha2, decide_false]; kernel_rfl, ?_⟩
                    go_wp2_with fail
                    go_meet
                    refine ⟨st, d, Hbd.out.up, ?_⟩
                    rw [HC.out]
                    exact h4.drew.drew
                  · clear hat
                    go_wp2_with fail
                    refine wp_region_still_line 4 [4, 5, 6, 7, 8, 9] rfl (by kernel_rfl) ?_
                    simp only [List.take_succ_cons, List.take_zero]
                    still_step
                    still_call hg
                    repeat still_step
                    refine wpStill_nil ?_
                    simp only [picks_cons, picks_nil, getD_zero, getD_succ]
                    go_wp2_with fail
                    refine hbk.mono ?_
                    rintro e7 w7 ⟨rfl, rfl⟩
                    go_wp2_with fail
                    refine ⟨by kernel_rfl, ?_⟩
                    go_wp2_with fail
                    refine wp_region_line [0, 1, 2, 3, 4, 5, 6, 7, 8, 9, 10, 11, 12, 13, 14, 15, 16, 17, 18, 19, 20, 21, 22, 23, 24, 25, 26, 27, 28, 29, 30, 31, 32, 33, 34] rfl (by kernel_rfl) ?_
                    simp only [picks_cons, picks_nil, getD_zero, getD_succ]
                    go_wp2_with fail
                    refine ⟨by kernel_rfl, ?_⟩
                    go_wp2_with fail
                    go_meet
                    refine ⟨st, d, Hbd.out.up, ?_⟩
                    rw [HC.out]
                    exact h4.drew.drew
          case rest =>
            obtain ⟨st', d', hbd', h7⟩ := hcut
            have h8 := h7.cast (show _ = lar M st' * (full T st' d' 1 * (pt CB (.cells #[.int .i64 ck, .int .i64 cn, .int .i64 ct, .int .i64 c.p, .int .i64 c.s, .string c.b] 54) * (old W * 1))) by rw [full_split]; ac_rfl)
            have hm0 := At.cell (i := 0) (v := .pointer none) h8 rfl
            have hm1 := At.cell (i := 1) (v := ptr (pB st' 1)) h8 rfl
            have hm2 := At.cell (i := 2) (v := ptr (pB st' 2)) h8 rfl
            have hm3 := At.cell (i := 3) (v := ptr (pB st' 3)) h8 rfl
            have Hbd' := hide hbd'
            clear h4 hm hk0 hcb h7 hbd'
            go_wp2_with fail
            refine (same_any W _ _ T st' d' (fun i => by have := (Hbd'.out i).1; omega) h8.pull2).mono ?_
            rintro e9 w9 ⟨rfl, h9⟩
            go_wp2_with fail
            go_roundw
            case rel => exact ⟨k + 1, st', d', by omega, by go_num, Hbd'.out, (h9.cast (show _ = pt CB (.cells #[.int .i64 ck, .int .i64 cn, .int .i64 ct, .int .i64 c.p, .int .i64 c.s, .string c.b] 54) * (full T st' d' (lar M st') * (old W * 1)) by rw [full_split T st' d' (lar M st')]; ac_rfl)).r⟩
            case measure => simp [intOf]; omega
      · have hkz : (n : Int) ≤ (k : Int) := by omega
        go_wp2
        go_ret
        exact ⟨rfl, h3.pull2.below⟩
end Go.Proofs.Ytmkcbadcmkhceaa
