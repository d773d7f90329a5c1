/-
  page.Decode: a contract, no statement.
-/
import Derived.Test.YtmlifjfgelfbbaaEE
import Derived.Test.YtmlifjfgelfbbaaGd
import Derived.Test.YtmlifjfgelfbbaaRR
import Derived.Deep.DeepCutAuto
import Derived.Deep.RegionHeld3
namespace Go.Proofs.Ytmlifjfgelfbbaa
open Go Go.RowKit

def decPg (b : List UInt8) (t n : Nat) : Pg := if decOk b t n then Pg.dec b t n else pg0
def decE (b : List UInt8) (t n : Nat) : Nat := if decOk b t n then 0 else 11
/-- What stands behind the first marks. -/
def ldN (b : List UInt8) : Nat → List UInt8
  | 0 => []
  | i + 1 => ldN b i ++ (b.drop (64 * i + 8)).take 56
theorem ldN_len {b : List UInt8} (h : b.length = 256) : ∀ i, i ≤ 4 → (ldN b i).length = 56 * i
  | 0, _ => rfl
  | i + 1, hi => by
    rw [ldN, List.length_append, ldN_len h i (by omega), List.length_take, List.length_drop]
    omega
theorem ldN_loads (b : List UInt8) : ldN b 4 = loads b := by simp [ldN, loads]
theorem loads_len {b : List UInt8} (h : b.length = 256) : (loads b).length = 224 := by rw [← ldN_loads, ldN_len h 4 (by decide)]

/-- How far the reader went over a page's head. -/
def decQ (m q t n : Nat) (L : List UInt8) : Prop := (m = 0 ∧ q = 0) ∨ (m ≠ 0 ∧ q = 4 ∧ num (L.take 2) = t ∧ num ((L.drop 2).take 2) = n)
def decMeet (w0 : World) (A RL : HP) (X Y r m t n : Nat) (L bs : List UInt8) (u : Value) (wc : World) : Prop :=
  (u = .bool true ∧ decOk bs t n = false ∧ ∃ J : HP, At w0 (pgB X pg0 * (A * J)) wc) ∨
  (u = .bool false ∧ ∃ (q : Nat) (a : Option Addr) (c : Nat), decQ m q t n L ∧ RdIn w0 RL (.slice a (Rs.mk (L.drop q) false).bs.length c) (L.drop q) ∧ At w0 (rdr r a c ⟨L.drop q, false⟩ * (pgB Y ⟨m, t, n, zs 200⟩ * (pgB X pg0 * A) * RL)) wc)
theorem decOk_torn {b : List UInt8} {t n : Nat} (h : decOk b t n = false) : decPg b t n = pg0 ∧ decE b t n = 11 := by
  unfold decPg decE
  rw [h]
  exact ⟨rfl, rfl⟩
theorem decOk_ids {b : List UInt8} {t n : Nat} (h0 : num (b.take 8) ≠ 0) (h : ¬ (num ((loads b).take 2) = t ∧ num (((loads b).drop 2).take 2) = n)) : decOk b t n = false := by
  unfold decOk
  have e1 : decide (num (b.take 8) = 0) = false := decide_eq_false h0
  have e2 : (decide (num ((loads b).take 2) = t) && decide (num (((loads b).drop 2).take 2) = n)) = false := by
    rw [← Bool.not_eq_true, Bool.and_eq_true, decide_eq_true_eq, decide_eq_true_eq]
    exact h
  rw [e1, e2]
  rfl
/-- A page's slots, when the first have come. -/
def slN (L : List UInt8) (i : Nat) : List UInt8 := (L.drop 4).take (40 * i) ++ zs (200 - 40 * i)
theorem slN_len {L : List UInt8} (h : L.length = 224) {i : Nat} (hi : i ≤ 5) : (slN L i).length = 200 := by
  rw [slN, List.length_append, List.length_take, List.length_drop, zs_len]
  omega
theorem slN_step {L : List UInt8} (h : L.length = 224) {i : Nat} (hi : i < 5) : slN L (i + 1) = (slN L i).take (40 * i) ++ ((L.drop (4 + 40 * i)).take 40 ++ (slN L i).drop (40 * i + 40)) := by
  have hl : ((L.drop 4).take (40 * i)).length = 40 * i := by rw [List.length_take, List.length_drop]; omega
  have h1 : (slN L i).take (40 * i) = (L.drop 4).take (40 * i) := by
    unfold slN
    have := List.take_left (l₁ := (L.drop 4).take (40 * i)) (l₂ := zs (200 - 40 * i))
    rwa [hl] at this
  have h2 : (slN L i).drop (40 * i + 40) = zs (200 - 40 * (i + 1)) := by
    unfold slN
    have := List.drop_append (l₁ := (L.drop 4).take (40 * i)) (l₂ := zs (200 - 40 * i)) (i := 40 * i + 40)
    rw [this, hl, List.drop_eq_nil_of_le (by rw [hl]; omega), List.nil_append]
    unfold zs
    rw [List.drop_replicate]
    congr 1
    omega
  rw [h1, h2, slN, show 40 * (i + 1) = 40 * i + 40 by omega, List.take_add, List.append_assoc, List.drop_drop]
theorem slN_dec {b : List UInt8} {t n : Nat} {m : Nat} (hm : num (b.take 8) = m) {i : Nat} (hi : (m = 0 ∧ i = 0) ∨ (m ≠ 0 ∧ i = 5)) : Pg.mk m t n (slN (loads b) i) = Pg.dec b t n := by
  unfold Pg.dec
  rw [hm]
  rcases hi with ⟨rfl, rfl⟩ | ⟨h0, rfl⟩
  · rw [if_pos rfl]
    rfl
  · rw [if_neg h0]
    unfold slN
    simp [zs]
theorem pg_cells_splice (m t n : Nat) (s ys : List UInt8) (i : Nat) (hy : ys.length = 40) :
    (Pg.mk m t n (s.take (40 * i) ++ (ys ++ s.drop (40 * i + 40)))).cells = (Pg.mk m t n s).cells.take (3 + i * 40) ++ (bys ys ++ (Pg.mk m t n s).cells.drop (3 + i * 40 + (bys ys).length)) := by
  have e1 : 3 + i * 40 = 40 * i + 3 := by omega
  have e2 : 40 * i + 3 + (bys ys).length = (40 * i + 40) + 3 := by have := bys_len ys; omega
  rw [e1, e2]
  unfold Pg.cells
  rw [bys_append, bys_append, ← bys_take, ← bys_drop]
  rfl
theorem num8 (l : List UInt8) : num (l.take 8) < 2 ^ 64 :=
  Nat.lt_of_lt_of_le (num_lt _) (Nat.le_trans (Nat.pow_le_pow_right (by decide) (show (l.take 8).length ≤ 8 by rw [List.length_take]; omega)) (by decide))
theorem num2 (l : List UInt8) : num (l.take 2) < 65536 :=
  Nat.lt_of_lt_of_le (num_lt _) (Nat.le_trans (Nat.pow_le_pow_right (by decide) (show (l.take 2).length ≤ 2 by rw [List.length_take]; omega)) (by decide))

theorem Pg.dec_wf {b : List UInt8} {t n : Nat} (hb : b.length = 256) (ht : t < 65536) (hn : n < 65536) : (Pg.dec b t n).Wf := by
  refine ⟨?_, num8 b, ht, hn⟩
  unfold Pg.dec
  show (if num (b.take 8) = 0 then zs 200 else ((loads b).drop 4).take 200).length = 200
  split
  · exact zs_len 200
  · rw [List.length_take, List.length_drop, loads_len hb]
    rfl
theorem decOk_enc {b : List UInt8} {t n : Nat} (h : (Pg.dec b t n).enc ≠ b) : decOk b t n = false := by
  unfold decOk
  rw [decide_eq_false h, Bool.false_and, Bool.and_false]
theorem decOk_slot {b : List UInt8} {t n i : Nat} (hi : i < 5) (h : rowSt (slotAt (Pg.dec b t n).slots i) = 9) : decOk b t n = false := by
  have : ((List.range 5).all fun i => decide (rowSt (slotAt (Pg.dec b t n).slots i) ≠ 9)) = false := by
    rw [← Bool.not_eq_true, List.all_eq_true]
    intro hh
    have := hh i (List.mem_range.2 hi)
    rw [decide_eq_true_eq] at this
    exact this h
  unfold decOk
  rw [this, Bool.and_false, Bool.and_false]
theorem decOk_yes {b : List UInt8} {t n q : Nat} (hq : decQ (num (b.take 8)) q t n (loads b)) (h : (Pg.dec b t n).enc = b) (hs : ∀ i, i < 5 → rowSt (slotAt (Pg.dec b t n).slots i) ≠ 9) : decOk b t n = true := by
  unfold decOk
  have h1 : (decide (num (b.take 8) = 0) || (decide (num ((loads b).take 2) = t) && decide (num (((loads b).drop 2).take 2) = n))) = true := by
    rw [Bool.or_eq_true, Bool.and_eq_true, decide_eq_true_eq, decide_eq_true_eq, decide_eq_true_eq]
    rcases hq with ⟨h0, _⟩ | ⟨_, _, h2, h3⟩
    · exact .inl h0
    · exact .inr ⟨h2, h3⟩
  have h3 : ((List.range 5).all fun i => decide (rowSt (slotAt (Pg.dec b t n).slots i) ≠ 9)) = true := by
    rw [List.all_eq_true]
    intro i hi
    rw [decide_eq_true_eq]
    exact hs i (List.mem_range.1 hi)
  rw [h1, h3, decide_eq_true h]
  rfl
theorem rs_take {l : List UInt8} {k : Nat} (h : k ≤ l.length) : (Rs.mk l false).take k = (l.take k, ⟨l.drop k, false⟩) := by
  unfold Rs.take Rs.fails
  have : ¬ l.length < k := by omega
  simp [this]
set_option maxRecDepth 100000 in
set_option maxHeartbeats 8000000 in
theorem pageDecode_any (w0 w : World) (A : HP) (a : Option Addr) (c : Nat) (bs : List UInt8) (t n : Nat) (hl : bs.length = 256) (ht : t < 65536) (hn : n < 65536) (hA : RdIn w0 A (.slice a 256 c) bs) (h : At w0 A w) :
    Calls Try.prog 35 #[.slice a 256 c, .int .i64 t, .int .i64 n] w fun e w' => e = .returned (.tuple #[.agg (decPg bs t n).cells.toArray, .int .i64 (decE bs t n)]) ∧ At w0 A w' := by
  obtain ⟨i0, hi, hz0, hz1, hz2⟩ := info_parts Try.info8
  obtain ⟨pg, hpg⟩ : ∃ p, decPg bs t n = p := ⟨_, rfl⟩
  obtain ⟨er, her⟩ : ∃ p, decE bs t n = p := ⟨_, rfl⟩
  rw [hpg, her]
  have Hpg := hide hpg
  have Her := hide her
  clear hpg her
  obtain ⟨g, o, rfl, -⟩ := (hA w h).get (by decide)
  have hcc := (hA w h).len.2
  obtain ⟨X, hX⟩ : ∃ N, w.heap.size = N := ⟨_, rfl⟩
  have h1 : At w0 (pgB X pg0 * A) (w.alloc (.cells pg0.cells.toArray 41)) := h.alloc' hX _
  have HA := hide hA
  clear hA h
  go_enter Try.func35, Try.ntmps35
  go_upto_region 0 with fail
  refine wp_region_lit ?_
  refine wpList_alloc_at rfl _ rfl (Try.zeroPage w) ?_
  rw [hX]
  generalize hw1 : w.alloc _ = w1 at h1 ⊢
  clear hw1 hX
  go_upto_region 1 with fail
  refine wp_region_lit ?_
  refine wpList_move_at rfl (.tmp 1) rfl rfl ?_
  refine wpList_move_at rfl (.tmp 2) rfl rfl ?_
  refine wpList_build2_at rfl _ 1 2 (.tmp 16) (.tmp 17) rfl rfl rfl (Try.build2Page t n w1) ?_
  obtain ⟨Y, hY⟩ : ∃ N, w1.heap.size = N := ⟨_, rfl⟩
  have h2 : At w0 (pgB Y pg0 * (pgB X pg0 * A)) (w1.alloc (.cells pg0.cells.toArray 41)) := h1.alloc' hY _
  refine wpList_alloc_at rfl _ rfl (Try.zeroPage w1) ?_
  rw [hY]
  refine Try.wpList_storePg rfl (.tmp 8) (.tmp 18) rfl (q' := ⟨0, t, n, zs 200⟩) (zs_len 200) (zs_len 200) rfl rfl h2 ?_
  intro w2 h3
  clear hY h1 h2
  go_upto_region 2 with fail
  simp only [Act.put, List.setIfInBounds_toArray, List.set_cons_succ, List.set_cons_zero]
  have hnew := packNew_any w0 w2 _ (.slice (some ⟨g, o, none⟩) 256 c) h3 ⟨_, _, _, rfl⟩
  go_wp2_with fail
  refine hnew.mono ?_
  rintro e w3 ⟨r, rfl, h4⟩
  clear hnew
  have h5 : At w0 (rdr r (some ⟨g, o, none⟩) c ⟨bs, false⟩ * (pgB Y ⟨0, t, n, zs 200⟩ * pgB X pg0 * A)) w3 := by
    show At w0 (cel r #[.slice (some ⟨g, o, none⟩) bs.length c, .bool false] _ * _) w3
    rw [hl]
    exact h4.cast (by ac_rfl)
  have hr1 : RdIn w0 A (.slice (some ⟨g, o, none⟩) (Rs.mk bs false).bs.length c) (Rs.mk bs false).bs := by
    show RdIn w0 A (.slice _ bs.length c) bs
    rw [hl]
    exact HA.out
  have hnum := packNum_any w0 w3 A _ r _ c 8 ⟨bs, false⟩ (by decide) (by decide) (by rw [hl]; decide) hr1 h5
  rw [rs_take (by rw [hl]; decide)] at hnum
  change Calls _ _ #[_, .int .i64 8] _ _ at hnum
  simp only at hnum
  obtain ⟨m0, hm0⟩ : ∃ m, num (bs.take 8) = m := ⟨_, rfl⟩
  have hm64 : m0 < 2 ^ 64 := by rw [← hm0]; exact num8 bs
  rw [hm0] at hnum
  have Hm0 := hide hm0
  clear hm0 h3 h4 h5 hr1
  go_wp2_with fail
  refine hnum.mono ?_
  rintro e w4 ⟨a4, c4, rfl, -, h6⟩
  clear hnum
  have h7 := (h6.cast (show _ = pgB Y ⟨0, t, n, zs 200⟩ * (pgB X pg0 * A) * rdr r a4 c4 ⟨bs.drop 8, false⟩ by ac_rfl)).l
  clear h6
  have v0 := At.cell (i := 0) h7 rfl
  have f0 := At.frz h7 0
  have fl := At.lt h7
  go_upto_region 5 with fail
  have h8 : At w0 (pgB Y ⟨m0, t, n, zs 200⟩ * (pgB X pg0 * A)) (w4.setCell ⟨Y, 0, none⟩ (.int .u64 m0)) := h7.set' 0 (.int .u64 m0) rfl
  generalize hw5 : w4.setCell _ _ = w5 at h8 ⊢
  clear hw5 h7 v0 f0 fl
  go_wp2_with fail
  go_loopw [9, 27] (fun u9 u27 wr => ∃ (i : Nat) (ar : Option Addr) (cp : Nat), i ≤ 4 ∧ u27 = .int .i64 i ∧ u9 = .slice ar (56 * i) cp ∧ At w0 (row 5 1 (.slice ar (56 * i) cp) (56 * i) (bys (ldN bs i)) * (pgB Y ⟨m0, t, n, zs 200⟩ * (pgB X pg0 * A))) wr) (fun _ u _ => 4 - (intOf u).toNat)
  case atStart => exact ⟨0, none, 0, Nat.zero_le _, rfl, rfl, h8.row_nil _ _⟩
  case round =>
    obtain ⟨i, ar, cp, hile, rfl, rfl, h9⟩ := hrel
    clear h8
    by_cases hil : i < 4
    · have hilz : (i : Int) < 4 := by omega
      obtain ⟨s, hs⟩ : ∃ s, 64 * i + 8 = s := ⟨_, rfl⟩
      obtain ⟨s2, hs2⟩ : ∃ y, s + 56 = y := ⟨_, rfl⟩
      obtain ⟨s1, hs1⟩ : ∃ y, 64 * i = y := ⟨_, rfl⟩
      have e0 : (i : Int) * 64 = (s1 : Int) := by omega
      have e1 : (s1 : Int) + 8 = (s : Int) := by omega
      have e2 : ((i : Int) + 1) * 64 = (s2 : Int) := by omega
      have g0 := IntWalk.i64_in (s1 : Int) (by omega)
      have g1 := IntWalk.i64_in (s : Int) (by omega)
      have g2 := IntWalk.i64_in (s2 : Int) (by omega)
      have g3 := IntWalk.i64_in ((i : Int) + 1) (by omega)
      have hrd := (HA.out wr h9.r.r.r).mid s 56 (by omega)
      have hq : s2 - s = 56 := by omega
      obtain ⟨ys, hys⟩ : ∃ ys, (bs.drop s).take 56 = ys := ⟨_, rfl⟩
      rw [hys] at hrd
      have hyl : (bys ys).length = 56 := by rw [bys_len, ← hys, List.length_take, List.length_drop]; omega
      have Hys := hide hys
      have Hs := hide hs
      clear hys hs1
      have hsc : s2 ≤ c := by omega
      go_wp2_with (at_builtin; go_loud (refine wpList_append_rdm rfl _ _ 32 rfl 5 i0 _ 1 Try.underlying32 hi hz0 hz1 hz2 rfl rfl rfl h9 hrd (bys_one _) (by unfold maxLen; rw [hyl]; omega) (by rw [hyl]; omega) (56 * (i + 1)) (bys (ldN bs (i + 1))) (by rw [hyl]; omega) (by rw [ldN, Hs.out, Hys.out]; simp [bys_append]) ?_))
      intro a11 c11 w11 h11
      clear h9 hrd
      go_wp2_with fail
      go_roundw
      case rel => exact ⟨i + 1, a11, c11, by omega, by go_num, rfl, h11⟩
      case measure => simp [intOf] <;> omega
    · obtain rfl : i = 4 := by omega
      rw [ldN_loads] at h9
      have hLl := loads_len hl
      obtain ⟨L, hL⟩ : ∃ L, loads bs = L := ⟨_, rfl⟩
      rw [hL] at h9 hLl
      have HL := hide hL
      clear hL hile hil
      rw [show (56 * 4 : Nat) = 224 from rfl] at h9 ⊢
      have hnew2 := packNew_any w0 wr _ (.slice ar 224 cp) h9 ⟨_, _, _, rfl⟩
      go_wp2_with fail
      refine hnew2.mono ?_
      rintro e w6 ⟨r2, rfl, h10⟩
      clear hnew2 h9
      obtain ⟨RL, hRL⟩ : ∃ R : HP, row 5 1 (.slice ar 224 cp) 224 (bys L) = R := ⟨_, rfl⟩
      have hrL : RdIn w0 RL (.slice ar (Rs.mk L false).bs.length cp) (Rs.mk L false).bs := by
        show RdIn w0 RL (.slice ar L.length cp) L
        rw [hLl, ← hRL]
        exact fun w' h' => h'.one.rd
      have h11 : At w0 (rdr r2 ar cp ⟨L, false⟩ * (pgB Y ⟨m0, t, n, zs 200⟩ * (pgB X pg0 * A) * RL)) w6 := by
        show At w0 (cel r2 #[.slice ar L.length cp, .bool false] _ * _) w6
        rw [hLl, ← hRL]
        exact h10.cast (by ac_rfl)
      have HRL := hide hRL
      have HrL := hide hrL
      clear h10 hRL hrL
      go_upto_region 12 with fail
      go_cut [59] (fun u59 wc => decMeet w0 A RL X Y r2 m0 t n L bs u59 wc)
      case first =>
        have c0 : w6.cell? ⟨Y, 0, none⟩ = some (.int .u64 m0) := At.cell h11.pull2.assoc rfl
        by_cases hm : m0 = 0
        · obtain rfl : m0 = 0 := hm
          go_wp2_with fail
          go_meet
          exact .inr ⟨rfl, 0, ar, cp, .inl ⟨rfl, rfl⟩, HrL.out, h11⟩
        · have hmz : (0 : Int) < (m0 : Int) := by omega
          have hn1 := packNum_any w0 w6 RL _ r2 ar cp 2 ⟨L, false⟩ (by decide) (by decide) (by rw [hLl]; decide) HrL.out h11
          rw [rs_take (by rw [hLl]; decide)] at hn1
          change Calls _ _ #[_, .int .i64 2] _ _ at hn1
          simp only at hn1
          obtain ⟨x1, hx1⟩ : ∃ x, num (L.take 2) = x := ⟨_, rfl⟩
          have hx1l : x1 < 65536 := by rw [← hx1]; exact num2 L
          rw [hx1] at hn1
          have wx := IntWalk.i64_in (x1 : Int) (by omega)
          go_wp2_with fail
          refine hn1.mono ?_
          rintro e w7 ⟨a7, c7, rfl, hr7, h12⟩
          clear hn1 h11
          by_cases hxt : x1 = t
          · have hxz : (x1 : Int) = (t : Int) := by omega
            have hn2 := packNum_any w0 w7 RL _ r2 a7 c7 2 ⟨L.drop 2, false⟩ (by decide) (by decide) (by show (L.drop 2).length ≤ _; rw [List.length_drop, hLl]; decide) hr7 h12
            rw [rs_take (by rw [List.length_drop, hLl]; decide)] at hn2
            change Calls _ _ #[_, .int .i64 2] _ _ at hn2
            simp only at hn2
            obtain ⟨x2, hx2⟩ : ∃ x, num ((L.drop 2).take 2) = x := ⟨_, rfl⟩
            have hx2l : x2 < 65536 := by rw [← hx2]; exact num2 _
            rw [hx2] at hn2
            have wx2 := IntWalk.i64_in (x2 : Int) (by omega)
            go_wp2_with fail
            refine hn2.mono ?_
            rintro e w8 ⟨a8, c8, rfl, hr8, h13⟩
            clear hn2 h12 hr7
            by_cases hxn : x2 = n
            · have hxn' : (x2 : Int) = (n : Int) := by omega
              go_wp2_with fail
              go_meet
              refine .inr ⟨rfl, 4, a8, c8, .inr ⟨hm, rfl, by rw [hx1, hxt], by rw [hx2, hxn]⟩, ?_, ?_⟩
              · rw [List.drop_drop] at hr8
                exact hr8
              · rw [List.drop_drop] at h13
                exact h13
            · have hxn' : ¬ (x2 : Int) = (n : Int) := by omega
              go_wp2_with fail
              go_meet
              exact .inl ⟨by rw [show ((x2 : Int) != (n : Int)) = true from bne_iff_ne.2 hxn'], decOk_ids (by rw [Hm0.out]; exact hm) (by rw [HL.out]; rintro ⟨_, hh⟩; exact hxn (by rw [← hx2]; exact hh)), _, h13.cast (show _ = pgB X pg0 * (A * (rdr r2 a8 c8 ⟨(L.drop 2).drop 2, false⟩ * (pgB Y ⟨m0, t, n, zs 200⟩ * RL))) by ac_rfl)⟩
          · have hxz : ¬ (x1 : Int) = (t : Int) := by omega
            go_wp2_with fail
            go_meet
            exact .inl ⟨rfl, decOk_ids (by rw [Hm0.out]; exact hm) (by rw [HL.out]; rintro ⟨hh, _⟩; exact hxt (by rw [← hx1]; exact hh)), _, h12.cast (show _ = pgB X pg0 * (A * (rdr r2 a7 c7 ⟨L.drop 2, false⟩ * (pgB Y ⟨m0, t, n, zs 200⟩ * RL))) by ac_rfl)⟩
      case rest =>
        obtain ⟨rfl, hno, J, h12⟩ | ⟨rfl, q, a8, c8, hq, hr8, h12⟩ := hcut
        · have Hno := hide hno
          clear hno
          go_upto_region 13 with fail
          refine wp_region_lit ?_
          refine wpList_build0_at rfl _ rfl (Try.build0Page _) ?_
          refine Try.wpList_storePg rfl (.tmp 6) (.tmp 60) rfl (q' := pg0) (zs_len 200) (zs_len 200) rfl rfl (h12) ?_
          intro w99 h99
          simp only [Act.put, List.setIfInBounds_toArray, List.set_cons_succ, List.set_cons_zero]
          have hld := Try.loadPg (zs_len 200) h99
          go_wp2_with fail
          refine bodyPost_ret (v := .tuple #[.agg pg0.cells.toArray, .int .i64 11]) (results_cell_tmp rfl rfl rfl hld) rfl ?_
          have hno : decOk bs t n = false := Hno.out
          obtain ⟨q1, q2⟩ := decOk_torn hno
          exact ⟨by rw [← Hpg.out, ← Her.out, q1, q2]; rfl, h99.r.l⟩
        · have Hq := hide hq
          clear hq
          go_wp2_with fail
          go_loopw [12] (fun u12 wr => ∃ (i : Nat) (a : Option Addr) (c : Nat), i ≤ 5 ∧ u12 = .int .i64 i ∧ (m0 = 0 → i = 0) ∧ Hid (RdIn w0 RL (.slice a (Rs.mk (L.drop (q + 40 * i)) false).bs.length c) (L.drop (q + 40 * i))) ∧ At w0 (rdr r2 a c ⟨L.drop (q + 40 * i), false⟩ * (pgB Y ⟨m0, t, n, slN L i⟩ * (pgB X pg0 * A) * RL)) wr) (fun u _ => 5 - (intOf u).toNat)
          case atStart => exact ⟨0, a8, c8, Nat.zero_le _, rfl, fun _ => rfl, hr8, h12⟩
          case round =>
            obtain ⟨i, ar2, cr2, hile, rfl, hi0, hrr, h13⟩ := hrel
            clear h12
            have c0 : wr.cell? ⟨Y, 0, none⟩ = some (.int .u64 m0) := At.cell h13.pull2.assoc rfl
            by_cases hgo : m0 ≠ 0 ∧ i < 5
            · obtain ⟨hm, hil⟩ := hgo
              have hilz : (i : Int) < 5 := by omega
              have hmz : (0 : Int) < (m0 : Int) := by omega
              have hq4 : q = 4 := by
                rcases Hq.out with ⟨h0, _⟩ | ⟨_, h4, _⟩
                · exact absurd h0 hm
                · exact h4
              subst hq4
              have hdl : (L.drop (4 + 40 * i)).length = 220 - 40 * i := by rw [List.length_drop, hLl]; omega
              have htk := packTake_any w0 wr.drew RL _ r2 ar2 cr2 40 ⟨L.drop (4 + 40 * i), false⟩ (by show (L.drop (4 + 40 * i)).length ≤ _; omega) hrr.out h13.drew
              rw [rs_take (by rw [hdl]; omega)] at htk
              change Calls _ _ #[_, .int .i64 40] _ _ at htk
              simp only [List.drop_drop] at htk
              obtain ⟨ys, hys⟩ : ∃ ys, (L.drop (4 + 40 * i)).take 40 = ys := ⟨_, rfl⟩
              have hyl : ys.length = 40 := by rw [← hys, List.length_take, hdl]; omega
              rw [hys, hyl] at htk
              have Hys := hide hys
              have Hst := hide (slN_step hLl hil)
              clear hys hdl hi0
              go_upto_region 17 with fail
              refine wp_region_line [0, 1, 2, 3, 4, 5, 6] rfl (by kernel_rfl) ?_
              simp only [picks_cons, picks_nil, getD_zero, getD_succ]
              go_wp2_with fail
              refine htk.mono ?_
              rintro e w14 ⟨a14, c14, a15, c15, rfl, hr15, h14⟩
              have h15 := h14.cast (show _ = cel Y (Pg.mk m0 t n (slN L i)).cells.toArray 41 * (row 5 1 (.slice a14 40 c14) 40 (bys ys) * (rdr r2 a15 c15 ⟨L.drop (4 + 40 * i + 40), false⟩ * (pgB X pg0 * A * RL))) by unfold pgB; ac_rfl)
              have hrd := h15.pull2.rd
              have hcl : (Pg.mk m0 t n (slN L i)).cells.length = 203 := pg_len (slN_len hLl hile)
              have hbl : (bys ys).length = 40 := by rw [bys_len]; exact hyl
              have Hhr := hide hr15
              clear htk h13 h14 hrr c0 hr15
              go_wp2_with (refine wpList_copy_rd rfl (.tmp 73) (.tmp 75) 32 32 rfl 5 Try.underlying32 (by kernel_rfl) Y (3 + i * 40) 40 40 rfl rfl hrd (by rw [hbl]; decide) h15 (by rw [hcl, hbl]; omega) (bys_one _) (zs := (Pg.mk m0 t n (slN L (i + 1))).cells) (by rw [Hst.out, Hys.out]; exact pg_cells_splice m0 t n _ ys i hyl) ?_)
              intro w16 h16
              have h17 := (h16.cast (show _ = rdr r2 a15 c15 ⟨L.drop (4 + 40 * i + 40), false⟩ * (pgB Y ⟨m0, t, n, slN L (i + 1)⟩ * (pgB X pg0 * A) * RL) * row 5 1 (.slice a14 40 c14) 40 (bys ys) by unfold pgB; ac_rfl)).l
              clear h15 h16 hrd
              go_wp2_with fail
              refine ⟨by kernel_rfl, ?_⟩
              go_wp2_with fail
              go_roundw
              case rel => exact ⟨i + 1, a15, c15, by omega, by go_num, fun h0 => absurd h0 hm, by rw [show 4 + 40 * (i + 1) = 4 + 40 * i + 40 by omega]; exact Hhr.out, by rw [show 4 + 40 * (i + 1) = 4 + 40 * i + 40 by omega]; exact h17⟩
              case measure => simp [intOf] <;> omega
            · have hex : (m0 = 0 ∧ i = 0) ∨ (m0 ≠ 0 ∧ i = 5) := by
                by_cases hm : m0 = 0
                · exact .inl ⟨hm, hi0 hm⟩
                · exact .inr ⟨hm, by omega⟩
              have hD := slN_dec (b := bs) (t := t) (n := n) Hm0.out hex
              rw [HL.out] at hD
              obtain ⟨D, hDn⟩ : ∃ D, Pg.dec bs t n = D := ⟨_, rfl⟩
              rw [hDn] at hD
              rw [hD] at h13
              have hwf : D.Wf := by rw [← hDn]; exact Pg.dec_wf hl ht hn
              have HD := hide hDn
              have h18 := h13.cast (show _ = pgB Y D * (pgB X pg0 * (A * (rdr r2 ar2 cr2 ⟨L.drop (q + 40 * i), false⟩ * RL))) by ac_rfl)
              obtain ⟨J, hJ⟩ : ∃ J : HP, rdr r2 ar2 cr2 ⟨L.drop (q + 40 * i), false⟩ * RL = J := ⟨_, rfl⟩
              rw [hJ] at h18
              clear hD hgo h13 hJ hDn hrr
              have hway : (i < 5 ∧ m0 = 0) ∨ i = 5 := by omega
              rcases hway with ⟨hil, hm⟩ | hil
              · have hilz : (i : Int) < 5 := by omega
                have hmz : ¬ (0 : Int) < (m0 : Int) := by omega
                go_upto_region 18 with fail
                clear hil hm hilz hmz hi0 hile hex c0
                have hen := pageEncode_any w0 wr.drew _ D hwf h18.drew
                obtain ⟨Eb, hEb⟩ : ∃ x : ByteArray, ⟨D.enc.toArray⟩ = x := ⟨_, rfl⟩
                obtain ⟨Bb, hBb⟩ : ∃ x : ByteArray, ⟨bs.toArray⟩ = x := ⟨_, rfl⟩
                have hcv := fun l v ws (h : Rd ws v (bys l)) => run_txt (P := Try.prog) 32 5 9 Try.underlying32 Try.underlying5 Try.underlying9 (w := ws) (l := l) (v := v) h
                have hcb : ∀ ws, At w0 A ws → (convert 32 9 (.slice (some ⟨g, o, none⟩) 256 c)).run Try.prog ws = .ok (.string Bb) ws := fun ws hws => by
                  have := hcv bs _ ws (HA.out ws hws)
                  unfold str at this
                  rw [hBb] at this
                  exact this
                have HEb := hide hEb
                have HBb := hide hBb
                have Hcv := hide hcv
                have Hcb := hide hcb
                clear hEb hBb hcv hcb
                refine wp_region_two [3, 4] [0, 1, 2] [5] (fun ws => At w0 A ws) rfl (by kernel_rfl) h18.drew.r.r.l ?_
                refine hr_read (.slice (some ⟨g, o, none⟩) 256 c) rfl rfl (fun ws hws => exec_move rfl rfl) ?_
                refine hr_read (.string Bb) rfl rfl (fun ws hws => by
                  have := Hcb.out ws hws
                  go_simp) ?_
                refine lw_read (.agg D.cells.toArray) rfl rfl (exec_load rfl rfl (Try.loadPg hwf.slots h18.drew)) ?_
                refine lw_call 57 #[.agg D.cells.toArray] rfl rfl (by go_simp) ?_
                refine hen.mono ?_
                rintro e w19 ⟨a19, c19, rfl, h19⟩
                refine ⟨_, rfl, h19.r.r.r.l, ?_⟩
                have e19 := Hcv.out _ _ _ h19.rd
                unfold str at e19
                rw [HEb.out] at e19
                refine lw_read (.string Eb) rfl rfl (by go_simp) ?_
                clear hen
                show wpList _ _ _ _ _ _
                simp only [picks_cons, picks_nil, getD_zero, getD_succ, Act.put, List.setIfInBounds_toArray]
                go_wp2_with fail
                try dsimp only [Strict]
                have hEl : Eb.toList = D.enc := by rw [← HEb.out, ByteArray.toList_mk]
                have hBl : Bb.toList = bs := by rw [← HBb.out, ByteArray.toList_mk]
                have HEl := hide hEl
                have HBl := hide hBl
                clear e19 hEl hBl h18 hwf
                have hwf : D.slots.length = 200 := by rw [← HD.out]; exact (Pg.dec_wf hl ht hn).slots
                have h20 := h19.cast (show _ = pgB Y D * (pgB X pg0 * (A * (row 5 1 (.slice a19 256 c19) 256 (bys D.enc) * J))) by ac_rfl)
                obtain ⟨J2, hJ2⟩ : ∃ J2 : HP, row 5 1 (.slice a19 256 c19) 256 (bys D.enc) * J = J2 := ⟨_, rfl⟩
                rw [hJ2] at h20
                clear h19 hJ2
                cases hqq : (Eb.toList == Bb.toList) with
                | false =>
                  have Hno : Hid (decOk bs t n = false) := decOk_enc (by
                    rw [HD.out]
                    intro hh
                    rw [HEl.out, HBl.out, hh] at hqq
                    simp at hqq)
                  go_upto_region 19 with fail
                  refine wp_region_lit ?_
                  refine wpList_build0_at rfl _ rfl (Try.build0Page _) ?_
                  refine Try.wpList_storePg rfl (.tmp 6) (.tmp 83) rfl (q' := pg0) (zs_len 200) (zs_len 200) rfl rfl (h20.pull2) ?_
                  intro w99 h99
                  simp only [Act.put, List.setIfInBounds_toArray, List.set_cons_succ, List.set_cons_zero]
                  have hld := Try.loadPg (zs_len 200) h99
                  go_wp2_with fail
                  refine bodyPost_ret (v := .tuple #[.agg pg0.cells.toArray, .int .i64 11]) (results_cell_tmp rfl rfl rfl hld) rfl ?_
                  have hno : decOk bs t n = false := Hno.out
                  obtain ⟨q1, q2⟩ := decOk_torn hno
                  exact ⟨by rw [← Hpg.out, ← Her.out, q1, q2]; rfl, h99.r.r.l⟩
                | true =>
                  have Hyes : Hid (D.enc = bs) := by
                    rw [HEl.out, HBl.out] at hqq
                    exact hide (by simpa using hqq)
                  go_wp2_with fail
                  clear hqq
                  go_loopw [84] (fun u84 wr => ∃ (i : Nat) (J : HP), i ≤ 5 ∧ u84 = .int .i64 i ∧ Hid (∀ j, j < i → rowSt (slotAt D.slots j) ≠ 9) ∧ At w0 (pgB Y D * (pgB X pg0 * (A * J))) wr) (fun u _ => 5 - (intOf u).toNat)
                  case atStart => exact ⟨0, J2, Nat.zero_le _, rfl, hide (fun j hj => absurd hj (by omega)), h20⟩
                  case round =>
                    obtain ⟨k, J3, hkle, rfl, hks, h21⟩ := hrel
                    clear h20
                    by_cases hkl : k < 5
                    · have hklz : (k : Int) < 5 := by omega
                      have hsl : ((D.slots.drop (40 * k)).take 40).length = 40 := by rw [List.length_take, List.length_drop]; omega
                      have hrdc := rowDecode_any w0 _ _ (some ⟨Y, 3 + k * 40, none⟩) 40 ((D.slots.drop (40 * k)).take 40) hsl (fun w' h' => pg_rd h' hwf k hkl) h21
                      have hsa : (D.slots.drop (40 * k)).take 40 = slotAt D.slots k := by unfold slotAt; rw [Nat.mul_comm]
                      rw [hsa] at hrdc
                      obtain ⟨st, hst⟩ : ∃ st, rowSt (slotAt D.slots k) = st := ⟨_, rfl⟩
                      rw [hst] at hrdc
                      have Hst := hide hst
                      clear hst hsa hsl
                      go_wp2_with fail
                      refine hrdc.mono ?_
                      rintro e w22 ⟨tt, kk, ss, rfl, -, h22⟩
                      unfold str
                      have h23 := h22.alloc (.cells #[.int .i64 tt, .string ⟨kk.toArray⟩, .string ⟨ss.toArray⟩] 57)
                      clear hrdc h21
                      by_cases h9 : st = 9
                      · have h9z : (st : Int) = 9 := by omega
                        have Hno : Hid (decOk bs t n = false) := decOk_slot hkl (by rw [HD.out, Hst.out]; exact h9)
                        go_upto_region 25 with fail
                        refine wp_region_lit ?_
                        refine wpList_build0_at rfl _ rfl (Try.build0Page _) ?_
                        refine Try.wpList_storePg rfl (.tmp 6) (.tmp 97) rfl (q' := pg0) (zs_len 200) (zs_len 200) rfl rfl (h23.pull3) ?_
                        intro w99 h99
                        simp only [Act.put, List.setIfInBounds_toArray, List.set_cons_succ, List.set_cons_zero]
                        have hld := Try.loadPg (zs_len 200) h99
                        go_wp2_with fail
                        refine bodyPost_ret (v := .tuple #[.agg pg0.cells.toArray, .int .i64 11]) (results_cell_tmp rfl rfl rfl hld) rfl ?_
                        have hno : decOk bs t n = false := Hno.out
                        obtain ⟨q1, q2⟩ := decOk_torn hno
                        exact ⟨by rw [← Hpg.out, ← Her.out, q1, q2]; rfl, h99.r.r.r.l⟩
                      · have h9z : ¬ (st : Int) = 9 := by omega
                        go_wp2_with fail
                        go_roundw
                        case rel =>
                          (repeat apply Exists.intro)
                          refine ⟨?_, rfl⟩
                          refine ⟨k + 1, pt w22.heap.size (.cells #[.int .i64 tt, .string ⟨kk.toArray⟩, .string ⟨ss.toArray⟩] 57) * J3, by omega, by go_num, hide (fun j hj => ?_), h23.cast (by ac_rfl)⟩
                          by_cases hjk : j = k
                          · subst hjk
                            rw [Hst.out]
                            exact h9
                          · exact hks.out j (by omega)
                        case measure => simp [intOf] <;> omega
                    · obtain rfl : k = 5 := by omega
                      have hyes := decOk_yes (b := bs) (t := t) (n := n) (q := q) (by rw [Hm0.out, HL.out]; exact Hq.out) (by rw [HD.out]; exact Hyes.out) (by rw [HD.out]; exact hks.out)
                      have Hd := hide hyes
                      clear hyes
                      go_upto_region 27 with fail
                      refine wp_region_lit ?_
                      refine wpList_value rfl (exec_load rfl rfl (Try.loadPg hwf h21)) ?_
                      refine Try.wpList_storePg rfl (.tmp 6) (.tmp 99) rfl (q' := D) (zs_len 200) hwf rfl rfl h21.pull2 ?_
                      intro w24 h24
                      simp only [Act.put, List.setIfInBounds_toArray, List.set_cons_succ, List.set_cons_zero]
                      have hld := Try.loadPg hwf h24
                      go_wp2_with fail
                      refine bodyPost_ret (v := .tuple #[.agg D.cells.toArray, .int .i64 0]) (results_cell_tmp rfl rfl rfl hld) rfl ?_
                      refine ⟨?_, h24.r.r.l⟩
                      rw [← Hpg.out, ← Her.out, decPg, decE, Hd.out, if_pos rfl, if_pos rfl, HD.out]
                      rfl
              · subst hil
                go_upto_region 18 with fail
                clear hi0 hile hex c0
                have hen := pageEncode_any w0 wr.drew _ D hwf h18.drew
                obtain ⟨Eb, hEb⟩ : ∃ x : ByteArray, ⟨D.enc.toArray⟩ = x := ⟨_, rfl⟩
                obtain ⟨Bb, hBb⟩ : ∃ x : ByteArray, ⟨bs.toArray⟩ = x := ⟨_, rfl⟩
                have hcv := fun l v ws (h : Rd ws v (bys l)) => run_txt (P := Try.prog) 32 5 9 Try.underlying32 Try.underlying5 Try.underlying9 (w := ws) (l := l) (v := v) h
                have hcb : ∀ ws, At w0 A ws → (convert 32 9 (.slice (some ⟨g, o, none⟩) 256 c)).run Try.prog ws = .ok (.string Bb) ws := fun ws hws => by
                  have := hcv bs _ ws (HA.out ws hws)
                  unfold str at this
                  rw [hBb] at this
                  exact this
                have HEb := hide hEb
                have HBb := hide hBb
                have Hcv := hide hcv
                have Hcb := hide hcb
                clear hEb hBb hcv hcb
                refine wp_region_two [3, 4] [0, 1, 2] [5] (fun ws => At w0 A ws) rfl (by kernel_rfl) h18.drew.r.r.l ?_
                refine hr_read (.slice (some ⟨g, o, none⟩) 256 c) rfl rfl (fun ws hws => exec_move rfl rfl) ?_
                refine hr_read (.string Bb) rfl rfl (fun ws hws => by
                  have := Hcb.out ws hws
                  go_simp) ?_
                refine lw_read (.agg D.cells.toArray) rfl rfl (exec_load rfl rfl (Try.loadPg hwf.slots h18.drew)) ?_
                refine lw_call 57 #[.agg D.cells.toArray] rfl rfl (by go_simp) ?_
                refine hen.mono ?_
                rintro e w19 ⟨a19, c19, rfl, h19⟩
                refine ⟨_, rfl, h19.r.r.r.l, ?_⟩
                have e19 := Hcv.out _ _ _ h19.rd
                unfold str at e19
                rw [HEb.out] at e19
                refine lw_read (.string Eb) rfl rfl (by go_simp) ?_
                clear hen
                show wpList _ _ _ _ _ _
                simp only [picks_cons, picks_nil, getD_zero, getD_succ, Act.put, List.setIfInBounds_toArray]
                go_wp2_with fail
                try dsimp only [Strict]
                have hEl : Eb.toList = D.enc := by rw [← HEb.out, ByteArray.toList_mk]
                have hBl : Bb.toList = bs := by rw [← HBb.out, ByteArray.toList_mk]
                have HEl := hide hEl
                have HBl := hide hBl
                clear e19 hEl hBl h18 hwf
                have hwf : D.slots.length = 200 := by rw [← HD.out]; exact (Pg.dec_wf hl ht hn).slots
                have h20 := h19.cast (show _ = pgB Y D * (pgB X pg0 * (A * (row 5 1 (.slice a19 256 c19) 256 (bys D.enc) * J))) by ac_rfl)
                obtain ⟨J2, hJ2⟩ : ∃ J2 : HP, row 5 1 (.slice a19 256 c19) 256 (bys D.enc) * J = J2 := ⟨_, rfl⟩
                rw [hJ2] at h20
                clear h19 hJ2
                cases hqq : (Eb.toList == Bb.toList) with
                | false =>
                  have Hno : Hid (decOk bs t n = false) := decOk_enc (by
                    rw [HD.out]
                    intro hh
                    rw [HEl.out, HBl.out, hh] at hqq
                    simp at hqq)
                  go_upto_region 19 with fail
                  refine wp_region_lit ?_
                  refine wpList_build0_at rfl _ rfl (Try.build0Page _) ?_
                  refine Try.wpList_storePg rfl (.tmp 6) (.tmp 83) rfl (q' := pg0) (zs_len 200) (zs_len 200) rfl rfl (h20.pull2) ?_
                  intro w99 h99
                  simp only [Act.put, List.setIfInBounds_toArray, List.set_cons_succ, List.set_cons_zero]
                  have hld := Try.loadPg (zs_len 200) h99
                  go_wp2_with fail
                  refine bodyPost_ret (v := .tuple #[.agg pg0.cells.toArray, .int .i64 11]) (results_cell_tmp rfl rfl rfl hld) rfl ?_
                  have hno : decOk bs t n = false := Hno.out
                  obtain ⟨q1, q2⟩ := decOk_torn hno
                  exact ⟨by rw [← Hpg.out, ← Her.out, q1, q2]; rfl, h99.r.r.l⟩
                | true =>
                  have Hyes : Hid (D.enc = bs) := by
                    rw [HEl.out, HBl.out] at hqq
                    exact hide (by simpa using hqq)
                  go_wp2_with fail
                  clear hqq
                  go_loopw [84] (fun u84 wr => ∃ (i : Nat) (J : HP), i ≤ 5 ∧ u84 = .int .i64 i ∧ Hid (∀ j, j < i → rowSt (slotAt D.slots j) ≠ 9) ∧ At w0 (pgB Y D * (pgB X pg0 * (A * J))) wr) (fun u _ => 5 - (intOf u).toNat)
                  case atStart => exact ⟨0, J2, Nat.zero_le _, rfl, hide (fun j hj => absurd hj (by omega)), h20⟩
                  case round =>
                    obtain ⟨k, J3, hkle, rfl, hks, h21⟩ := hrel
                    clear h20
                    by_cases hkl : k < 5
                    · have hklz : (k : Int) < 5 := by omega
                      have hsl : ((D.slots.drop (40 * k)).take 40).length = 40 := by rw [List.length_take, List.length_drop]; omega
                      have hrdc := rowDecode_any w0 _ _ (some ⟨Y, 3 + k * 40, none⟩) 40 ((D.slots.drop (40 * k)).take 40) hsl (fun w' h' => pg_rd h' hwf k hkl) h21
                      have hsa : (D.slots.drop (40 * k)).take 40 = slotAt D.slots k := by unfold slotAt; rw [Nat.mul_comm]
                      rw [hsa] at hrdc
                      obtain ⟨st, hst⟩ : ∃ st, rowSt (slotAt D.slots k) = st := ⟨_, rfl⟩
                      rw [hst] at hrdc
                      have Hst := hide hst
                      clear hst hsa hsl
                      go_wp2_with fail
                      refine hrdc.mono ?_
                      rintro e w22 ⟨tt, kk, ss, rfl, -, h22⟩
                      unfold str
                      have h23 := h22.alloc (.cells #[.int .i64 tt, .string ⟨kk.toArray⟩, .string ⟨ss.toArray⟩] 57)
                      clear hrdc h21
                      by_cases h9 : st = 9
                      · have h9z : (st : Int) = 9 := by omega
                        have Hno : Hid (decOk bs t n = false) := decOk_slot hkl (by rw [HD.out, Hst.out]; exact h9)
                        go_upto_region 25 with fail
                        refine wp_region_lit ?_
                        refine wpList_build0_at rfl _ rfl (Try.build0Page _) ?_
                        refine Try.wpList_storePg rfl (.tmp 6) (.tmp 97) rfl (q' := pg0) (zs_len 200) (zs_len 200) rfl rfl (h23.pull3) ?_
                        intro w99 h99
                        simp only [Act.put, List.setIfInBounds_toArray, List.set_cons_succ, List.set_cons_zero]
                        have hld := Try.loadPg (zs_len 200) h99
                        go_wp2_with fail
                        refine bodyPost_ret (v := .tuple #[.agg pg0.cells.toArray, .int .i64 11]) (results_cell_tmp rfl rfl rfl hld) rfl ?_
                        have hno : decOk bs t n = false := Hno.out
                        obtain ⟨q1, q2⟩ := decOk_torn hno
                        exact ⟨by rw [← Hpg.out, ← Her.out, q1, q2]; rfl, h99.r.r.r.l⟩
                      · have h9z : ¬ (st : Int) = 9 := by omega
                        go_wp2_with fail
                        go_roundw
                        case rel =>
                          (repeat apply Exists.intro)
                          refine ⟨?_, rfl⟩
                          refine ⟨k + 1, pt w22.heap.size (.cells #[.int .i64 tt, .string ⟨kk.toArray⟩, .string ⟨ss.toArray⟩] 57) * J3, by omega, by go_num, hide (fun j hj => ?_), h23.cast (by ac_rfl)⟩
                          by_cases hjk : j = k
                          · subst hjk
                            rw [Hst.out]
                            exact h9
                          · exact hks.out j (by omega)
                        case measure => simp [intOf] <;> omega
                    · obtain rfl : k = 5 := by omega
                      have hyes := decOk_yes (b := bs) (t := t) (n := n) (q := q) (by rw [Hm0.out, HL.out]; exact Hq.out) (by rw [HD.out]; exact Hyes.out) (by rw [HD.out]; exact hks.out)
                      have Hd := hide hyes
                      clear hyes
                      go_upto_region 27 with fail
                      refine wp_region_lit ?_
                      refine wpList_value rfl (exec_load rfl rfl (Try.loadPg hwf h21)) ?_
                      refine Try.wpList_storePg rfl (.tmp 6) (.tmp 99) rfl (q' := D) (zs_len 200) hwf rfl rfl h21.pull2 ?_
                      intro w24 h24
                      simp only [Act.put, List.setIfInBounds_toArray, List.set_cons_succ, List.set_cons_zero]
                      have hld := Try.loadPg hwf h24
                      go_wp2_with fail
                      refine bodyPost_ret (v := .tuple #[.agg D.cells.toArray, .int .i64 0]) (results_cell_tmp rfl rfl rfl hld) rfl ?_
                      refine ⟨?_, h24.r.r.l⟩
                      rw [← Hpg.out, ← Her.out, decPg, decE, Hd.out, if_pos rfl, if_pos rfl, HD.out]
                      rfl
end Go.Proofs.Ytmlifjfgelfbbaa
