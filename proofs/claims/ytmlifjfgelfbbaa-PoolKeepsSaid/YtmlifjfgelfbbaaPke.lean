/-
  PoolKeeps: the law's walk: whatever comes in, it returns true. A contract, no statement.
-/
import Derived.Test.YtmlifjfgelfbbaaKv
import Derived.Test.YtmlifjfgelfbbaaPsi
import Derived.Test.YtmlifjfgelfbbaaGs
import Derived.Test.YtmlifjfgelfbbaaGl
import Derived.Test.YtmlifjfgelfbbaaPre3
namespace Go.Proofs.Ytmlifjfgelfbbaa
open Go Go.RowKit

/-- All pages are blank. -/
def C0 : Nat → Pg := fun n => ⟨0, 0, n, zs 200⟩
theorem C0_good : KGood C0 := fun n hn => ⟨⟨zs_len 200, show (0 : Nat) < 2 ^ 64 by decide, show (0 : Nat) < 65536 by decide, by show n < 65536; omega⟩, rfl, rfl, fun _ => rfl, fun i hi => by
  show rowSt (slotAt (zs 200) i) ≠ 9
  rcases show i = 0 ∨ i = 1 ∨ i = 2 ∨ i = 3 ∨ i = 4 by omega with rfl | rfl | rfl | rfl | rfl <;> decide⟩
/-- The slots of a blank page with a row in slot s. -/
theorem put_slots {b : List UInt8} (hb : b.length = 40) {s : Nat} (hs : s < 5) (p : Pg) (hp : p.slots = zs 200) : (∀ i, i < 5 → slotAt (p.put s b).slots i = if i = s then b else zs 40) := by
  intro i hi
  show slotAt (p.slots.take (40 * s) ++ (b ++ p.slots.drop (40 * s + 40))) i = _
  rw [hp]
  unfold slotAt zs
  rw [List.take_replicate, List.drop_replicate]
  by_cases h1 : i = s
  · subst h1
    rw [if_pos rfl, List.drop_append, List.drop_eq_nil_of_le (by simp; omega), List.nil_append, List.length_replicate]
    rw [show i * 40 - min (40 * i) 200 = 0 by omega, List.drop_zero, List.take_append_of_le_length (by omega), List.take_of_length_le (by omega)]
  · rw [if_neg h1]
    by_cases h2 : i < s
    · rw [List.drop_append_of_le_length (by simp; omega), List.drop_replicate, List.take_append_of_le_length (by simp; omega), List.take_replicate]
      congr 1
      omega
    · rw [List.drop_append, List.drop_eq_nil_of_le (by simp; omega), List.nil_append, List.length_replicate, List.drop_append, List.drop_eq_nil_of_le (by omega), List.nil_append, List.drop_replicate, List.take_replicate]
      congr 1
      omega
theorem C1_good {b : List UInt8} (hb : b.length = 40) (hr : rowSt b = 0) {n pl s : Nat} (hn : n < 6) (hs : s < 5) (hpl : pl < 2 ^ 64) (h0 : pl ≠ 0) : KGood (updP C0 n { (C0 n).put s b with mark := pl }) := by
  intro k hk
  by_cases hkn : k = n
  · subst hkn
    rw [updP_self]
    refine ⟨⟨Pg.put_len (zs_len 200) hs hb, hpl, show (0 : Nat) < 65536 by decide, by show k < 65536; omega⟩, rfl, rfl, fun h => absurd h h0, fun i hi => ?_⟩
    show rowSt (slotAt ((C0 k).put s b).slots i) ≠ 9
    rw [put_slots hb hs (C0 k) rfl i hi]
    split
    · rw [hr]; decide
    · rw [rowSt_zs]; decide
  · rw [updP_ne C0 _ hkn]
    exact C0_good k hk

theorem PoS.find_same {P : PoS} {i : Nat} {f : Fr} {p p' : Pg} (hi : i < 3) (hp : (P.fr i).pg = some p) (hf : f.pg = some p') (hn : p'.number = p.number) (c : Int) : (P.setFr i f).find c = P.find c := by
  have e : f.has c = (P.fr i).has c := by unfold Fr.has; rw [hp, hf]; simp only [hn]
  unfold PoS.find
  rcases three hi with rfl | rfl | rfl
  · show (if f.has c then _ else if P.f1.has c then _ else if P.f2.has c then _ else _) = _
    rw [e]
    rfl
  · show (if P.f0.has c then _ else if f.has c then _ else if P.f2.has c then _ else _) = _
    rw [e]
    rfl
  · show (if P.f0.has c then _ else if P.f1.has c then _ else if f.has c then _ else _) = _
    rw [e]
    rfl
theorem PoS.set_set (P : PoS) {i : Nat} (hi : i < 3) (f g : Fr) : (P.setFr i f).setFr i g = P.setFr i g := by
  rcases three hi with rfl | rfl | rfl <;> rfl
theorem PoS.touch_eq {P : PoS} {n i pl : Nat} (hf : P.find n = some i) : P.touch n pl = P.setFr i ((P.fr i).touch pl) := by
  obtain ⟨hi, _⟩ := PoS.find_some hf
  unfold PoS.touch
  rw [hf]
  rcases three hi with rfl | rfl | rfl <;> rfl
theorem lv_read_d {P : Program} {ops : Array Oper} {S : World → Prop} {R : Act → World → Prop} {i : Nat} {r : List Nat} {a : Act} {w : World} {o : Oper} (v : Value) (d : Nat) (ho : ops[i]? = some o) (hg : Region.wanted o (yielded ops a.tmps) = true) (hd : o.dst = some d) (hr : (execOp a.eval o).run P w = .ok (.value v) w)
    (h : LV P ops S R r { a with tmps := a.tmps.setIfInBounds d v } w) : LV P ops S R (i :: r) a w :=
  lv_read v ho hg hr (by unfold Act.put; rw [hd]; exact h)
theorem lv_end {P : Program} {ops : Array Oper} {S : World → Prop} {R : Act → World → Prop} {a : Act} {w : World} (h : R a w) : LV P ops S R [] a w := h
theorem PoS.cells_same (P : PoS) {i : Nat} (hi : i < 3) {f : Fr} (h1 : f.ptr = (P.fr i).ptr) (h2 : f.since = (P.fr i).since) (h3 : f.again = (P.fr i).again) : (P.setFr i f).cells = P.cells := by
  rw [P.cells_set hi f, h1, h2, h3, ← P.cells_set hi (P.fr i)]
  rcases three hi with rfl | rfl | rfl <;> rfl
theorem KInv.at_hand {D l : Nat} {P : PoS} {m : Dk} {C : Nat → Pg} {n i : Nat} (h : KInv D l P m C) (hf : P.find n = some i) : i < 3 ∧ (P.fr i).pg = some (C n) ∧ (P.fr i).hp = pgB (P.fr i).blk (C n) ∧ (C n).number = n := by
  obtain ⟨hi, hh⟩ := PoS.find_some hf
  obtain ⟨p, hp, hnum, _, hhp⟩ := Fr.has_pg hh
  have hn : p.number = n := by omega
  have he := (h.pages i hi p hp).2
  rw [hn] at he
  rw [he] at hp hhp
  exact ⟨hi, hp, hhp, by rw [← he]; exact hn⟩
theorem C0_inv {D l : Nat} {m : Dk} (hpg : ∀ q, q < 6 → m.page 0 q = zs 256) : KInv D l (PoS.new D 0 l) m C0 := by
  refine ⟨⟨rfl, rfl, rfl, show (0 : Nat) < 3 by decide⟩, ?_, ?_, ?_, ?_, fun n hn _ => hpg n hn⟩
  · intro i hi p hp
    rcases three hi with rfl | rfl | rfl <;> cases hp
  · intro i k hi hk p q hp
    rcases three hi with rfl | rfl | rfl <;> cases hp
  · intro i hi _
    rcases three hi with rfl | rfl | rfl <;> rfl
  · intro i hi p hp
    rcases three hi with rfl | rfl | rfl <;> cases hp

set_option maxRecDepth 100000 in
set_option maxHeartbeats 16000000 in
theorem keeps_walk (W : World) (t : Int) (kk vv : ByteArray) (n0 : Int) (a : Option Addr) (n cap : Nat) (z : Nat → Int) (hk : kk.size ≤ 140737488355328) (hv : vv.size ≤ 140737488355328) (hn : n ≤ 9223372036854775807) (_hz : ∀ i, -9223372036854775808 ≤ z i ∧ z i ≤ 9223372036854775807) (hA : ∀ i, i < n → ∃ b o, a = some ⟨b, o, none⟩ ∧ W.cell? ⟨b, o + i, none⟩ = some (.int .i64 (z i))) :
    Calls Try.prog 5 #[.agg #[.int .i64 t, .string kk, .string vv], .int .i64 n0, .slice a n cap] W fun e W' => e = .returned (.bool true) ∧ Below W.heap.size W W' := by
  obtain ⟨X, hX⟩ : ∃ N, W.heap.size = N := ⟨_, rfl⟩
  have h0 : At W (cel X #[.int .i64 t, .string kk, .string vv] 57 * (old W * 1)) (W.alloc (.cells #[.int .i64 t, .string kk, .string vv] 57)) := (At.startR W).alloc' hX _
  have hfit := poolFit_any W _ _ h0
  have HA := hide hA
  have Hz := hide _hz
  clear hA _hz
  obtain ⟨Bd, hBd⟩ : ∃ Bd, (fun W' => Below W.heap.size W W') = Bd := ⟨_, rfl⟩
  have HBd : ∀ w', At W (old W * 1) w' → Bd w' := fun w' h' => by rw [← hBd]; exact h'.below
  have hgoal : (fun (e : Ending) W' => e = .returned (.bool true) ∧ Below W.heap.size W W') = fun e W' => e = .returned (.bool true) ∧ Bd W' := by rw [← hBd]
  rw [hgoal]
  have Hbd := hide HBd
  clear HBd hgoal hBd
  go_enter Try.func5, Try.ntmps5
  go_upto_region 1 with fail
  generalize hw1 : W.alloc _ = w1 at h0 hfit ⊢
  try rw [hX]
  clear hw1 hX
  go_wp2_with fail
  refine hfit.mono ?_
  rintro e w2 ⟨rfl, h1⟩
  clear hfit h0
  have x0 := At.cell (i := 0) h1 rfl
  have x1 := At.cell (i := 1) h1 rfl
  have x2 := At.cell (i := 2) h1 rfl
  have g1 := IntWalk.i64_in ((kk.size : Int) + (vv.size : Int)) (by omega)
  have hrt := rowRight_any W w2 _ t kk vv h1
  by_cases hbig : 100 < kk.size + vv.size
  · have hbz : 100 < (kk.size : Int) + (vv.size : Int) := by omega
    have hb := Hbd.out w2 h1.r
    clear hbig hrt
    go_wp2_with fail
    go_ret
    exact ⟨rfl, hb⟩
  have hbz : ¬ 100 < (kk.size : Int) + (vv.size : Int) := by omega
  obtain ⟨rr, hrr⟩ : ∃ rr, rightR t kk vv = rr := ⟨_, rfl⟩
  rw [hrr] at hrt
  have Hrr := hide hrr
  clear hrr hbig
  cases rr with
  | false =>
    go_wp2_with fail
    refine hrt.mono ?_
    rintro e w3 ⟨rfl, h2⟩
    have hb := Hbd.out w3 h2.r
    clear hrt
    go_wp2_with fail
    go_ret
    exact ⟨rfl, hb⟩
  | true =>
    go_wp2_with fail
    refine hrt.mono ?_
    rintro e w3 ⟨rfl, h2⟩
    clear hrt h1 x0 x1 x2
    by_cases hn60 : 60 < n
    · have hb := Hbd.out w3 h2.r
      have hnz : 60 < (n : Int) := by omega
      go_wp2_with fail
      go_ret
      exact ⟨rfl, hb⟩
    have hnz : ¬ 60 < (n : Int) := by omega
    obtain ⟨tn, rfl, ht4, hk15, hv21⟩ : ∃ tn : Nat, t = (tn : Int) ∧ tn < 4 ∧ kk.size ≤ 15 ∧ vv.size ≤ 21 := by
      have := Hrr.out
      unfold rightR at this
      rw [decide_eq_true_eq] at this
      exact ⟨t.toNat, by omega, by omega, this.2.2.1, this.2.2.2⟩
    obtain ⟨k1, hk1⟩ : ∃ k, n0.tmod 6 = k := ⟨_, rfl⟩
    obtain ⟨k2, hk2⟩ : ∃ k, (k1 + 6).tmod 6 = k := ⟨_, rfl⟩
    have b1 := tmod_in n0 6 (by decide)
    have b2 := tmod_up n0 6 (by decide)
    change -6 < n0.tmod 6 ∧ n0.tmod 6 < 6 at b1
    change 0 ≤ (n0.tmod 6 + 6).tmod 6 ∧ (n0.tmod 6 + 6).tmod 6 < 6 at b2
    rw [hk1] at b1 b2
    rw [hk2] at b2
    obtain ⟨q, hq⟩ : ∃ q : Nat, k2 = (q : Int) := ⟨k2.toNat, by omega⟩
    rw [hq] at hk2 b2
    have hq6 : q < 6 := by omega
    have v1 := IntWalk.i64_in k1 (by omega)
    have v2 := IntWalk.i64_in (k1 + 6) (by omega)
    have v3 := IntWalk.i64_in (q : Int) (by omega)
    have hnew := diskNew_any W w3 _ 1 538 (by decide) (by decide) (by decide) (by decide) h2
    change Calls _ _ #[.int .i64 1, .int .i64 538] _ _ at hnew
    clear h2 g1 hbz Hrr hq b1 b2
    go_wp2_with fail
    refine hnew.mono ?_
    rintro e w4 ⟨D, rfl, h3⟩
    clear hnew
    have hN := Dk.new_at 1 538 0 (by decide)
    have hbk := Dk.new_blank (n := 1) (size := 538) (r := 0) (by decide) (by decide)
    have hln := laneNew_pg W w4 _ D 0 (Dk.new 1 538) (Dk.new_wf (by decide) (by decide) (by decide)) (by decide) (by decide) hN.1 hN.2 (by decide) h3
    change Calls _ _ #[_, .int .i64 0] _ _ at hln
    have hn1 : (Dk.new 1 538).regs.length = 1 := rfl
    have hn2 : (Dk.new 1 538).writes = 0 := rfl
    have hn3 : (Dk.new 1 538).size = 538 := rfl
    have hw0 := hN.1
    rw [hn2] at hln
    generalize Dk.new 1 538 = m0 at *
    clear h3 hN v1 v2 v3 hk2 hk1
    go_wp2_with fail
    refine hln.mono ?_
    rintro e w5 ⟨P, L, m1, rfl, hs, hg, hb, hsame, hun, hwr, hps, h4⟩
    clear hln
    have hpg : ∀ c, c < 6 → m1.page 0 c = zs 256 := fun c hc => (hps.page hw0 hs.rest.wts (by rw [hn3]; unfold pgAt; omega)).trans (hbk c hc)
    have hld : LdOk m1 L [recCheck] 1 520 := ⟨hs, hun, by omega, hsame.size.trans hn3, hsame.regs.trans hn1⟩
    have HI := hide (C0_inv (D := D) (l := P) hpg)
    have Hld := hide hld
    have Hg := hide hg
    have hpn := poolNew_any W w5 _ D 0 P h4
    change Calls _ _ #[_, .int .i64 0, _] _ _ at hpn
    clear h4 hs hsame hps hbk hw0 hn1 hn2 hn3 hpg hg hb hun hwr hld
    go_wp2_with fail
    refine hpn.mono ?_
    rintro e w6 ⟨b, rfl, h5⟩
    clear hpn
    have hgt := HI.out.get W w6 _ b q C0_good Hld.out (by decide) hq6 h5
    clear h5
    go_wp2_with fail
    refine hgt.mono ?_
    rintro e w7 ⟨P1, i, L1, m2, kx, rfl, hI1, hf1, hld1, hgn1, h6⟩
    clear hgt
    obtain ⟨hi3, hpg1, hhp1, _⟩ := hI1.at_hand hf1
    obtain ⟨bk, hbk⟩ : ∃ bk, (P1.fr i).blk = bk := ⟨_, rfl⟩
    rw [hbk] at hhp1 ⊢
    have HI1 := hide hI1
    have Hf1 := hide hf1
    have Hld1 := hide hld1
    have Hbk := hide hbk
    have Hpg1 := hide hpg1
    have Hhp1 := hide hhp1
    have Hgn1 := hide (hgn1.trans Hg.out)
    clear hI1 hf1 hld1 hbk hpg1 hhp1 hgn1
    have hx := h6.cast (show _ = cel X #[.int .i64 tn, .string kk, .string vv] 57 * (poB b P1 * (lan P D 0 L1 * (dsk D m2 * (old W * 1)))) by ac_rfl)
    have x0 := At.cell (i := 0) hx rfl
    have x1 := At.cell (i := 1) hx rfl
    have x2 := At.cell (i := 2) hx rfl
    have hen := rowEncode_any W w7 _ tn kk vv ht4 hk15 hv21 h6
    clear hx
    go_wp2_with fail
    refine hen.mono ?_
    rintro e w8 ⟨a8, c8, rfl, h7⟩
    clear hen x0 x1 x2
    have hcv := run_txt (P := Try.prog) 32 5 9 Try.underlying32 Try.underlying5 Try.underlying9 h7.rd
    unfold str at hcv
    obtain ⟨EB, hEB⟩ : ∃ EB, rowEnc tn kk.data.toList vv.data.toList = EB := ⟨_, rfl⟩
    have hEl : EB.length = 40 := by rw [← hEB]; exact rowEnc_len (by rw [Array.length_toList]; exact hk15) (by rw [Array.length_toList]; exact hv21)
    have hEr : rowSt EB = 0 := by rw [← hEB]; exact (rowEnc_tells ht4 (by rw [Array.length_toList]; exact hk15) (by rw [Array.length_toList]; exact hv21)).2.2.2.2
    rw [hEB] at hcv h7
    obtain ⟨Es, hEs⟩ : ∃ Es : ByteArray, ⟨EB.toArray⟩ = Es := ⟨_, rfl⟩
    have hEd : Es.data.toList = EB := by rw [← hEs]
    rw [hEs] at hcv
    have HEB := hide hEB
    have HEs := hide hEs
    clear hEB hEs
    have h8 := h7.cast (show _ = pgB bk (C0 q) * (cel b P1.cells 90 * (P1.oth i * (lan P D 0 L1 * (dsk D m2 * (row 5 1 (.slice a8 40 c8) 40 (bys EB) * (cel X #[.int .i64 tn, .string kk, .string vv] 57 * (old W * 1))))))) by rw [poB_fr b P1 hi3, Hhp1.out]; ac_rfl)
    have hse := pageSet_row W w8 _ bk (C0 q) 3 Es (zs_len 200) (by decide) (by rw [hEd]; exact hEl) (by rw [hEd]; exact hEr) h8
    change Calls _ _ #[_, .int .i64 3, _] _ _ at hse
    rw [hEd] at hse
    clear h7 h8 h6
    go_wp2_with fail
    refine hse.mono ?_
    rintro e w9 ⟨rfl, h9⟩
    clear hse hcv
    obtain ⟨f2, hf2⟩ : ∃ f2 : Fr, f2 = { P1.fr i with pg := some ((C0 q).put 3 EB) } := ⟨_, rfl⟩
    have hf2p : f2.pg = some ((C0 q).put 3 EB) := by rw [hf2]
    have hcs2 : (P1.setFr i f2).cells = P1.cells := by
      refine P1.cells_same hi3 ?_ (by rw [hf2]) (by rw [hf2])
      unfold Fr.ptr
      rw [hf2p, Hpg1.out, hf2]
    have hhp2 : f2.hp = pgB bk ((C0 q).put 3 EB) := by
      unfold Fr.hp
      rw [hf2p, hf2]
      show pgB (P1.fr i).blk _ = _
      rw [Hbk.out]
    have h10 : At W (poB b (P1.setFr i f2) * (lan P D 0 L1 * (dsk D m2 * (cel X #[.int .i64 tn, .string kk, .string vv] 57 * (old W * 1))))) w9 := by
      refine At.fr_turn hi3 hcs2 ?_
      exact (h9.cast (show _ = cel b P1.cells 90 * (f2.hp * (P1.oth i * (lan P D 0 L1 * (dsk D m2 * (cel X #[.int .i64 tn, .string kk, .string vv] 57 * (old W * 1)))))) * row 5 1 (.slice a8 40 c8) 40 (bys EB) by rw [hhp2]; ac_rfl)).l
    have hfd2 : (P1.setFr i f2).find q = some i := by
      rw [PoS.find_same hi3 Hpg1.out hf2p rfl]
      exact Hf1.out
    obtain ⟨pl, hpl⟩ : ∃ pl, L1.gen * 1048576 + (encR [recCheck]).length + 1 = pl := ⟨_, rfl⟩
    have hg1 := Hgn1.out
    have hpl2 : pl < 2 ^ 64 := by rw [hg1, encR_check] at hpl; omega
    have hpl0 : 0 < pl := by omega
    have htch : (P1.setFr i f2).touch q pl = P1.setFr i (f2.touch pl) := by
      rw [PoS.touch_eq hfd2, P1.fr_set hi3, P1.set_set hi3]
    have htp : (f2.touch pl).pg = some { (C0 q).put 3 EB with mark := pl } := by
      unfold Fr.touch
      rw [hf2p]
      rfl
    have hts : (f2.touch pl).since ≠ 0 := by
      show (if f2.since = 0 then pl else f2.since) ≠ 0
      split
      · omega
      · assumption
    obtain ⟨g1, g2⟩ := HI1.out.change Hf1.out (f2.touch pl) { (C0 q).put 3 EB with mark := pl } htp rfl hts
    have hC1 := C1_good (s := 3) (n := q) (pl := pl) hEl hEr hq6 (by decide) hpl2 (by omega)
    have hap := laneAppend_ok W w9 (poB b (P1.setFr i f2) * (dsk D m2 * (cel X #[.int .i64 tn, .string kk, .string vv] 57 * (old W * 1)))) P D 0 recUpd none 0 Hld1.out.st recUpd_good (by rw [recUpd_len, encR_check]; decide) (fun _ _ => .inl ⟨rfl, rfl⟩) (h10.cast (by ac_rfl))
    rw [hpl] at hap
    simp only [Rec.cells, recUpd] at hap
    obtain ⟨C1, hC1e⟩ : ∃ C1, updP C0 q { (C0 q).put 3 EB with mark := pl } = C1 := ⟨_, rfl⟩
    rw [hC1e] at g1 hC1
    obtain ⟨P3, hP3⟩ : ∃ P3, P1.setFr i (f2.touch pl) = P3 := ⟨_, rfl⟩
    obtain ⟨P2, hP2⟩ : ∃ P2, P1.setFr i f2 = P2 := ⟨_, rfl⟩
    rw [hP3] at g1 g2 htch
    rw [hP2] at hap htch
    have HG1 := hide g1
    have HC1 := hide hC1
    have HC1e := hide hC1e
    have Htch := hide htch
    clear h9 h10 g1 g2 hC1 hC1e hP3 hP2 htch htp hts hpl hg1 hfd2 hhp2 hcs2 hf2p hf2
    go_wp2_with fail
    refine hap.mono ?_
    rintro e w10 ⟨L2, rfl, hst2, hgn2, _, h11⟩
    clear hap
    have hld2 : LdOk m2 L2 ([recCheck] ++ [recUpd]) kx (520 + 260) := ⟨hst2, Hld1.out.armd, Hld1.out.writes, Hld1.out.size, Hld1.out.regs⟩
    have hth := poolTouch_any W w10 (lan P D 0 L2 * (dsk D m2 * (cel X #[.int .i64 tn, .string kk, .string vv] 57 * (old W * 1)))) b P2 q pl (h11.cast (by ac_rfl))
    rw [Htch.out] at hth
    have Hld2 := hide hld2
    clear hst2 h11 hld2 hgn2
    go_wp2_with fail
    refine hth.mono ?_
    rintro e w11 ⟨rfl, h12⟩
    clear hth
    go_wp2_with fail
    go_loopw [80] (fun u80 wr => ∃ (c : Nat) (P4 : PoS) (L4 : Ln) (m4 : Dk) (all : List Rec) (k4 : Nat), c ≤ n ∧ u80 = .int .i64 c ∧ Hid (KInv D P P4 m4 C1) ∧ Hid (LdOk m4 L4 all k4 (780 + 260 * c)) ∧
      At W (poB b P4 * (lan P D 0 L4 * (dsk D m4 * (cel X #[.int .i64 tn, .string kk, .string vv] 57 * (old W * 1))))) wr) (fun u _ => n - (intOf u).toNat)
    case atStart => exact ⟨0, P3, L2, m2, _, kx, Nat.zero_le _, rfl, HG1, Hld2, h12⟩
    case round =>
      obtain ⟨c, P4, L4, m4, all4, k4, hcn, rfl, HG4, Hld4, h13⟩ := hrel
      clear h12
      by_cases hcl : c < n
      · have hclz : (c : Int) < (n : Int) := by omega
        obtain ⟨b0, o0, ha, hc⟩ := HA.out c hcl
        subst ha
        have hcell := At.old_cell (h13.cast (show _ = old W * (1 * (poB b P4 * (lan P D 0 L4 * (dsk D m4 * cel X #[.int .i64 tn, .string kk, .string vv] 57)))) by ac_rfl)) hc
        have hzb := Hz.out c
        obtain ⟨zi, hzi⟩ : ∃ zi, z c = zi := ⟨_, rfl⟩
        rw [hzi] at hcell hzb
        obtain ⟨k5, hk5⟩ : ∃ k, zi.tmod 6 = k := ⟨_, rfl⟩
        obtain ⟨k6, hk6⟩ : ∃ k, (k5 + 6).tmod 6 = k := ⟨_, rfl⟩
        have b3 := tmod_in zi 6 (by decide)
        have b4 := tmod_up zi 6 (by decide)
        change -6 < zi.tmod 6 ∧ zi.tmod 6 < 6 at b3
        change 0 ≤ (zi.tmod 6 + 6).tmod 6 ∧ (zi.tmod 6 + 6).tmod 6 < 6 at b4
        rw [hk5] at b3 b4
        rw [hk6] at b4
        obtain ⟨q5, hq5⟩ : ∃ q : Nat, k6 = (q : Int) := ⟨k6.toNat, by omega⟩
        rw [hq5] at hk6 b4
        have v4 := IntWalk.i64_in k5 (by omega)
        have v5 := IntWalk.i64_in (k5 + 6) (by omega)
        have v6 := IntWalk.i64_in (q5 : Int) (by omega)
        have hg5 := HG4.out.get W wr _ b q5 HC1.out Hld4.out (by omega) (by omega) h13
        clear hc hzi b3 b4 hq5
        go_wp2_with fail
        refine hg5.mono ?_
        rintro e w13 ⟨P5, i5, L5, m5, k7, rfl, hI5, _, hld5, _, h14⟩
        have HI5 := hide hI5
        have Hld5 := hide hld5
        clear hg5 h13 hI5 hld5 hcell v4 v5 v6
        go_wp2_with fail
        go_roundw
        case rel => exact ⟨c + 1, P5, L5, m5, all4, k7, by omega, by go_num, HI5, Hld5, h14⟩
        case measure => simp [intOf] <;> omega
      · obtain rfl : c = n := by omega
        have hg6 := HG4.out.get W wr _ b q HC1.out Hld4.out (by omega) hq6 h13
        clear h13
        go_wp2_with fail
        refine hg6.mono ?_
        rintro e w14 ⟨P5, i5, L5, m5, k7, rfl, hI5, hf5, _, _, h15⟩
        clear hg6
        obtain ⟨hi5, _, hhp5, _⟩ := hI5.at_hand hf5
        obtain ⟨bk5, hbk5⟩ : ∃ bk, (P5.fr i5).blk = bk := ⟨_, rfl⟩
        rw [hbk5] at hhp5 ⊢
        obtain ⟨pg, hpg⟩ : ∃ pg, C1 q = pg := ⟨_, rfl⟩
        have hpge : pg = { (C0 q).put 3 EB with mark := pl } := by rw [← hpg, ← HC1e.out, updP_self]
        rw [hpg] at hhp5
        have hsl := put_slots hEl (s := 3) (by decide) (C0 q) rfl
        have hs3 : slotStr (slotAt pg.slots 3) = EB := by
          rw [hpge]
          show slotStr (slotAt ((C0 q).put 3 EB).slots 3) = EB
          rw [hsl 3 (by decide), if_pos rfl]
          unfold slotStr
          rw [if_neg]
          intro hh
          rw [hh, rowSt_zs] at hEr
          cases hEr
        have hs2 : slotStr (slotAt pg.slots 2) = [] := by
          rw [hpge]
          show slotStr (slotAt ((C0 q).put 3 EB).slots 2) = []
          rw [hsl 2 (by decide), if_neg (by decide)]
          unfold slotStr
          rw [if_pos rfl]
        have hp200 : pg.slots.length = 200 := by rw [hpge]; exact Pg.put_len (zs_len 200) (by decide) hEl
        have hpm : pg.mark = pl := by rw [hpge]
        obtain ⟨Z, hZ⟩ : ∃ Z : HP, cel b P5.cells 90 * (P5.oth i5 * (lan P D 0 L5 * (dsk D m5 * (cel X #[.int .i64 tn, .string kk, .string vv] 57 * (old W * 1))))) = Z := ⟨_, rfl⟩
        have h16 : At W (pgB bk5 pg * Z) w14 := by rw [← hZ]; exact h15.cast (by rw [poB_fr b P5 hi5, hhp5]; ac_rfl)
        have hx : ∀ w', At W (pgB bk5 pg * Z) w' → At W (cel X #[.int .i64 tn, .string kk, .string vv] 57 * (pgB bk5 pg * (cel b P5.cells 90 * (P5.oth i5 * (lan P D 0 L5 * (dsk D m5 * (old W * 1))))))) w' := fun w' h' => by rw [← hZ] at h'; exact h'.cast (by ac_rfl)
        have hbd : ∀ w', At W (pgB bk5 pg * Z) w' → Bd w' := fun w' h' => Hbd.out w' ((hx w' h').cast (show _ = old W * 1 * (cel X #[.int .i64 tn, .string kk, .string vv] 57 * (pgB bk5 pg * (cel b P5.cells 90 * (P5.oth i5 * (lan P D 0 L5 * dsk D m5))))) by ac_rfl)).l
        have Hx := hide hx
        have Hbd2 := hide hbd
        have Hs3 := hide hs3
        have Hs2 := hide hs2
        have Hpm := hide hpm
        clear hI5 hf5 hhp5 hbk5 hpg hpge hsl hs3 hs2 hpm hZ h15 hx hbd
        have Hcv := hide (fun v ws (h : Rd ws v (bys EB)) => run_txt (P := Try.prog) 32 5 9 Try.underlying32 Try.underlying5 Try.underlying9 (w := ws) (l := EB) (v := v) h)
        go_upto_region 22 with fail
        refine wp_region_seq [0, 1, 2] [3, 4] [5, 6, 7] [8, 9, 10] [15] [11, 12, 13, 14] [16, 17, 18, 19, 20, 21, 22, 23] (fun ws => At W (pgB bk5 pg * Z) ws) rfl (by kernel_rfl) h16.drew ?_
        refine lv_read (.int .i64 0) rfl (by kernel_rfl) (by go_simp) ?_
        refine lv_read (.bool true) rfl (by kernel_rfl) (by go_simp) ?_
        refine lv_read (.bool true) rfl (by kernel_rfl) (by go_simp) ?_
        refine hx_read (.pointer (some ⟨bk5, 0, none⟩)) rfl (by kernel_rfl) (fun ws hws => exec_move rfl rfl) ?_
        refine hx_call (.string Es) 23 #[.pointer (some ⟨bk5, 0, none⟩), .int .i64 3] rfl (by kernel_rfl) (fun ws => by go_simp) (fun ws hws => by
          have := pageSlot_any W ws Z bk5 pg 3 hp200 (by decide) hws
          rw [Hs3.out] at this
          unfold str at this
          rw [HEs.out] at this
          exact this) ?_
        have x0 := At.cell (i := 0) (Hx.out _ h16.drew) rfl
        have x1 := At.cell (i := 1) (Hx.out _ h16.drew) rfl
        have x2 := At.cell (i := 2) (Hx.out _ h16.drew) rfl
        refine lv_read (.agg #[.int .i64 tn, .string kk, .string vv]) rfl (by kernel_rfl) (by go_simp) ?_
        clear x0 x1 x2
        refine lv_call 22 #[.agg #[.int .i64 tn, .string kk, .string vv]] rfl (by kernel_rfl) (by go_simp) ?_
        refine (rowEncode_any W w14.drew _ tn kk vv ht4 hk15 hv21 h16.drew).mono ?_
        rintro e w15 ⟨a15, c15, rfl, h17⟩
        rw [HEB.out] at h17
        refine ⟨_, rfl, h17.r, ?_⟩
        have e17 := Hcv.out _ _ h17.rd
        unfold str at e17
        rw [HEs.out] at e17
        refine lv_read (.string Es) rfl (by kernel_rfl) (by go_simp) ?_
        clear e17
        have h18 := h17.r
        have c0 : w15.cell? ⟨bk5, 0, none⟩ = some (.int .u64 pl) := by rw [← Hpm.out]; exact At.cell h18 rfl
        have hsl2 := pageSlot_any W w15 Z bk5 pg 2 hp200 (by decide) h18
        change Calls _ _ #[_, .int .i64 2] _ _ at hsl2
        rw [Hs2.out] at hsl2
        unfold str at hsl2
        have hb := Hbd2.out w15 h18
        have H18 := hide h18
        clear h16 h17 h18
        refine lv_read (.bool true) rfl (by kernel_rfl) (by go_simp) ?_
        refine lv_read (.bool true) rfl (by kernel_rfl) (by go_simp) ?_
        refine lv_read (.bool true) rfl (by kernel_rfl) (by go_simp) ?_
        simp only [Act.put, List.setIfInBounds_toArray]
        refine hx_read (.int .u64 pl) rfl (by kernel_rfl) (fun ws hws => by go_simp) ?_
        refine lv_read (.pointer (some ⟨bk5, 0, none⟩)) rfl (by kernel_rfl) (by go_simp) ?_
        refine lv_read (.pointer (some ⟨bk5, 0, none⟩)) rfl (by kernel_rfl) (by go_simp) ?_
        refine lv_read (.pointer (some ⟨bk5, 0, none⟩)) rfl (by kernel_rfl) (by go_simp) ?_
        refine lv_read (.int .u64 pl) rfl (by kernel_rfl) (by go_simp) ?_
        refine lv_read (.bool true) rfl (by kernel_rfl) (by go_simp) ?_
        refine lv_read (.bool true) rfl (by kernel_rfl) (by go_simp) ?_
        refine lv_read (.bool true) rfl (by kernel_rfl) (by go_simp) ?_
        refine lv_read (.pointer (some ⟨bk5, 0, none⟩)) rfl (by kernel_rfl) (by go_simp) ?_
        refine lv_call 23 #[.pointer (some ⟨bk5, 0, none⟩), .int .i64 2] rfl (by kernel_rfl) (by go_simp) ?_
        refine hsl2.mono ?_
        rintro e w16 ⟨rfl, rfl⟩
        refine ⟨_, rfl, H18.out, ?_⟩
        clear hsl2 H18 c0
        refine lv_read_d (.bool true) 123 rfl (by kernel_rfl) rfl (by go_simp) ?_
        refine lv_read_d (.bool true) 124 rfl (by kernel_rfl) rfl (by go_simp) ?_
        refine lv_read_d (.bool true) 6 rfl (by kernel_rfl) rfl (by go_simp) ?_
        refine lv_end ?_
        simp only [Act.put]
        go_wp2_with fail
        go_ret
        exact ⟨by simp, hb⟩
end Go.Proofs.Ytmlifjfgelfbbaa
