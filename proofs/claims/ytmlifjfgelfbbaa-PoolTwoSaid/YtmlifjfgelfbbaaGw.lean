/-
  (*Pool).write of a changed frame: a contract, no statement.
-/
import Derived.Test.YtmlifjfgelfbbaaEE
import Derived.Test.YtmlifjfgelfbbaaFF
import Derived.Test.YtmlifjfgelfbbaaLU
import Derived.Test.YtmlifjfgelfbbaaRR
import Derived.Deep.CutBlock
namespace Go.Proofs.Ytmlifjfgelfbbaa
open Go Go.RowKit

/-- A lane's flush, and what it leaves alone. -/
theorem laneFlush_pg (w0 w : World) (R : HP) (p d r : Nat) {L : Ln} {m : Dk} {all : List Rec} {k : Nat} (hs : LSt m r L all k) (hu : m.armd r = false) (hwn : m.writes ≤ 800000000) (h : At w0 (lan p d r L * (dsk d m * R)) w) :
    Calls Try.prog 59 #[.pointer (some ⟨p, 0, none⟩)] w fun e w' => ∃ L' m', e = .returned (.int .i64 0) ∧ LSt m' r L' all all.length ∧ L'.gen = L.gen ∧ L'.bank = L.bank ∧ L'.b = L.b ∧ Same m m' r ∧ m'.armd r = false ∧ m'.writes ≤ m.writes + 256 ∧ PgSame m m' r ∧
      At w0 (lan p d r L' * (dsk d m' * R)) w' := by
  have hpg := hs.flush_pages
  refine (laneFlush_any w0 w R p d r L m hs.rest.hr hwn h).mono ?_
  rintro e w' ⟨rfl, h1⟩
  obtain ⟨g1, g2, g3, g4, g5, g6, g7, g8⟩ := hs.flush
  have h0 := g2 hu
  rw [h0]
  obtain ⟨g9, g10, g11, g12⟩ := g7 h0
  exact ⟨_, _, rfl, g9, g10, g11, g12, g3, g5.trans hu, g6, hpg, h1⟩
/-- The sectors of a page, written one by one. -/
def wrK (m : Dk) (r n : Nat) (b : List UInt8) : Nat → Dk
  | 0 => m
  | i + 1 => ((wrK m r n b i).wr r (pgAt n + i) ((b.drop (64 * i)).take 64)).2
theorem wrK_at {m : Dk} (hm : m.Wf) {r n : Nat} {b : List UInt8} (hr : r < m.regs.length) (hn : pgAt n + 3 < m.size) (hu : m.armd r = false) :
    ∀ i, i ≤ 4 → (wrK m r n b i).Wf ∧ Same m (wrK m r n b i) r ∧ (wrK m r n b i).armd r = false ∧ (wrK m r n b i).writes ≤ m.writes + i ∧ (i < 4 → ((wrK m r n b i).wr r (pgAt n + i) ((b.drop (64 * i)).take 64)).1 = 0)
  | 0, _ => by
    have a1 := Wrote.one (x := (b.drop 0).take 64) hm hr (show pgAt n + 0 < m.size by omega) (take64 _)
    exact ⟨hm, Same.rfl' m r, hu, Nat.le_refl _, fun _ => a1.un hu⟩
  | i + 1, hi => by
    obtain ⟨h1, h2, h3, h4, h5⟩ := wrK_at (b := b) hm hr hn hu i (by omega)
    have hr1 : r < (wrK m r n b i).regs.length := by rw [h2.regs]; exact hr
    have a1 := Wrote.one (x := (b.drop (64 * i)).take 64) h1 hr1 (show pgAt n + i < (wrK m r n b i).size by rw [h2.size]; omega) (take64 _)
    have hw := ((wrK m r n b i).wr_keeps r (pgAt n + i) ((b.drop (64 * i)).take 64)).2.2
    have hS : Same m (wrK m r n b (i + 1)) r := h2.trans a1.same
    have hA : (wrK m r n b (i + 1)).armd r = false := a1.armd.trans h3
    refine ⟨a1.wf, hS, hA, by show (((wrK m r n b i).wr r (pgAt n + i) ((b.drop (64 * i)).take 64)).2).writes ≤ _; omega, fun h4' => ?_⟩
    have a2 := Wrote.one (r := r) (s := pgAt n + (i + 1)) (x := (b.drop (64 * (i + 1))).take 64) a1.wf (by show r < (wrK m r n b (i + 1)).regs.length; rw [hS.regs]; exact hr) (by show _ < (wrK m r n b (i + 1)).size; rw [hS.size]; omega) (take64 _)
    exact a2.un hA
theorem wrK_page {m : Dk} (hm : m.Wf) {r n : Nat} {b : List UInt8} (hr : r < m.regs.length) (hn : pgAt n + 3 < m.size) (hu : m.armd r = false) : m.wrPage r n b = (wrK m r n b 4).bar r := by
  have h0 := (wrK_at (b := b) hm hr hn hu 0 (by decide)).2.2.2.2 (by decide)
  have h1 := (wrK_at (b := b) hm hr hn hu 1 (by decide)).2.2.2.2 (by decide)
  have h2 := (wrK_at (b := b) hm hr hn hu 2 (by decide)).2.2.2.2 (by decide)
  have h3 := (wrK_at (b := b) hm hr hn hu 3 (by decide)).2.2.2.2 (by decide)
  unfold Dk.wrPage Dk.wr4
  simp only [Nat.mul_zero, List.drop_zero, Nat.add_zero] at h0
  have e1 : wrK m r n b 1 = (m.wr r (pgAt n) (b.take 64)).2 := by simp [wrK]
  rw [show m.wr r (pgAt n) (b.take 64) = (wrK m r n b 0).wr r (pgAt n) (b.take 64) from rfl, thenD_0 h0]
  rw [show ((wrK m r n b 0).wr r (pgAt n) (b.take 64)).2 = wrK m r n b 1 from e1.symm, thenD_0 h1]
  rw [show ((wrK m r n b 1).wr r (pgAt n + 1) ((b.drop 64).take 64)).2 = wrK m r n b 2 from rfl, thenD_0 h2]
  rw [show ((wrK m r n b 2).wr r (pgAt n + 2) ((b.drop 128).take 64)).2 = wrK m r n b 3 from rfl, thenD_0 h3]
  rfl
/-- What is there when a page is written, the log ahead of it. -/
structure PgWr (m m' : Dk) (r : Nat) (L L' : Ln) (all : List Rec) (p : Pg) : Prop where
  st : LSt m' r L' all all.length
  gen : L'.gen = L.gen
  bank : L'.bank = L.bank
  same : Same m m' r
  armd : m'.armd r = false
  writes : m'.writes ≤ m.writes + 260
  page : m'.page r p.number = p.enc
  other : ∀ n, n ≠ p.number → pgAt n + 3 < m.size → m'.page r n = m.page r n
theorem PgWr.make {m m1 : Dk} {r : Nat} {L L1 : Ln} {all : List Rec} {p : Pg} (hst : LSt m1 r L1 all all.length) (hgen : L1.gen = L.gen) (hbank : L1.bank = L.bank) (hsame : Same m m1 r) (harm : m1.armd r = false) (hwr : m1.writes ≤ m.writes + 256)
    (hps : PgSame m m1 r) (hw : m.wts r = []) (hp : p.Wf) (hn : pgAt p.number + 3 < m.size) : ((wrK m1 r p.number p.enc 4).bar r).1 = 0 ∧ PgWr m ((wrK m1 r p.number p.enc 4).bar r).2 r L L1 all p := by
  have hr := hst.rest.hr
  have hpz : pgAt p.number = 514 + 4 * p.number := rfl
  have hn1 : pgAt p.number + 3 < m1.size := by rw [hsame.size]; exact hn
  have hw1 := hst.rest.wts
  have hd := Dk.wrPage_dat (b := p.enc) hst.rest.wf hr hn1 (p.enc_len hp) hw1 harm
  rw [wrK_page hst.rest.wf hr hn1 harm] at hd
  obtain ⟨d0, d1, d2, d3, d4, d5, d6⟩ := hd
  have hk := (wrK_at (b := p.enc) hst.rest.wf hr hn1 harm 4 (by decide)).2.2.2.1
  have hb := ((wrK m1 r p.number p.enc 4).bar_keeps r).2.2
  refine ⟨d0, ⟨hst.paged d2 d1 d3 fun s hs => d6 s (by omega) (.inl (by unfold pgAt; omega)), hgen, hbank, hsame.trans d2, d4, by omega, d5, fun n hne hns => ?_⟩⟩
  unfold Dk.page
  have e : ∀ j, j < 4 → (((wrK m1 r p.number p.enc 4).bar r).2).sec r (pgAt n + j) = m.sec r (pgAt n + j) := fun j hj => by
    rw [Dk.sec_nil d3, Dk.sec_nil hw, d6 _ (by rw [hsame.size]; omega) (by unfold pgAt; omega), hps _ (by unfold pgAt; omega) (by omega)]
  have e0 := e 0 (by decide)
  rw [Nat.add_zero] at e0
  rw [e0, e 1 (by decide), e 2 (by decide), e 3 (by decide)]

set_option maxRecDepth 100000 in
set_option maxHeartbeats 8000000 in
theorem poolWrite_ok (w0 w : World) (R : HP) (b F k d r l sn : Nat) (C : Array Value) {L : Ln} {m : Dk} {all : List Rec} {kk : Nat} (p : Pg) (hs : LSt m r L all kk) (hu : m.armd r = false) (hwn : m.writes ≤ 700000000) (hsz : m.size ≤ 65536) (hp : p.Wf) (hn : pgAt p.number + 3 < m.size)
    (hc0 : C[0]? = some (.pointer (some ⟨d, 0, none⟩))) (hc1 : C[1]? = some (.int .i64 r)) (hc2 : C[2]? = some (.pointer (some ⟨l, 0, none⟩))) (hf0 : C[F]? = some (.pointer (some ⟨k, 0, none⟩))) (hf1 : C[F + 1]? = some (.int .u64 sn)) (hsn : sn ≠ 0)
    (h : At w0 (cel b C 90 * (pgB k p * (lan l d r L * (dsk d m * R)))) w) :
    Calls Try.prog 41 #[.pointer (some ⟨b, 0, none⟩), .pointer (some ⟨b, F, none⟩)] w fun e w' => ∃ L' m', e = .returned (.int .i64 0) ∧ PgWr m m' r L L' all p ∧
      At w0 (cel b (C.setIfInBounds (F + 1) (.int .u64 0)) 90 * (pgB k p * (lan l d r L' * (dsk d m' * R)))) w' := by
  have hwts := hs.rest.wts
  have c0 : w.cell? ⟨b, 0, none⟩ = _ := At.cell h hc0
  have c1 : w.cell? ⟨b, 1, none⟩ = _ := At.cell h hc1
  have c2 : w.cell? ⟨b, 2, none⟩ = _ := At.cell h hc2
  have cf0 : w.cell? ⟨b, F, none⟩ = _ := At.cell h hf0
  have cf1 : w.cell? ⟨b, F + 1, none⟩ = _ := At.cell h hf1
  have hsz0 : ¬ (sn : Int) = 0 := by omega
  have hfl := laneFlush_pg w0 w _ l d r hs hu (by omega) (h.cast (show _ = lan l d r L * (dsk d m * (cel b C 90 * (pgB k p * R))) by ac_rfl))
  go_enter Try.func41, Try.ntmps41
  go_wp2_with fail
  refine hfl.mono ?_
  rintro e w1 ⟨L1, m1, rfl, hst, hgen, hbank, -, hsame, harm, hwr, hps, h1⟩
  clear hfl h c0 c1 c2 cf0 cf1
  have Hmk := hide (PgWr.make hst hgen hbank hsame harm hwr hps hwts hp hn)
  have h2 := h1.cast (show _ = cel b C 90 * (pgB k p * (lan l d r L1 * (dsk d m1 * R))) by ac_rfl)
  have cf0 : w1.cell? ⟨b, F, none⟩ = _ := At.cell h2 hf0
  have hen := pageEncode_any w0 w1 _ p hp h2
  clear h1
  go_upto_region 6 with fail
  go_wp2_with (refine wpList_load_agg rfl (.tmp 34) 41 rfl _ Try.underlying41 rfl (ys := p.cells) (by rw [Try.sizePage, pg_len hp.slots]) (g := k) (off := 0) rfl (fun j u hu => by rw [Nat.zero_add]; exact At.cell h2.pull2 (by simpa using hu)) ?_)
  refine hen.mono ?_
  rintro e w2 ⟨a2, g2, rfl, h3⟩
  clear hen h2 cf0
  obtain ⟨g, gc, q1, hle1, -⟩ := h3.row_ptr (by decide)
  cases q1
  have hpz : pgAt p.number = 514 + 4 * p.number := rfl
  have hr1 : r < m1.regs.length := hst.rest.hr
  have hn1 : pgAt p.number + 3 < m1.size := by rw [hsame.size]; exact hn
  have hat := fun i hi => wrK_at (b := p.enc) hst.rest.wf hr1 hn1 harm i hi
  have Hat := hide hat
  have hms : m1.size = m.size := hsame.size
  have hel : p.enc.length = 256 := p.enc_len hp
  clear hat hps hsame hgen hbank
  go_wp2_with fail
  go_loopw [37] (fun u37 wr => ∃ i : Nat, i ≤ 4 ∧ u37 = .int .i64 i ∧ At w0 (row 5 1 (.slice (some ⟨g, 0, none⟩) 256 g2) 256 (bys p.enc) * (cel b C 90 * (pgB k p * (lan l d r L1 * (dsk d (wrK m1 r p.number p.enc i) * R))))) wr) (fun u _ => 4 - (intOf u).toNat)
  case atStart => exact ⟨0, Nat.zero_le _, rfl, h3⟩
  case round =>
    obtain ⟨i, hile, rfl, h4⟩ := hrel
    clear h3
    have c0 : wr.cell? ⟨b, 0, none⟩ = _ := At.cell h4.pull2 hc0
    have c1 : wr.cell? ⟨b, 1, none⟩ = _ := At.cell h4.pull2 hc1
    have cf0 : wr.cell? ⟨b, F, none⟩ = _ := At.cell h4.pull2 hf0
    by_cases hil : i < 4
    · have hilz : (i : Int) < 4 := by omega
      have k2 : wr.cell? ⟨k, 2, none⟩ = some (.int .i64 p.number) := At.cell h4.pull3 rfl
      obtain ⟨M, hM⟩ : ∃ M, wrK m1 r p.number p.enc i = M := ⟨_, rfl⟩
      obtain ⟨M2, hM2⟩ : ∃ M, wrK m1 r p.number p.enc (i + 1) = M := ⟨_, rfl⟩
      obtain ⟨x1, x2, x3, x4, x5⟩ := Hat.out i hile
      have x5 := x5 hil
      obtain ⟨nn, hnn⟩ : ∃ nn, p.number = nn := ⟨_, rfl⟩
      obtain ⟨s, hs2⟩ : ∃ y, 514 + 4 * nn + i = y := ⟨_, rfl⟩
      obtain ⟨s1, hs1⟩ : ∃ y, 64 * i = y := ⟨_, rfl⟩
      obtain ⟨s3, hs3⟩ : ∃ y, s1 + 64 = y := ⟨_, rfl⟩
      obtain ⟨xb, hxb⟩ : ∃ y, (p.enc.drop (64 * i)).take 64 = y := ⟨_, rfl⟩
      have hxl : xb.length = 64 := by rw [← hxb, List.length_take, List.length_drop, hel]; omega
      have hpg : pgAt p.number + i = s := by rw [hpz, hnn, hs2]
      have hss : s < m.size := by omega
      have hM2' : M2 = (M.wr r s xb).2 := by rw [← hM2, wrK, hM, hpg, hxb]
      rw [hM] at h4 x1 x2 x4 x5
      rw [hpg, hxb] at x5
      rw [hnn] at k2
      have hdw := diskWr_any w0 wr.drew (row 5 1 (.slice (some ⟨g, 0, none⟩) 256 g2) 256 (bys p.enc) * (cel b C 90 * (pgB k p * (lan l d r L1 * R)))) d M r s (some ⟨g, s1, none⟩) (g2 - s1) xb (by rw [hxl]; decide) (fun w' h' => by
        have := (h'.rd (v := .slice (some ⟨g, 0, none⟩) 256 g2)).mid s1 64 (by omega)
        rw [Nat.zero_add, ← hs1, hxb] at this
        rw [hxl, ← hs1]
        exact this) (by rw [x2.regs]; exact hr1) (by omega) (h4.drew.cast (by ac_rfl))
      rw [hxl, x5, ← hM2'] at hdw
      have e1 : (i : Int) * 64 = (s1 : Int) := by omega
      have e2 : ((i : Int) + 1) * 64 = (s3 : Int) := by omega
      have e3 : (514 : Int) + 4 * (nn : Int) + (i : Int) = (s : Int) := by omega
      have g1' := IntWalk.i64_in (s1 : Int) (by omega)
      have g2' := IntWalk.i64_in (s3 : Int) (by omega)
      have g3' := IntWalk.i64_in ((i : Int) + 1) (by omega)
      have g4' := IntWalk.i64_in (s : Int) (by omega)
      have g5' := IntWalk.i64_in (4 * (nn : Int)) (by omega)
      have g6' := IntWalk.i64_in (514 + 4 * (nn : Int)) (by omega)
      have hq : s3 - s1 = 64 := by omega
      have HM := hide hM
      have HM2 := hide hM2
      have Hpg := hide hpg
      have Hxb := hide hxb
      have Hnn := hide hnn
      clear hM hM2 hM2' hpg hxb x1 x2 x3 x4 x5 hnn hs1
      go_upto_region 10 with fail
      refine wp_region_line [0, 1, 2, 3, 4, 5, 6, 7, 8, 9, 10, 11, 12, 13, 14, 15, 16, 17, 18, 19, 20, 21, 22, 23, 24, 25, 26, 27] rfl (by kernel_rfl) ?_
      simp only [picks_cons, picks_nil, getD_zero, getD_succ]
      go_wp2_with fail
      refine hdw.mono ?_
      rintro e w5 ⟨rfl, h5⟩
      have h6 := h5.cast (show _ = row 5 1 (.slice (some ⟨g, 0, none⟩) 256 g2) 256 (bys p.enc) * (cel b C 90 * (pgB k p * (lan l d r L1 * (dsk d M2 * R)))) by ac_rfl)
      clear hdw h4 h5 c0 c1 cf0 k2 e1 e2 e3 g1' g2' g3' g4' g5' g6'
      go_wp2_with fail
      refine ⟨by kernel_rfl, ?_⟩
      go_wp2_with fail
      go_roundw
      case rel => exact ⟨i + 1, by omega, by go_num, by rw [HM2.out]; exact h6⟩
      case measure => simp [intOf] <;> omega
    · obtain rfl : i = 4 := by omega
      obtain ⟨M, hM⟩ : ∃ M, wrK m1 r p.number p.enc 4 = M := ⟨_, rfl⟩
      obtain ⟨x1, x2, x3, x4, -⟩ := Hat.out 4 (by decide)
      have hmk := Hmk.out
      rw [hM] at h4 x1 x2 x4 hmk
      obtain ⟨hb0, hpw⟩ := hmk
      have hbr := diskBar_any w0 wr.drew (row 5 1 (.slice (some ⟨g, 0, none⟩) 256 g2) 256 (bys p.enc) * (cel b C 90 * (pgB k p * (lan l d r L1 * R)))) d M r (by rw [x2.regs]; exact hr1) (by omega) (h4.drew.cast (by ac_rfl))
      rw [hb0] at hbr
      have Hpw := hide hpw
      clear hM hile hil x1 x2 x3 x4 hb0 hpw
      go_upto_region 14 with fail
      refine wp_region_line [0, 1, 2, 3, 4, 5, 6, 7, 8, 9] rfl (by kernel_rfl) ?_
      simp only [picks_cons, picks_nil, getD_zero, getD_succ]
      go_wp2_with fail
      refine hbr.mono ?_
      rintro e w5 ⟨rfl, h5⟩
      have h6 := h5.cast (show _ = cel b C 90 * (pgB k p * (lan l d r L1 * (dsk d (M.bar r).2 * (row 5 1 (.slice (some ⟨g, 0, none⟩) 256 g2) 256 (bys p.enc) * R)))) by ac_rfl)
      have s0 : w5.cell? ⟨b, F + 1, none⟩ = _ := At.cell h6 hf1
      have s1 := At.frz h6 (F + 1)
      have s2 := At.lt h6
      clear hbr h4 h5 c0 c1 cf0
      go_wp2_with fail
      refine ⟨by kernel_rfl, ?_⟩
      go_wp2_with fail
      go_ret
      have h7 := h6.set (F + 1) (.int .u64 0)
      refine ⟨L1, (M.bar r).2, rfl, Hpw.out, ?_⟩
      exact (h7.cast (show _ = cel b (C.setIfInBounds (F + 1) (.int .u64 0)) 90 * (pgB k p * (lan l d r L1 * (dsk d (M.bar r).2 * R))) * row 5 1 (.slice (some ⟨g, 0, none⟩) 256 g2) 256 (bys p.enc) by ac_rfl)).l
end Go.Proofs.Ytmlifjfgelfbbaa
