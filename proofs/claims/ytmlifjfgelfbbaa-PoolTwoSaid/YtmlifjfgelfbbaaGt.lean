/-
  Of layer 8's statements: how each begins, and fit: it returns true: contracts, no statement.
-/
import Derived.Test.YtmlifjfgelfbbaaGG
import Derived.Test.YtmlifjfgelfbbaaGv
import Derived.Test.YtmlifjfgelfbbaaFF
import Derived.Test.YtmlifjfgelfbbaaSd
namespace Go.Proofs.Ytmlifjfgelfbbaa
open Go Go.RowKit

/-- A lane is laid: nothing but its own sectors turns. -/
theorem laneNew_pg (w0 w : World) (R : HP) (d r : Nat) (m : Dk) (hm : m.Wf) (hr : r < m.regs.length) (hsz : 514 ≤ m.size) (hw : m.wts r = []) (hu : m.armd r = false) (hwn : m.writes ≤ 800000000) (h : At w0 (dsk d m * R) w) :
    Calls Try.prog 10 #[.pointer (some ⟨d, 0, none⟩), .int .i64 r] w fun e w' => ∃ P L m', e = .returned (.tuple #[.pointer (some ⟨P, 0, none⟩), .int .i64 0]) ∧
      LSt m' r L [recCheck] 1 ∧ L.gen = 1 ∧ L.bank = 0 ∧ Same m m' r ∧ m'.armd r = false ∧ m'.writes ≤ m.writes + 520 ∧ PgSame m m' r ∧ At w0 (lan P d r L * (dsk d m' * R)) w' := by
  obtain ⟨L, m', e, h1, h2, h3, h4, h5, h6, h7⟩ := lane_new_pages hm hr hsz hw hu
  have := laneNew_any w0 w R d r m hr hwn h
  rw [e] at this
  refine this.mono ?_
  rintro e w' ⟨P, rfl, hA⟩
  exact ⟨P, L, m', rfl, h1, h2, h3, h4, h5, h6, h7, hA⟩
/-- Pages of a region of which nothing was written. -/
def Blank (m : Dk) (r : Nat) : Prop := ∀ n, n < 6 → m.page r n = zs 256
theorem Dk.new_blank {n size r : Nat} (hr : r < n) (hs : 538 ≤ size) : Blank (Dk.new n size) r := by
  have hw := (Dk.new_at n size r hr).1
  intro k hk
  have e : ∀ s, s < size → (Dk.new n size).sec r s = zbys 64 := fun s hs2 => by
    rw [Dk.sec_nil hw]
    show ((List.replicate (n * size) (zbys 64))[r * size + s]?).getD [] = zbys 64
    have : r * size + s < n * size := by
      have : (r + 1) * size ≤ n * size := Nat.mul_le_mul_right _ hr
      rw [Nat.add_mul, Nat.one_mul] at this
      omega
    rw [List.getElem?_replicate, if_pos this]
    rfl
  unfold Dk.page
  rw [e _ (by unfold pgAt; omega), e _ (by unfold pgAt; omega), e _ (by unfold pgAt; omega), e _ (by unfold pgAt; omega)]
  simp only [zbys, zs, List.replicate_append_replicate]
theorem PgSame.page {m m' : Dk} {r : Nat} (h : PgSame m m' r) (hw : m.wts r = []) (hw' : m'.wts r = []) {n : Nat} (hn : pgAt n + 3 < m.size) : m'.page r n = m.page r n := by
  have e : ∀ j, j < 4 → m'.sec r (pgAt n + j) = m.sec r (pgAt n + j) := fun j hj => by
    rw [Dk.sec_nil hw', Dk.sec_nil hw]
    exact h _ (by unfold pgAt; omega) (by omega)
  have e0 := e 0 (by decide)
  rw [Nat.add_zero] at e0
  unfold Dk.page
  rw [e0, e 1 (by decide), e 2 (by decide), e 3 (by decide)]
/-- Zeros are a page without a mark. -/
theorem dec_zs (t n : Nat) : decOk (zs 256) t n = true ∧ Pg.dec (zs 256) t n = ⟨0, t, n, zs 200⟩ := by
  have h1 : Pg.dec (zs 256) t n = ⟨0, t, n, zs 200⟩ := by
    unfold Pg.dec
    rw [show num ((zs 256).take 8) = 0 by decide]
    rfl
  refine ⟨?_, h1⟩
  unfold decOk
  rw [h1, show num ((zs 256).take 8) = 0 by decide]
  have h2 : (Pg.mk 0 t n (zs 200)).enc = zs 256 := if_pos rfl
  rw [h2]
  have h3 : ((List.range 5).all fun i => decide (rowSt (slotAt (zs 200) i) ≠ 9)) = true := by decide
  simp only [decide_true, Bool.true_or, Bool.true_and]
  exact h3

def sd0 : Sd := ⟨0, 0, 0, 0, 0, 0, 0, []⟩
theorem sd0_wf : sd0.Wf := by
  refine ⟨?_, ?_, ?_, fun d hd => by cases hd⟩ <;> decide
theorem sd0_kind : sd0.rcd.kind = 1 := by decide

set_option maxRecDepth 100000 in
set_option maxHeartbeats 8000000 in
theorem poolFit_any (w0 w : World) (A : HP) (h : At w0 A w) :
    Calls Try.prog 8 #[] w fun e w' => e = .returned (.bool true) ∧ At w0 A w' := by
  have hnew := diskNew_any w0 w A 1 538 (by decide) (by decide) (by decide) (by decide) h
  change Calls _ _ #[.int .i64 1, .int .i64 538] _ _ at hnew
  clear h
  go_enter Try.func8, Try.ntmps8
  go_wp2_with fail
  refine hnew.mono ?_
  rintro e w1 ⟨D, rfl, h1⟩
  clear hnew
  have hN := Dk.new_at 1 538 0 (by decide)
  have hbk := Dk.new_blank (n := 1) (size := 538) (r := 0) (by decide) (by decide)
  have hln := laneNew_pg w0 w1 A D 0 (Dk.new 1 538) (Dk.new_wf (by decide) (by decide) (by decide)) (by decide) (by decide) hN.1 hN.2 (by decide) h1
  change Calls _ _ #[_, .int .i64 0] _ _ at hln
  have hn1 : (Dk.new 1 538).regs.length = 1 := rfl
  have hn2 : (Dk.new 1 538).writes = 0 := rfl
  have hn3 : (Dk.new 1 538).size = 538 := rfl
  have hw0 := hN.1
  rw [hn2] at hln
  generalize Dk.new 1 538 = m0 at *
  clear h1 hN
  go_wp2_with fail
  refine hln.mono ?_
  rintro e w2 ⟨P, L, m1, rfl, hs, hg, hb, hsame, hun, hwr, hps, h2⟩
  clear hln
  have hpg : m1.page 0 2 = zs 256 := (hps.page hw0 hs.rest.wts (by rw [hn3]; decide)).trans (hbk 2 (by decide))
  have hsz1 : m1.size = 538 := hsame.size.trans hn3
  have hrg1 : m1.regs.length = 1 := hsame.regs.trans hn1
  have hpn := poolNew_any w0 w2 _ D 0 P h2
  change Calls _ _ #[_, .int .i64 0, _] _ _ at hpn
  have Hs := hide hs
  have Hpg := hide hpg
  clear h2 hs hsame hps hbk hw0 hn1 hn2 hn3 hpg hg hb
  go_wp2_with fail
  refine hpn.mono ?_
  rintro e w3 ⟨b, rfl, h3⟩
  clear hpn
  have hgt := poolGet_new w0 w3 (lan P D 0 L * A) b (PoS.new D 0 P) m1 2 0 (by rw [hrg1]; exact Nat.zero_lt_one) (show (0 : Nat) < 65536 by decide) (by decide) (by omega) (by omega) (by omega) rfl rfl (h3.cast (show _ = poB b (PoS.new D 0 P) * (dsk D m1 * (lan P D 0 L * A)) by ac_rfl))
  change Calls _ _ #[_, .int .i64 2] _ (gotB b 0 (PoS.new D 0 P) (m1.page 0 2) 2 w0 (dsk D m1 * (lan P D 0 L * A))) at hgt
  rw [Hpg.out] at hgt
  clear h3
  go_wp2_with fail
  refine hgt.mono ?_
  rintro e w4 (⟨-, k, rfl, h4⟩ | ⟨hno, _⟩)
  case inr => exact absurd ((dec_zs 0 2).1.symm.trans hno) (by decide)
  clear hgt
  obtain ⟨P1, hP1⟩ : ∃ P1 : PoS, P1 = ⟨D, 0, P, ⟨k, some ⟨0, 0, 2, zs 200⟩, 0, true⟩, Fr.none', Fr.none', 0⟩ := ⟨_, rfl⟩
  obtain ⟨P2, hP2⟩ : ∃ P1 : PoS, P1 = ⟨D, 0, P, ⟨k, some ⟨99, 0, 2, zs 200⟩, 99, true⟩, Fr.none', Fr.none', 0⟩ := ⟨_, rfl⟩
  have e1 : (PoS.new D 0 P).setFr 0 ⟨k, some (Pg.dec (zs 256) (PoS.new D 0 P).r 2), ((PoS.new D 0 P).fr 0).since, true⟩ = P1 := by rw [hP1, (dec_zs _ _).2]; rfl
  have e2 : P1.touch 2 99 = P2 := by rw [hP1, hP2]; rfl
  have e3 : P2.clean 2 = false := by rw [hP2]; rfl
  have e4 : (P2.flushed 2).clean 2 = true := by rw [hP2]; rfl
  have e5 : P2.Pages := by
    rw [hP2]
    intro i hi p hp
    rcases three hi with rfl | rfl | rfl
    · cases hp
      exact ⟨⟨zs_len 200, by decide, by decide, by decide⟩, by decide⟩
    · cases hp
    · cases hp
  have e6 : P2.d = D ∧ P2.r = 0 ∧ P2.l = P := by rw [hP2]; exact ⟨rfl, rfl, rfl⟩
  rw [e1] at h4
  have ht := poolTouch_any w0 w4 _ b P1 2 99 h4
  change Calls _ _ #[_, _, .int .u64 99] _ _ at ht
  rw [e2] at ht
  clear e1 e2 h4 hP1 hP2
  go_wp2_with fail
  refine ht.mono ?_
  rintro e w5 ⟨rfl, h5⟩
  clear ht
  have hc := poolClean_any w0 w5 _ b P2 2 h5
  rw [e3] at hc
  clear e3
  go_wp2_with fail
  refine hc.mono ?_
  rintro e w' ⟨rfl, rfl⟩
  clear hc
  obtain ⟨q1, q2, q3⟩ := e6
  have hfl := poolFlush_any w0 w5 A b P2 2 (L := L) (m := m1) (by rw [q2]; exact Hs.out) (by rw [q2]; exact hun) (by omega) (by omega) (by omega) e5 (h5.cast (show _ = poB b P2 * (lan P2.l P2.d P2.r L * (dsk P2.d m1 * A)) by rw [q1, q2, q3]; ac_rfl))
  rw [q1, q2, q3] at hfl
  have Hc := hide e4
  clear h5 e5 e4
  go_wp2_with fail
  refine hfl.mono ?_
  rintro e w6 ⟨L', m2, rfl, hrel, h6⟩
  clear hfl
  have hst2 : m2.wts 0 = [] ∧ m2.regs.length = 1 := by
    rcases hrel with ⟨hx, rfl, rfl⟩ | ⟨_, i, p, _, _, hw⟩
    · exact ⟨Hs.out.rest.wts, hrg1⟩
    · rw [q2] at hw
      exact ⟨hw.st.rest.wts, hw.same.regs.trans hrg1⟩
  have hc2 := poolClean_any w0 w6 _ b (P2.flushed 2) 2 h6
  rw [Hc.out] at hc2
  have hwt := diskWaits_any w0 w6 _ D m2 0 (by rw [hst2.2]; decide) hst2.1 h6.pull3
  change Calls _ _ #[_, .int .i64 0] _ _ at hwt
  have hsd := seedRec_any w0 w6 _ sd0 none 0 sd0_wf (by decide) (fun h => absurd h (by decide)) h6
  obtain ⟨kd, hkd⟩ : ∃ kd, sd0.rcd = kd := ⟨_, rfl⟩
  have hk1 : kd.kind = 1 := by rw [← hkd]; exact sd0_kind
  rw [hkd] at hsd
  unfold Rec.cells Sd.cells at hsd
  rw [hk1] at hsd
  simp only [sd0] at hsd
  clear hkd hk1 hrel hst2
  go_wp2_with fail
  refine hc2.mono ?_
  rintro e w' ⟨rfl, rfl⟩
  go_wp2_with fail
  refine hwt.mono ?_
  rintro e w' ⟨rfl, rfl⟩
  go_wp2_with fail
  refine hsd.mono ?_
  rintro e w7 ⟨a7, c7, rfl, h7⟩
  clear hc2 hwt hsd
  have hfd : ∀ ws, (Instr.field 52 (.agg #[.int .i64 1, .int .i64 kd.txn, .int .i64 kd.page, .int .i64 kd.slot, .string kd.before, .string kd.after, .string kd.image, .slice a7 kd.dirty.length c7]) 0).run Try.prog ws = .ok (.int .i64 1) ws := fun ws => by kernel_rfl
  go_wp2_with fail
  go_ret
  exact ⟨rfl, h7.r.r.r.r⟩
end Go.Proofs.Ytmlifjfgelfbbaa
