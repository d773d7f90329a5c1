/-
  (*Pool).room where no frame is free: the clock: a contract, no statement.
-/
import Derived.Test.YtmlifjfgelfbbaaGG
import Derived.Deep.LoopGhost
namespace Go.Proofs.Ytmlifjfgelfbbaa
open Go Go.RowKit

def FrSame (f g : Fr) : Prop := f.blk = g.blk ∧ f.pg = g.pg ∧ f.since = g.since
theorem FrSame.rfl' (f : Fr) : FrSame f f := ⟨rfl, rfl, rfl⟩
theorem FrSame.trans {f g h : Fr} (a : FrSame f g) (b : FrSame g h) : FrSame f h := ⟨a.1.trans b.1, a.2.1.trans b.2.1, a.2.2.trans b.2.2⟩
theorem FrSame.ptr {f g : Fr} (a : FrSame f g) : f.ptr = g.ptr := by unfold Fr.ptr; rw [a.1, a.2.1]
theorem FrSame.hp {f g : Fr} (a : FrSame f g) : f.hp = g.hp := by unfold Fr.hp; rw [a.1, a.2.1]
/-- The clock's hand and the marks of what was asked for may have moved. -/
structure Ticked (P P' : PoS) : Prop where
  d : P'.d = P.d
  r : P'.r = P.r
  l : P'.l = P.l
  fr : ∀ i, i < 3 → FrSame (P'.fr i) (P.fr i)
theorem Ticked.rfl' (P : PoS) : Ticked P P := ⟨rfl, rfl, rfl, fun _ _ => FrSame.rfl' _⟩
theorem Ticked.trans {A B C : PoS} (x : Ticked A B) (y : Ticked B C) : Ticked A C :=
  ⟨y.d.trans x.d, y.r.trans x.r, y.l.trans x.l, fun i hi => (y.fr i hi).trans (x.fr i hi)⟩
def PoS.toHand (P : PoS) (h : Nat) : PoS := { P with hand := h }
theorem PoS.toHand_fr (P : PoS) (h i : Nat) : (P.toHand h).fr i = P.fr i := by
  unfold PoS.toHand PoS.fr
  split <;> rfl
theorem PoS.ticked_hand (P : PoS) (h : Nat) : Ticked P (P.toHand h) := ⟨rfl, rfl, rfl, fun i _ => by rw [P.toHand_fr]; exact FrSame.rfl' _⟩
theorem PoS.ticked_again (P : PoS) {i : Nat} (hi : i < 3) (a : Bool) : Ticked P (P.setFr i { P.fr i with again := a }) := by
  obtain ⟨b1, b2, b3, _⟩ := P.set_base i { P.fr i with again := a }
  refine ⟨b1, b2, b3, fun k hk => ?_⟩
  by_cases hki : k = i
  · subst hki
    rw [P.fr_set hk]
    exact ⟨rfl, rfl, rfl⟩
  · rw [P.fr_ne hi hk hki]
    exact FrSame.rfl' _
def b2n (b : Bool) : Nat := if b then 1 else 0
def PoS.cnt (P : PoS) : Nat := b2n P.f0.again + b2n P.f1.again + b2n P.f2.again
theorem PoS.cnt_hand (P : PoS) (h : Nat) : (P.toHand h).cnt = P.cnt := rfl
theorem PoS.cnt_less {P : PoS} {i : Nat} (hi : i < 3) (ha : (P.fr i).again = true) : (P.setFr i { P.fr i with again := false }).cnt < P.cnt := by
  rcases three hi with rfl | rfl | rfl
  · show b2n false + b2n P.f1.again + b2n P.f2.again < b2n P.f0.again + b2n P.f1.again + b2n P.f2.again
    have : P.f0.again = true := ha
    rw [this]
    simp [b2n]
  · show b2n P.f0.again + b2n false + b2n P.f2.again < b2n P.f0.again + b2n P.f1.again + b2n P.f2.again
    have : P.f1.again = true := ha
    rw [this]
    simp [b2n]
  · show b2n P.f0.again + b2n P.f1.again + b2n false < b2n P.f0.again + b2n P.f1.again + b2n P.f2.again
    have : P.f2.again = true := ha
    rw [this]
    simp [b2n]
theorem At.hand {w0 w : World} {R : HP} {b : Nat} {P : PoS} (x : Nat) (h : At w0 (poB b P * R) w) : At w0 (poB b (P.toHand x) * R) (w.setCell ⟨b, 12, none⟩ (.int .i64 x)) := by
  unfold poB at h ⊢
  have := (h.assoc).set' (d := (P.toHand x).cells) 12 (.int .i64 x) rfl
  exact this.assoc'
/-- What came of the frame that makes room. -/
def EvRel (f : Fr) (r : Nat) (m m' : Dk) (L L' : Ln) (all : List Rec) : Prop :=
  (f.since = 0 ∧ L' = L ∧ m' = m) ∨ (f.since ≠ 0 ∧ ∃ p, f.pg = some p ∧ PgWr m m' r L L' all p)
structure Evicted (P P' : PoS) (j : Nat) : Prop where
  j3 : j < 3
  d : P'.d = P.d
  r : P'.r = P.r
  l : P'.l = P.l
  hand : P'.hand < 3
  gone : P'.fr j = Fr.none'
  rest : ∀ i, i < 3 → i ≠ j → FrSame (P'.fr i) (P.fr i)

set_option maxRecDepth 100000 in
set_option maxHeartbeats 8000000 in
theorem poolRoom_clock (w0 w : World) (R : HP) (b : Nat) (P : PoS) {L : Ln} {m : Dk} {all : List Rec} {kk : Nat} (hs : LSt m P.r L all kk) (hu : m.armd P.r = false) (hwn : m.writes ≤ 700000000) (hsz : m.size ≤ 65536) (hsz2 : 538 ≤ m.size) (hP : P.Pages) (hfull : ∀ i, i < 3 → ∃ p, (P.fr i).pg = some p) (hh : P.hand < 3)
    (h : At w0 (poB b P * (lan P.l P.d P.r L * (dsk P.d m * R))) w) :
    Calls Try.prog 36 #[.pointer (some ⟨b, 0, none⟩)] w fun e w' => ∃ P' j L' m', e = .returned (.tuple #[.pointer (some ⟨b, 3 + 3 * j, none⟩), .int .i64 0]) ∧ Evicted P P' j ∧ EvRel (P.fr j) P.r m m' L L' all ∧
      At w0 (poB b P' * (lan P.l P.d P.r L' * (dsk P.d m' * R))) w' := by
  have hpt : ∀ i, i < 3 → (P.fr i).ptr = .pointer (some ⟨(P.fr i).blk, 0, none⟩) := fun i hi => by
    obtain ⟨p, hp⟩ := hfull i hi
    unfold Fr.ptr
    rw [hp]
  have Hpt := hide hpt
  have Hfull := hide hfull
  have HPg := hide hP
  have Hs := hide hs
  clear hpt hfull hP hs
  go_enter Try.func36, Try.ntmps36
  go_wp2_with fail
  go_loopw [7] (fun u7 wr => ∃ i : Nat, i ≤ 3 ∧ u7 = .int .i64 i ∧ wr = w) (fun u _ => 3 - (intOf u).toNat)
  case atStart => exact ⟨0, Nat.zero_le _, rfl, rfl⟩
  case round =>
    obtain ⟨i, hi3, rfl, rfl⟩ := hrel
    by_cases hil : i < 3
    · have hilz : (i : Int) < 3 := by omega
      have c0 : wr.cell? ⟨b, 3 + 3 * i, none⟩ = some (P.fr i).ptr := by
        unfold poB at h
        exact At.cell h.assoc (P.cells_fr hil).1
      rw [show 3 * i = i * 3 from Nat.mul_comm _ _, Hpt.out i hil] at c0
      go_wp2_with fail
      go_roundw
      case rel => exact ⟨i + 1, by omega, by go_num, trivial⟩
      case measure => simp [intOf] <;> omega
    · obtain rfl : i = 3 := by omega
      go_wp2_with fail
      go_loopg [] (P.cnt + 1) (fun k wx => ∃ P1 : PoS, Hid (Ticked P P1) ∧ P1.hand < 3 ∧ P1.cnt < k ∧ At w0 (poB b P1 * (lan P.l P.d P.r L * (dsk P.d m * R))) wx)
      case atStart => exact ⟨P, hide (Ticked.rfl' P), hh, by omega, h⟩
      case round =>
        obtain ⟨P1, HT, hh1, hcnt, h1⟩ := hrel
        obtain ⟨hd, hhd⟩ : ∃ hd, P1.hand = hd := ⟨_, rfl⟩
        have hhd3 : hd < 3 := by omega
        have c12 : wr.cell? ⟨b, 12, none⟩ = some (.int .i64 hd) := by
          rw [← hhd]
          unfold poB at h1
          exact At.cell h1.assoc rfl
        have f12 : wr.frozen? ⟨b, 12, none⟩ = false := by
          unfold poB at h1
          exact At.frz h1.assoc 12
        have fl : b < wr.heap.size := by
          unfold poB at h1
          exact At.lt h1.assoc
        obtain ⟨nx, hnx, hnx3⟩ : ∃ nx : Nat, ((hd : Int) + 1).tmod 3 = (nx : Int) ∧ nx < 3 := by
          rcases three hhd3 with rfl | rfl | rfl
          · exact ⟨1, rfl, by decide⟩
          · exact ⟨2, rfl, by decide⟩
          · exact ⟨0, rfl, by decide⟩
        have g1 := IntWalk.i64_in ((hd : Int) + 1) (by omega)
        have g2 := IntWalk.i64_in (nx : Int) (by omega)
        have hdz : (hd : Int) < 3 := by omega
        have h2 := (h1.hand nx).drew
        have HT2 := hide (HT.out.trans (P1.ticked_hand nx))
        have hP2 : (P1.toHand nx).fr hd = P1.fr hd := P1.toHand_fr nx hd
        have hc2 : (P1.toHand nx).cnt = P1.cnt := rfl
        have hhn : (P1.toHand nx).hand = nx := rfl
        obtain ⟨P2, hP2e⟩ : ∃ P2, P1.toHand nx = P2 := ⟨_, rfl⟩
        rw [hP2e] at h2 HT2 hP2 hc2 hhn
        have hfx := HT2.out.fr hd hhd3
        clear h1 h hP2e HT
        go_upto_region 7 with fail
        refine wp_region_line [0, 1, 2, 3, 4, 5, 6, 7, 8] rfl (by kernel_rfl) ?_
        simp only [picks_cons, picks_nil, getD_zero, getD_succ]
        go_wp2_with fail
        refine ⟨by kernel_rfl, ?_⟩
        go_upto_region 9 with fail
        generalize hw3 : (wr.setCell _ _).drew = w3 at h2 ⊢
        rw [show hd * 3 = 3 * hd from Nat.mul_comm _ _]
        obtain ⟨e0, e1, e2⟩ := P2.cells_fr hhd3
        rw [hfx.ptr, Hpt.out hd hhd3] at e0
        have h3 := h2.cast (show _ = cel b P2.cells 90 * ((P2.fr hd).hp * (P2.oth hd * (lan P.l P.d P.r L * (dsk P.d m * R)))) by rw [poB_fr b P2 hhd3]; ac_rfl)
        have c2 : w3.cell? ⟨b, 3 + 3 * hd + 2, none⟩ = _ := At.cell h3 e2
        have f2 := At.frz h3 (3 + 3 * hd + 2)
        have fl2 := At.lt h3
        clear hw3 c12 f12 fl hnx g1 g2 h2
        cases hag : (P2.fr hd).again with
        | true =>
          rw [hag] at c2
          have h4 := h3.set (3 + 3 * hd + 2) (.bool false)
          have h5 := At.fr_turn hhd3 (P2.cells_again hhd3 false) h4
          have hcl := PoS.cnt_less hhd3 hag
          have HT3 := hide (HT2.out.trans (P2.ticked_again hhd3 false))
          have hhs := (P2.set_base hd { P2.fr hd with again := false }).2.2.2
          obtain ⟨P3, hP3⟩ : ∃ P3, P2.setFr hd { P2.fr hd with again := false } = P3 := ⟨_, rfl⟩
          rw [hP3] at h5 hcl HT3 hhs
          clear h3 h4 hP3 e0 e1 e2
          go_wp2_with fail
          go_roundg (P3.cnt + 1)
          case measure => omega
          case rel => exact ⟨P3, HT3, by omega, by omega, h5⟩
        | false =>
          rw [hag] at c2
          obtain ⟨pp, hpp⟩ := Hfull.out hd hhd3
          have hsn : (P2.fr hd).since = (P.fr hd).since := hfx.2.2
          rw [hsn] at e1
          have hEv : Evicted P (P2.setFr hd Fr.none') hd := by
            obtain ⟨b1, b2, b3, b4⟩ := P2.set_base hd Fr.none'
            refine ⟨hhd3, b1.trans HT2.out.d, b2.trans HT2.out.r, b3.trans HT2.out.l, by omega, P2.fr_set hhd3 _, fun i hi hne => ?_⟩
            rw [P2.fr_ne hhd3 hi hne]
            exact HT2.out.fr i hi
          have HEv := hide hEv
          clear hEv
          by_cases h0 : (P.fr hd).since = 0
          · rw [h0] at e1
            have hw := poolWrite_clean w0 w3 _ b (3 + 3 * hd) (P.fr hd).blk P2.cells e0 e1 h3
            have x0 : w3.cell? ⟨b, 3 + 3 * hd, none⟩ = _ := At.cell h3 e0
            have y0 := At.frz h3 (3 + 3 * hd)
            have x1 : w3.cell? ⟨b, 3 + 3 * hd + 1, none⟩ = _ := At.cell h3 e1
            have y1 := At.frz h3 (3 + 3 * hd + 1)
            have h5 := ((h3.set (3 + 3 * hd) (.pointer none)).set (3 + 3 * hd + 1) (.int .u64 0)).set (3 + 3 * hd + 2) (.bool false)
            have h6 := h5.cast (show _ = cel b (((P2.cells.setIfInBounds (3 + 3 * hd) (.pointer none)).setIfInBounds (3 + 3 * hd + 1) (.int .u64 0)).setIfInBounds (3 + 3 * hd + 2) (.bool false)) 90 * (Fr.none'.hp * (P2.oth hd * (lan P.l P.d P.r L * (dsk P.d m * R)))) * (P2.fr hd).hp by rw [show Fr.none'.hp = 1 from rfl, HP.one_mul]; ac_rfl)
            have h7 := At.fr_turn hhd3 (P2.cells_set hhd3 Fr.none') h6.l
            have H7 := hide h7
            clear h3 h5 h6 h7 e0 e1 e2
            go_wp2_with fail
            refine hw.mono ?_
            rintro e w' ⟨rfl, rfl⟩
            clear hw
            go_wp2_with fail
            go_ret2
            exact ⟨_, hd, L, m, rfl, HEv.out, .inl ⟨h0, rfl, rfl⟩, H7.out⟩
          · obtain ⟨hpw, hp6⟩ := HPg.out hd hhd3 pp hpp
            obtain ⟨b0, b1, b2, _⟩ := P2.cells_base
            rw [HT2.out.d] at b0
            rw [HT2.out.r] at b1
            rw [HT2.out.l] at b2
            have hhp : (P2.fr hd).hp = pgB (P.fr hd).blk pp := by rw [hfx.hp]; unfold Fr.hp; rw [hpp]
            have hw := poolWrite_ok w0 w3 (P2.oth hd * R) b (3 + 3 * hd) (P.fr hd).blk P.d P.r P.l (P.fr hd).since P2.cells pp Hs.out hu hwn hsz hpw (by unfold pgAt; omega) b0 b1 b2 e0 e1 h0 (h3.cast (by rw [hhp]; ac_rfl))
            have He0 := hide e0
            have He2 := hide e2
            have hsize : P2.cells.size = 13 := rfl
            clear h3 e0 e1 e2 b0 b1 b2
            go_wp2_with fail
            refine hw.mono ?_
            rintro e w4 ⟨L', m', rfl, hpg, h4⟩
            clear hw c2 f2 fl2
            have x0 : w4.cell? ⟨b, 3 + 3 * hd, none⟩ = some (.pointer (some ⟨(P.fr hd).blk, 0, none⟩)) := At.cell h4 (by rw [Array.getElem?_setIfInBounds_ne (by omega)]; exact He0.out)
            have y0 := At.frz h4 (3 + 3 * hd)
            have x1 : w4.cell? ⟨b, 3 + 3 * hd + 1, none⟩ = some (.int .u64 0) := At.cell h4 (by rw [Array.getElem?_setIfInBounds_self_of_lt (by omega)])
            have y1 := At.frz h4 (3 + 3 * hd + 1)
            have x2 : w4.cell? ⟨b, 3 + 3 * hd + 2, none⟩ = some (.bool (P2.fr hd).again) := At.cell h4 (by rw [Array.getElem?_setIfInBounds_ne (by omega)]; exact He2.out)
            have y2 := At.frz h4 (3 + 3 * hd + 2)
            have fl4 := At.lt h4
            have h5 := ((h4.set (3 + 3 * hd) (.pointer none)).set (3 + 3 * hd + 1) (.int .u64 0)).set (3 + 3 * hd + 2) (.bool false)
            have hcs : (P2.setFr hd Fr.none').cells = (((P2.cells.setIfInBounds (3 + 3 * hd + 1) (.int .u64 0)).setIfInBounds (3 + 3 * hd) (.pointer none)).setIfInBounds (3 + 3 * hd + 1) (.int .u64 0)).setIfInBounds (3 + 3 * hd + 2) (.bool false) := by
              rcases three hhd3 with rfl | rfl | rfl <;> rfl
            have h6 := h5.cast (show _ = cel b ((((P2.cells.setIfInBounds (3 + 3 * hd + 1) (.int .u64 0)).setIfInBounds (3 + 3 * hd) (.pointer none)).setIfInBounds (3 + 3 * hd + 1) (.int .u64 0)).setIfInBounds (3 + 3 * hd + 2) (.bool false)) 90 * (Fr.none'.hp * (P2.oth hd * (lan P.l P.d P.r L' * (dsk P.d m' * R)))) * pgB (P.fr hd).blk pp by rw [show Fr.none'.hp = 1 from rfl, HP.one_mul]; ac_rfl)
            have h7 := At.fr_turn hhd3 hcs h6.l
            have H7 := hide h7
            have Hpg := hide hpg
            clear h4 h5 h6 h7 hcs hpg
            go_wp2_with fail
            go_ret2
            exact ⟨_, hd, L', m', rfl, HEv.out, .inr ⟨h0, pp, hpp, Hpg.out⟩, H7.out⟩
end Go.Proofs.Ytmlifjfgelfbbaa
