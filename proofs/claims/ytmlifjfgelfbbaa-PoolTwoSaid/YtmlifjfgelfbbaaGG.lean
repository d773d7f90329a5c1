/-
  (*Pool).Flush: a contract, no statement.
  (*Pool).room where a frame is free, (*Pool).Put of a page that is not at hand then: contracts, no statement.
  (*Pool).Get: contracts, no statement.
-/
import Derived.Test.YtmlifjfgelfbbaaGw
import Derived.Test.YtmlifjfgelfbbaaFF
import Derived.Test.YtmlifjfgelfbbaaGp
import Derived.Test.YtmlifjfgelfbbaaFr
/-! ## Gf -/
namespace Go.Proofs.Ytmlifjfgelfbbaa
open Go Go.RowKit

def PoS.flushed (P : PoS) (n : Int) : PoS := match P.find n with
  | some i => P.setFr i { P.fr i with since := 0 }
  | none => P
/-- What a flush of page n does to the disk and the lane. -/
def FlRel (P : PoS) (n : Int) (m m' : Dk) (L L' : Ln) (all : List Rec) : Prop :=
  (P.clean n = true ∧ L' = L ∧ m' = m) ∨ (P.clean n = false ∧ ∃ i p, P.find n = some i ∧ (P.fr i).pg = some p ∧ PgWr m m' P.r L L' all p)
def PoS.Pages (P : PoS) : Prop := ∀ i, i < 3 → ∀ p, (P.fr i).pg = some p → p.Wf ∧ p.number < 6

set_option maxRecDepth 100000 in
set_option maxHeartbeats 4000000 in
/-- Nothing is written of a frame that is clean. -/
theorem poolWrite_clean (w0 w : World) (R : HP) (b F k : Nat) (C : Array Value) (hf0 : C[F]? = some (.pointer (some ⟨k, 0, none⟩))) (hf1 : C[F + 1]? = some (.int .u64 0)) (h : At w0 (cel b C 90 * R) w) :
    Calls Try.prog 41 #[.pointer (some ⟨b, 0, none⟩), .pointer (some ⟨b, F, none⟩)] w fun e w' => e = .returned (.int .i64 0) ∧ w = w' := by
  have cf0 : w.cell? ⟨b, F, none⟩ = _ := At.cell h hf0
  have cf1 : w.cell? ⟨b, F + 1, none⟩ = _ := At.cell h hf1
  clear h
  go_enter Try.func41, Try.ntmps41
  go_wp2_with fail
  go_ret
  exact ⟨rfl, rfl⟩

set_option maxRecDepth 100000 in
set_option maxHeartbeats 4000000 in
theorem poolFlush_any (w0 w : World) (R : HP) (b : Nat) (P : PoS) (n : Int) {L : Ln} {m : Dk} {all : List Rec} {kk : Nat} (hs : LSt m P.r L all kk) (hu : m.armd P.r = false) (hwn : m.writes ≤ 700000000) (hsz : m.size ≤ 65536) (hsz2 : 538 ≤ m.size) (hP : P.Pages)
    (h : At w0 (poB b P * (lan P.l P.d P.r L * (dsk P.d m * R))) w) :
    Calls Try.prog 18 #[.pointer (some ⟨b, 0, none⟩), .int .i64 n] w fun e w' => ∃ L' m', e = .returned (.int .i64 0) ∧ FlRel P n m m' L L' all ∧ At w0 (poB b (P.flushed n) * (lan P.l P.d P.r L' * (dsk P.d m' * R))) w' := by
  have hf := poolFind_any w0 w _ b P n h
  cases hn : P.find n with
  | none =>
    rw [hn] at hf
    simp only [frPtr] at hf
    have hc : P.clean n = true := by unfold PoS.clean; rw [hn]
    have he : P.flushed n = P := by unfold PoS.flushed; rw [hn]
    go_enter Try.func18, Try.ntmps18
    go_wp2_with fail
    refine hf.mono ?_
    rintro e w' ⟨rfl, rfl⟩
    go_wp2_with fail
    go_ret
    exact ⟨L, m, rfl, .inl ⟨hc, rfl, rfl⟩, by rw [he]; exact h⟩
  | some i =>
    rw [hn] at hf
    rw [frPtr_eq] at hf
    obtain ⟨hi, hh⟩ := PoS.find_some hn
    obtain ⟨p, hp, hnum, hptr, hhp⟩ := Fr.has_pg hh
    obtain ⟨e0, e1, e2⟩ := P.cells_fr hi
    rw [hptr] at e0
    by_cases h0 : (P.fr i).since = 0
    · have hc : P.clean n = true := by unfold PoS.clean; rw [hn]; simp [h0]
      have he : P.flushed n = P := by
        unfold PoS.flushed
        rw [hn]
        have : ({ P.fr i with since := 0 } : Fr) = P.fr i := by
          rw [← h0]
        simp only [this]
        rcases three hi with rfl | rfl | rfl <;> rfl
      rw [h0] at e1
      have hw := poolWrite_clean w0 w (P.f0.hp * (P.f1.hp * P.f2.hp) * (lan P.l P.d P.r L * (dsk P.d m * R))) b (3 + 3 * i) (P.fr i).blk P.cells e0 e1 (h.cast (by unfold poB; ac_rfl))
      have Hn := hide hn
      clear hn e0 e1 e2 h0 hh hp hhp hptr
      go_enter Try.func18, Try.ntmps18
      go_wp2_with fail
      refine hf.mono ?_
      rintro e w' ⟨rfl, rfl⟩
      go_wp2_with fail
      refine hw.mono ?_
      rintro e w' ⟨rfl, rfl⟩
      go_wp2_with fail
      go_ret
      exact ⟨L, m, rfl, .inl ⟨hc, rfl, rfl⟩, by rw [he]; exact h⟩
    · have hc : P.clean n = false := by unfold PoS.clean; rw [hn]; simp [h0]
      have he : P.flushed n = P.setFr i { P.fr i with since := 0 } := by unfold PoS.flushed; rw [hn]
      obtain ⟨hpw, hp6⟩ := hP i hi p hp
      obtain ⟨b0, b1, b2, _⟩ := P.cells_base
      have hw := poolWrite_ok w0 w (P.oth i * R) b (3 + 3 * i) (P.fr i).blk P.d P.r P.l (P.fr i).since P.cells p hs hu hwn hsz hpw (by unfold pgAt; omega) b0 b1 b2 e0 e1 h0 (h.cast (by rw [poB_fr b P hi, hhp]; ac_rfl))
      have hcs := P.cells_since hi 0
      have Hn := hide hn
      clear hn e0 e1 e2 b0 b1 b2
      go_enter Try.func18, Try.ntmps18
      go_wp2_with fail
      refine hf.mono ?_
      rintro e w' ⟨rfl, rfl⟩
      go_wp2_with fail
      refine hw.mono ?_
      rintro e w2 ⟨L', m', rfl, hpg, h2⟩
      go_wp2_with fail
      go_ret
      refine ⟨L', m', rfl, .inr ⟨hc, i, p, Hn.out, hp, hpg⟩, ?_⟩
      rw [he]
      refine At.fr_turn hi hcs (h2.cast ?_)
      show _ = cel b _ _ * (({ P.fr i with since := 0 } : Fr).hp * _)
      have : ({ P.fr i with since := 0 } : Fr).hp = pgB (P.fr i).blk p := by
        rw [← hhp]
        rfl
      rw [this]
      ac_rfl
end Go.Proofs.Ytmlifjfgelfbbaa

/-! ## Gr -/
namespace Go.Proofs.Ytmlifjfgelfbbaa
open Go Go.RowKit

/-- The first frame without a page. -/
def PoS.free (P : PoS) : Option Nat := if P.f0.pg = none then some 0 else if P.f1.pg = none then some 1 else if P.f2.pg = none then some 2 else none
theorem PoS.free_some {P : PoS} {j : Nat} (h : P.free = some j) : j < 3 ∧ (P.fr j).pg = none ∧ ∀ i, i < j → ∃ p, (P.fr i).pg = some p := by
  unfold PoS.free at h
  have some_of : ∀ {o : Option Pg}, ¬ o = none → ∃ p, o = some p := fun {o} h => by
    cases o with
    | none => exact absurd rfl h
    | some p => exact ⟨p, rfl⟩
  split at h
  · cases h
    exact ⟨by decide, by assumption, fun i hi => absurd hi (by omega)⟩
  · split at h
    · cases h
      refine ⟨by decide, by assumption, fun i hi => ?_⟩
      obtain rfl : i = 0 := by omega
      exact some_of (by assumption)
    · split at h
      · cases h
        refine ⟨by decide, by assumption, fun i hi => ?_⟩
        rcases show i = 0 ∨ i = 1 by omega with rfl | rfl
        · exact some_of (by assumption)
        · exact some_of (by assumption)
      · cases h

set_option maxRecDepth 100000 in
set_option maxHeartbeats 4000000 in
theorem poolRoom_free (w0 w : World) (R : HP) (b : Nat) (P : PoS) (j : Nat) (hj : P.free = some j) (h : At w0 (poB b P * R) w) :
    Calls Try.prog 36 #[.pointer (some ⟨b, 0, none⟩)] w fun e w' => e = .returned (.tuple #[.pointer (some ⟨b, 3 + 3 * j, none⟩), .int .i64 0]) ∧ w = w' := by
  obtain ⟨hj3, hjn, hjb⟩ := PoS.free_some hj
  have hcel : ∀ i, i < 3 → w.cell? ⟨b, 3 + 3 * i, none⟩ = some (P.fr i).ptr := fun i hi => by
    unfold poB at h
    exact At.cell h.assoc (P.cells_fr hi).1
  have Hcel := hide hcel
  have Hjb := hide hjb
  have hjp : (P.fr j).ptr = .pointer none := by unfold Fr.ptr; rw [hjn]
  clear hcel hj hjn hjb h
  go_enter Try.func36, Try.ntmps36
  go_wp2_with fail
  go_loopw [7] (fun u7 wr => ∃ i : Nat, i ≤ j ∧ u7 = .int .i64 i ∧ wr = w) (fun u _ => 3 - (intOf u).toNat)
  case atStart => exact ⟨0, Nat.zero_le _, rfl, rfl⟩
  case round =>
    obtain ⟨i, hij, rfl, rfl⟩ := hrel
    have hilz : (i : Int) < 3 := by omega
    have c0 := Hcel.out i (by omega)
    rw [show 3 * i = i * 3 from Nat.mul_comm _ _] at c0
    by_cases he : i = j
    · subst he
      rw [hjp] at c0
      go_wp2_with fail
      go_ret2
      exact ⟨by rw [Nat.mul_comm 3 i]; rfl, rfl⟩
    · obtain ⟨p, hp⟩ := Hjb.out i (by omega)
      have hpt : (P.fr i).ptr = .pointer (some ⟨(P.fr i).blk, 0, none⟩) := by unfold Fr.ptr; rw [hp]
      rw [hpt] at c0
      go_wp2_with fail
      go_roundw
      case rel => exact ⟨i + 1, by omega, by go_num, trivial⟩
      case measure => simp [intOf] <;> omega
set_option maxRecDepth 100000 in
set_option maxHeartbeats 4000000 in
theorem poolPut_free (w0 w : World) (R : HP) (b : Nat) (P : PoS) (j : Nat) (x : Pg) (hn : P.find x.number = none) (hj : P.free = some j) (h : At w0 (poB b P * R) w) :
    Calls Try.prog 14 #[.pointer (some ⟨b, 0, none⟩), .agg x.cells.toArray] w fun e w' => ∃ k, e = .returned (.tuple #[.pointer (some ⟨k, 0, none⟩), .int .i64 0]) ∧
      At w0 (poB b (P.setFr j ⟨k, some x, (P.fr j).since, true⟩) * R) w' := by
  obtain ⟨hj3, hjn, -⟩ := PoS.free_some hj
  obtain ⟨k, hk⟩ : ∃ N, w.heap.size = N := ⟨_, rfl⟩
  have h1 : At w0 (pgB k x * (poB b P * R)) (w.alloc (.cells x.cells.toArray 41)) := h.alloc' hk _
  have hf := poolFind_any w0 (w.alloc (.cells x.cells.toArray 41)) _ b P x.number h1.pull2
  have hr := poolRoom_free w0 (w.alloc (.cells x.cells.toArray 41)) _ b P j hj h1.pull2
  rw [hn] at hf
  simp only [frPtr] at hf
  obtain ⟨e0, e1, e2⟩ := P.cells_fr hj3
  have hjp : (P.fr j).ptr = .pointer none := by unfold Fr.ptr; rw [hjn]
  have hhp : (P.fr j).hp = 1 := by unfold Fr.hp; rw [hjn]
  rw [hjp] at e0
  have hnum : (w.alloc (.cells x.cells.toArray 41)).cell? ⟨k, 2, none⟩ = some (.int .i64 x.number) := At.cell h1 rfl
  obtain ⟨cs, hcs⟩ : ∃ cs, x.cells.toArray = cs := ⟨_, rfl⟩
  have h2 := h1.cast (show _ = cel b P.cells 90 * (pgB k x * (P.oth j * R)) by rw [poB_fr b P hj3, hhp, HP.one_mul]; ac_rfl)
  rw [hcs] at hf hr h2 hnum ⊢
  have Hcs := hide hcs
  have Hn := hide hn
  clear h h1 hjn hn hj hjp hhp hcs
  go_enter Try.func14, Try.ntmps14
  go_upto_region 1 with fail
  generalize hw1 : w.alloc _ = w1 at hf hr h2 hnum ⊢
  try rw [hk]
  clear hw1 hk
  go_wp2_with fail
  refine hf.mono ?_
  rintro e w' ⟨rfl, rfl⟩
  go_wp2_with fail
  refine hr.mono ?_
  rintro e w' ⟨rfl, rfl⟩
  have p0 : w1.cell? ⟨b, 3 + 3 * j, none⟩ = _ := At.cell h2 e0
  have p1 := At.frz h2 (3 + 3 * j)
  have p2 : w1.cell? ⟨b, 3 + 3 * j + 2, none⟩ = _ := At.cell h2 e2
  have p3 := At.frz h2 (3 + 3 * j + 2)
  have p4 := At.lt h2
  go_upto_region 7 with fail
  clear hf hr
  go_wp2_with fail
  go_ret2
  refine ⟨k, rfl, ?_⟩
  have h3 := (h2.set (3 + 3 * j) (.pointer (some ⟨k, 0, none⟩))).set (3 + 3 * j + 2) (.bool true)
  refine At.fr_turn (C := (P.cells.setIfInBounds (3 + 3 * j) (.pointer (some ⟨k, 0, none⟩))).setIfInBounds (3 + 3 * j + 2) (.bool true)) hj3 ?_ h3
  rw [P.cells_set hj3]
  show ((P.cells.setIfInBounds (3 + 3 * j) (.pointer (some ⟨k, 0, none⟩))).setIfInBounds (3 + 3 * j + 1) (.int .u64 (P.fr j).since)).setIfInBounds (3 + 3 * j + 2) (.bool true) = _
  rcases three hj3 with rfl | rfl | rfl <;> rfl
end Go.Proofs.Ytmlifjfgelfbbaa

/-! ## Gg -/
namespace Go.Proofs.Ytmlifjfgelfbbaa
open Go Go.RowKit

set_option maxRecDepth 100000 in
set_option maxHeartbeats 4000000 in
theorem poolGet_bad (w : World) (b : Nat) (n : Int) (hn : n < 0 ∨ 6 ≤ n) :
    Calls Try.prog 13 #[.pointer (some ⟨b, 0, none⟩), .int .i64 n] w fun e w' => e = .returned (.tuple #[.pointer none, .int .i64 1]) ∧ w = w' := by
  go_enter Try.func13, Try.ntmps13
  rcases hn with hn | hn
  · go_wp2_with fail
    go_ret2
    exact ⟨rfl, rfl⟩
  · have hn2 : ¬ n < 0 := by omega
    go_wp2_with fail
    go_ret2
    exact ⟨rfl, rfl⟩

set_option maxRecDepth 100000 in
set_option maxHeartbeats 4000000 in
theorem poolGet_found (w0 w : World) (R : HP) (b : Nat) (P : PoS) (n i : Nat) (hn : n < 6) (hf : P.find n = some i) (h : At w0 (poB b P * R) w) :
    Calls Try.prog 13 #[.pointer (some ⟨b, 0, none⟩), .int .i64 n] w fun e w' => e = .returned (.tuple #[.pointer (some ⟨(P.fr i).blk, 0, none⟩), .int .i64 0]) ∧ At w0 (poB b (P.setFr i { P.fr i with again := true }) * R) w' := by
  obtain ⟨hi, hh⟩ := PoS.find_some hf
  obtain ⟨p, hp, hnum, hptr, hhp⟩ := Fr.has_pg hh
  obtain ⟨e0, e1, e2⟩ := P.cells_fr hi
  rw [hptr] at e0
  have hc := poolFind_any w0 w _ b P n h
  rw [hf, frPtr_eq] at hc
  have h1 := h.cast (show _ = cel b P.cells 90 * ((P.fr i).hp * (P.oth i * R)) by rw [poB_fr b P hi]; ac_rfl)
  have c0 : w.cell? ⟨b, 3 + 3 * i, none⟩ = _ := At.cell h1 e0
  have c2 : w.cell? ⟨b, 3 + 3 * i + 2, none⟩ = _ := At.cell h1 e2
  have f2 := At.frz h1 (3 + 3 * i + 2)
  have fl := At.lt h1
  have hnz : (n : Int) < 6 := by omega
  have hn0 : ¬ (n : Int) < 0 := by omega
  have hcs := P.cells_again hi true
  have h2 := h1.set (3 + 3 * i + 2) (.bool true)
  have Hf := hide hf
  clear h h1 hf hh hp hnum e0 e1 e2 hhp hptr
  go_enter Try.func13, Try.ntmps13
  go_wp2_with fail
  refine hc.mono ?_
  rintro e w' ⟨rfl, rfl⟩
  go_wp2_with fail
  go_ret2
  exact ⟨rfl, At.fr_turn hi hcs h2⟩

/-- What a Get of a page that is not at hand finds on the disk: it is whole, or it is not. -/
def gotB (b j : Nat) (P : PoS) (bs : List UInt8) (n : Nat) (w0 : World) (R : HP) (e : Ending) (w' : World) : Prop :=
  (decOk bs P.r n = true ∧ ∃ k, e = .returned (.tuple #[.pointer (some ⟨k, 0, none⟩), .int .i64 0]) ∧ At w0 (poB b (P.setFr j ⟨k, some (Pg.dec bs P.r n), (P.fr j).since, true⟩) * R) w') ∨
  (decOk bs P.r n = false ∧ e = .returned (.tuple #[.pointer none, .int .i64 11]) ∧ At w0 (poB b P * R) w')

set_option maxRecDepth 100000 in
set_option maxHeartbeats 4000000 in
theorem poolGet_new (w0 w : World) (R : HP) (b : Nat) (P : PoS) (m : Dk) (n j : Nat) (hr : P.r < m.regs.length) (hr2 : P.r < 65536) (hn : n < 6) (hsz : 538 ≤ m.size) (hsz2 : m.size ≤ 65536) (hwn : m.writes ≤ 1000000000) (hf : P.find n = none) (hj : P.free = some j) (h : At w0 (poB b P * (dsk P.d m * R)) w) :
    Calls Try.prog 13 #[.pointer (some ⟨b, 0, none⟩), .int .i64 n] w (gotB b j P (m.page P.r n) n w0 (dsk P.d m * R)) := by
  have hc := poolFind_any w0 w _ b P n h
  rw [hf] at hc
  simp only [frPtr] at hc
  have hrd := poolRead_any w0 w R b P m n hr (by unfold pgAt; omega) hsz2 hwn h
  have hwf := h.pull2.dsk_open.1
  have hbl : (m.page P.r n).length = 256 := by
    rw [← rdP_page, rdP_len hwf hr (by unfold pgAt; omega) 4 (by decide)]
  obtain ⟨bs, hbs⟩ : ∃ bs, m.page P.r n = bs := ⟨_, rfl⟩
  rw [hbs] at hrd hbl ⊢
  have hnz : (n : Int) < 6 := by omega
  have hn0 : ¬ (n : Int) < 0 := by omega
  have Hf := hide hf
  have Hj := hide hj
  clear hf hj h hbs
  go_enter Try.func13, Try.ntmps13
  go_wp2_with fail
  refine hc.mono ?_
  rintro e w' ⟨rfl, rfl⟩
  go_wp2_with fail
  refine hrd.mono ?_
  rintro e w2 ⟨a, c, rfl, h2⟩
  clear hc hrd
  have hdc := pageDecode_any w0 w2 _ a c bs P.r n hbl hr2 (by omega) (fun w' h' => At.rd h') h2
  have cr : w2.cell? ⟨b, 1, none⟩ = some (.int .i64 P.r) := by
    unfold poB at h2
    exact At.cell h2.pull2.assoc rfl
  go_wp2_with fail
  refine hdc.mono ?_
  rintro e w3 ⟨rfl, h3⟩
  clear hdc h2 cr
  have hX := h3.alloc (.cells pg0.cells.toArray 41)
  obtain ⟨D, hD⟩ : ∃ D, decPg bs P.r n = D := ⟨_, rfl⟩
  obtain ⟨E, hE⟩ : ∃ D, decE bs P.r n = D := ⟨_, rfl⟩
  rw [hD, hE]
  have hDs : D.slots.length = 200 := by
    rw [← hD]
    unfold decPg
    split
    · exact (Pg.dec_wf hbl hr2 (by omega)).slots
    · exact zs_len 200
  have HD := hide hD
  have HE := hide hE
  clear hD hE
  go_wp2_with (first | refine wpList_alloc_at rfl 41 rfl (Try.zeroPage _) ?_ | refine Try.wpList_storePg rfl (.tmp 9) (.tmp 45) rfl (q := pg0) (q' := D) (zs_len 200) hDs rfl rfl hX ?_)
  intro w4 h4
  have h5 := h4.cast (show _ = poB b P * (dsk P.d m * R) * (pgB w3.heap.size D * row 5 1 (.slice a 256 c) 256 (bys bs)) by ac_rfl)
  cases hok : decOk bs P.r n with
  | false =>
    obtain ⟨q1, q2⟩ := decOk_torn hok
    obtain rfl : E = 11 := by rw [← HE.out, q2]
    have h6 := h5.l
    have Hok := hide hok
    clear hok q1 q2 h4 h5 hX h3
    go_wp2_with fail
    go_ret2
    exact .inr ⟨Hok.out, rfl, h6⟩
  | true =>
    obtain rfl : E = 0 := by rw [← HE.out, decE, if_pos hok]
    have hDe : D = Pg.dec bs P.r n := by rw [← HD.out, decPg, if_pos hok]
    have hpt := poolPut_free w0 w4 (dsk P.d m * R * (pgB w3.heap.size D * row 5 1 (.slice a 256 c) 256 (bys bs))) b P j D (by rw [hDe]; exact Hf.out) Hj.out (h5.cast (by ac_rfl))
    have Hok := hide hok
    have HDe := hide hDe
    clear hok hDe h3 hX h5
    go_wp2_with (refine wpList_load_agg rfl (.tmp 9) 41 rfl _ Try.underlying41 rfl (ys := D.cells) (by rw [Try.sizePage, pg_len hDs]) (g := w3.heap.size) (off := 0) rfl (fun j u hu => by rw [Nat.zero_add]; exact At.cell h4 (by simpa using hu)) ?_)
    refine hpt.mono ?_
    rintro e w6 ⟨k, rfl, h6⟩
    clear hpt h4
    go_wp2_with fail
    go_ret2
    refine .inl ⟨Hok.out, k, rfl, ?_⟩
    rw [← HDe.out]
    exact (h6.cast (show _ = poB b (P.setFr j ⟨k, some D, (P.fr j).since, true⟩) * (dsk P.d m * R) * (pgB w3.heap.size D * row 5 1 (.slice a 256 c) 256 (bys bs)) by ac_rfl)).l
end Go.Proofs.Ytmlifjfgelfbbaa
