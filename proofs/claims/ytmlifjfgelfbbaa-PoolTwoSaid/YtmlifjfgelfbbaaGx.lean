/-
  (*Pool).Put and (*Pool).Get of a page that is not at hand, whether a frame is free or not: contracts, no statement.
-/
import Derived.Test.YtmlifjfgelfbbaaRe2
namespace Go.Proofs.Ytmlifjfgelfbbaa
open Go Go.RowKit

/-- Where a page that comes to hand finds room. -/
def RoomRel (P P' : PoS) (j : Nat) (m m' : Dk) (L L' : Ln) (all : List Rec) : Prop :=
  (P.free = some j ∧ P' = P ∧ L' = L ∧ m' = m) ∨ (P.free = none ∧ Evicted P P' j ∧ EvRel (P.fr j) P.r m m' L L' all)
theorem PoS.free_none {P : PoS} (h : P.free = none) : ∀ i, i < 3 → ∃ p, (P.fr i).pg = some p := by
  unfold PoS.free at h
  have some_of : ∀ {o : Option Pg}, ¬ o = none → ∃ p, o = some p := fun {o} h => by
    cases o with
    | none => exact absurd rfl h
    | some p => exact ⟨p, rfl⟩
  split at h
  · cases h
  · split at h
    · cases h
    · split at h
      · cases h
      · rename_i h0 h1 h2
        intro i hi
        rcases three hi with rfl | rfl | rfl
        · exact some_of h0
        · exact some_of h1
        · exact some_of h2
theorem RoomRel.out {P P' : PoS} {j : Nat} {m m' : Dk} {L L' : Ln} {all : List Rec} (h : RoomRel P P' j m m' L L' all) : j < 3 ∧ (P'.fr j).pg = none ∧ P'.d = P.d ∧ P'.r = P.r ∧ P'.l = P.l := by
  rcases h with ⟨h1, rfl, _, _⟩ | ⟨_, h1, _⟩
  · obtain ⟨a, b, _⟩ := PoS.free_some h1
    exact ⟨a, b, rfl, rfl, rfl⟩
  · exact ⟨h1.j3, by rw [h1.gone]; rfl, h1.d, h1.r, h1.l⟩
theorem poolRoom_any (w0 w : World) (R : HP) (b : Nat) (P : PoS) {L : Ln} {m : Dk} {all : List Rec} {kk : Nat} (hs : LSt m P.r L all kk) (hu : m.armd P.r = false) (hwn : m.writes ≤ 700000000) (hsz : m.size ≤ 65536) (hsz2 : 538 ≤ m.size) (hP : P.Pages) (hh : P.hand < 3)
    (h : At w0 (poB b P * (lan P.l P.d P.r L * (dsk P.d m * R))) w) :
    Calls Try.prog 36 #[.pointer (some ⟨b, 0, none⟩)] w fun e w' => ∃ P' j L' m', e = .returned (.tuple #[.pointer (some ⟨b, 3 + 3 * j, none⟩), .int .i64 0]) ∧ RoomRel P P' j m m' L L' all ∧
      At w0 (poB b P' * (lan P.l P.d P.r L' * (dsk P.d m' * R))) w' := by
  cases hf : P.free with
  | some j =>
    refine (poolRoom_free w0 w _ b P j hf h).mono ?_
    rintro e w' ⟨rfl, rfl⟩
    exact ⟨P, j, L, m, rfl, .inl ⟨hf, rfl, rfl, rfl⟩, h⟩
  | none =>
    refine (poolRoom_clock w0 w R b P hs hu hwn hsz hsz2 hP (PoS.free_none hf) hh h).mono ?_
    rintro e w' ⟨P', j, L', m', rfl, h1, h2, h3⟩
    exact ⟨P', j, L', m', rfl, .inr ⟨hf, h1, h2⟩, h3⟩

set_option maxRecDepth 100000 in
set_option maxHeartbeats 4000000 in
theorem poolPut_any (w0 w : World) (R : HP) (b : Nat) (P : PoS) (x : Pg) {L : Ln} {m : Dk} {all : List Rec} {kk : Nat} (hs : LSt m P.r L all kk) (hu : m.armd P.r = false) (hwn : m.writes ≤ 700000000) (hsz : m.size ≤ 65536) (hsz2 : 538 ≤ m.size) (hP : P.Pages) (hh : P.hand < 3) (hn : P.find x.number = none)
    (h : At w0 (poB b P * (lan P.l P.d P.r L * (dsk P.d m * R))) w) :
    Calls Try.prog 14 #[.pointer (some ⟨b, 0, none⟩), .agg x.cells.toArray] w fun e w' => ∃ k P' j L' m', e = .returned (.tuple #[.pointer (some ⟨k, 0, none⟩), .int .i64 0]) ∧ RoomRel P P' j m m' L L' all ∧
      At w0 (poB b (P'.setFr j ⟨k, some x, (P'.fr j).since, true⟩) * (lan P.l P.d P.r L' * (dsk P.d m' * R))) w' := by
  obtain ⟨k, hk⟩ : ∃ N, w.heap.size = N := ⟨_, rfl⟩
  have h1 : At w0 (pgB k x * (poB b P * (lan P.l P.d P.r L * (dsk P.d m * R)))) (w.alloc (.cells x.cells.toArray 41)) := h.alloc' hk _
  have hf := poolFind_any w0 (w.alloc (.cells x.cells.toArray 41)) _ b P x.number h1.pull2
  have hr := poolRoom_any w0 (w.alloc (.cells x.cells.toArray 41)) (pgB k x * R) b P hs hu hwn hsz hsz2 hP hh (h1.cast (by ac_rfl))
  rw [hn] at hf
  simp only [frPtr] at hf
  have hnum : (w.alloc (.cells x.cells.toArray 41)).cell? ⟨k, 2, none⟩ = some (.int .i64 x.number) := At.cell h1 rfl
  obtain ⟨cs, hcs⟩ : ∃ cs, x.cells.toArray = cs := ⟨_, rfl⟩
  rw [hcs] at hf hr hnum ⊢
  have Hcs := hide hcs
  have Hn := hide hn
  clear h h1 hn hcs hs
  go_enter Try.func14, Try.ntmps14
  go_upto_region 1 with fail
  generalize hw1 : w.alloc _ = w1 at hf hr hnum ⊢
  try rw [hk]
  clear hw1 hk
  go_wp2_with fail
  refine hf.mono ?_
  rintro e w' ⟨rfl, rfl⟩
  go_wp2_with fail
  refine hr.mono ?_
  rintro e w2 ⟨P', j, L', m', rfl, hrel, h2⟩
  obtain ⟨hj3, hjn, q1, q2, q3⟩ := hrel.out
  obtain ⟨e0, e1, e2⟩ := P'.cells_fr hj3
  have hjp : (P'.fr j).ptr = .pointer none := by unfold Fr.ptr; rw [hjn]
  have hhp : (P'.fr j).hp = 1 := by unfold Fr.hp; rw [hjn]
  rw [hjp] at e0
  have h3 := h2.cast (show _ = cel b P'.cells 90 * (pgB k x * (P'.oth j * (lan P.l P.d P.r L' * (dsk P.d m' * R)))) by rw [poB_fr b P' hj3, hhp, HP.one_mul]; ac_rfl)
  have p0 : w2.cell? ⟨b, 3 + 3 * j, none⟩ = _ := At.cell h3 e0
  have p1 := At.frz h3 (3 + 3 * j)
  have p2 : w2.cell? ⟨b, 3 + 3 * j + 2, none⟩ = _ := At.cell h3 e2
  have p3 := At.frz h3 (3 + 3 * j + 2)
  have p4 := At.lt h3
  have Hrel := hide hrel
  clear hf hr h2 hrel hjn hjp hhp hnum e0 e1 e2
  go_upto_region 7 with fail
  go_wp2_with fail
  go_ret2
  refine ⟨k, P', j, L', m', rfl, Hrel.out, ?_⟩
  have h4 := (h3.set (3 + 3 * j) (.pointer (some ⟨k, 0, none⟩))).set (3 + 3 * j + 2) (.bool true)
  refine At.fr_turn (C := (P'.cells.setIfInBounds (3 + 3 * j) (.pointer (some ⟨k, 0, none⟩))).setIfInBounds (3 + 3 * j + 2) (.bool true)) hj3 ?_ h4
  rw [P'.cells_set hj3]
  show ((P'.cells.setIfInBounds (3 + 3 * j) (.pointer (some ⟨k, 0, none⟩))).setIfInBounds (3 + 3 * j + 1) (.int .u64 (P'.fr j).since)).setIfInBounds (3 + 3 * j + 2) (.bool true) = _
  rcases three hj3 with rfl | rfl | rfl <;> rfl

/-- What a Get of a page that is not at hand finds on the disk: it is whole, or it is not. -/
def gotC (b : Nat) (P : PoS) (bs : List UInt8) (n : Nat) (w0 : World) (R : HP) (m : Dk) (L : Ln) (all : List Rec) (e : Ending) (w' : World) : Prop :=
  (decOk bs P.r n = true ∧ ∃ k P' j L' m', e = .returned (.tuple #[.pointer (some ⟨k, 0, none⟩), .int .i64 0]) ∧ RoomRel P P' j m m' L L' all ∧ At w0 (poB b (P'.setFr j ⟨k, some (Pg.dec bs P.r n), (P'.fr j).since, true⟩) * (lan P.l P.d P.r L' * (dsk P.d m' * R))) w') ∨
  (decOk bs P.r n = false ∧ e = .returned (.tuple #[.pointer none, .int .i64 11]) ∧ At w0 (poB b P * (lan P.l P.d P.r L * (dsk P.d m * R))) w')

set_option maxRecDepth 100000 in
set_option maxHeartbeats 4000000 in
theorem poolGet_any (w0 w : World) (R : HP) (b : Nat) (P : PoS) (n : Nat) {L : Ln} {m : Dk} {all : List Rec} {kk : Nat} (hs : LSt m P.r L all kk) (hu : m.armd P.r = false) (hP : P.Pages) (hh : P.hand < 3) (hr2 : P.r < 65536) (hn : n < 6) (hsz : 538 ≤ m.size) (hsz2 : m.size ≤ 65536) (hwn : m.writes ≤ 700000000) (hf : P.find n = none) (h : At w0 (poB b P * (lan P.l P.d P.r L * (dsk P.d m * R))) w) :
    Calls Try.prog 13 #[.pointer (some ⟨b, 0, none⟩), .int .i64 n] w (gotC b P (m.page P.r n) n w0 R m L all) := by
  have hr := hs.rest.hr
  have hc := poolFind_any w0 w _ b P n h
  rw [hf] at hc
  simp only [frPtr] at hc
  have hrd := poolRead_any w0 w (lan P.l P.d P.r L * R) b P m n hr (by unfold pgAt; omega) hsz2 (by omega) (h.cast (show _ = poB b P * (dsk P.d m * (lan P.l P.d P.r L * R)) by ac_rfl))
  have hwf := hs.rest.wf
  have hbl : (m.page P.r n).length = 256 := by
    rw [← rdP_page, rdP_len hwf hr (by unfold pgAt; omega) 4 (by decide)]
  obtain ⟨bs, hbs⟩ : ∃ bs, m.page P.r n = bs := ⟨_, rfl⟩
  rw [hbs] at hrd hbl ⊢
  have hnz : (n : Int) < 6 := by omega
  have hn0 : ¬ (n : Int) < 0 := by omega
  have Hf := hide hf
  have Hs := hide hs
  clear hf h hbs hs
  go_enter Try.func13, Try.ntmps13
  go_wp2_with fail
  refine hc.mono ?_
  rintro e w' ⟨rfl, rfl⟩
  go_wp2_with fail
  refine hrd.mono ?_
  rintro e w2 ⟨a, c, rfl, h2⟩
  clear hc hrd
  have hdc := pageDecode_any w0 w2 _ a c bs P.r n hbl hr2 (by omega) (fun w' h' => At.rd h') h2
  have cr : w2.cell? ⟨b, 1, none⟩ = some (.int .i64 P.r) := by
    unfold poB at h2
    exact At.cell h2.pull2.assoc rfl
  go_wp2_with fail
  refine hdc.mono ?_
  rintro e w3 ⟨rfl, h3⟩
  clear hdc h2 cr
  have hX := h3.alloc (.cells pg0.cells.toArray 41)
  obtain ⟨D, hD⟩ : ∃ D, decPg bs P.r n = D := ⟨_, rfl⟩
  obtain ⟨E, hE⟩ : ∃ D, decE bs P.r n = D := ⟨_, rfl⟩
  rw [hD, hE]
  have hDs : D.slots.length = 200 := by
    rw [← hD]
    unfold decPg
    split
    · exact (Pg.dec_wf hbl hr2 (by omega)).slots
    · exact zs_len 200
  have HD := hide hD
  have HE := hide hE
  clear hD hE
  go_wp2_with (first | refine wpList_alloc_at rfl 41 rfl (Try.zeroPage _) ?_ | refine Try.wpList_storePg rfl (.tmp 9) (.tmp 45) rfl (q := pg0) (q' := D) (zs_len 200) hDs rfl rfl hX ?_)
  intro w4 h4
  have h5 := h4.cast (show _ = poB b P * (lan P.l P.d P.r L * (dsk P.d m * R)) * (pgB w3.heap.size D * row 5 1 (.slice a 256 c) 256 (bys bs)) by ac_rfl)
  cases hok : decOk bs P.r n with
  | false =>
    obtain ⟨q1, q2⟩ := decOk_torn hok
    obtain rfl : E = 11 := by rw [← HE.out, q2]
    have h6 := h5.l
    have Hok := hide hok
    clear hok q1 q2 h4 h5 hX h3
    go_wp2_with fail
    go_ret2
    exact .inr ⟨Hok.out, rfl, h6⟩
  | true =>
    obtain rfl : E = 0 := by rw [← HE.out, decE, if_pos hok]
    have hDe : D = Pg.dec bs P.r n := by rw [← HD.out, decPg, if_pos hok]
    have hpt := poolPut_any w0 w4 (R * (pgB w3.heap.size D * row 5 1 (.slice a 256 c) 256 (bys bs))) b P D Hs.out hu hwn hsz2 hsz hP hh (by rw [hDe]; exact Hf.out) (h5.cast (by ac_rfl))
    have Hok := hide hok
    have HDe := hide hDe
    clear hok hDe h3 hX h5
    go_wp2_with (refine wpList_load_agg rfl (.tmp 9) 41 rfl _ Try.underlying41 rfl (ys := D.cells) (by rw [Try.sizePage, pg_len hDs]) (g := w3.heap.size) (off := 0) rfl (fun j u hu => by rw [Nat.zero_add]; exact At.cell h4 (by simpa using hu)) ?_)
    refine hpt.mono ?_
    rintro e w6 ⟨k, P', j, L', m', rfl, hrel, h6⟩
    have Hrel := hide hrel
    clear hpt h4 hrel
    go_wp2_with fail
    go_ret2
    refine .inl ⟨Hok.out, k, P', j, L', m', rfl, Hrel.out, ?_⟩
    rw [← HDe.out]
    exact (h6.cast (show _ = poB b (P'.setFr j ⟨k, some D, (P'.fr j).since, true⟩) * (lan P.l P.d P.r L' * (dsk P.d m' * R)) * (pgB w3.heap.size D * row 5 1 (.slice a 256 c) 256 (bys bs)) by ac_rfl)).l
end Go.Proofs.Ytmlifjfgelfbbaa
