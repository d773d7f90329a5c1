/-
  Append, Flush, Anew of a lane on a region that is up: in terms of its state: contracts, no statement.
-/
import Derived.Test.YtgkibjjcdcpkfaaLv
namespace Go.Proofs.Ytgkibjjcdcpkfaa
open Go Go.RowKit

theorem laneAnew_ok (w0 w : World) (R : HP) (p d r : Nat) {L : Ln} {m : Dk} {all : List Rec} {k : Nat} (a : Option Addr) (c : Nat) (rs : List RecV) (hs : LSt m r L all k) (hu : m.armd r = false) (hgn : L.gen + 1 < 4294967296) (hrl : rs.length ≤ 1000) (hwn : m.writes ≤ 800000000)
    (hg : GoodV rs) (hf : (encs rs).length ≤ 14336) (hA : RecsIn w0 R a rs) (h : At w0 (lan p d r L * (dsk d m * R)) w) :
    Calls Try.prog 21 #[.pointer (some ⟨p, 0, none⟩), .slice a rs.length c] w fun e w' => ∃ L' m', e = .returned (.int .i64 0) ∧ LSt m' r L' (rs.map (·.1)) rs.length ∧ L'.gen = L.gen + 1 ∧ Same m m' r ∧ m'.armd r = false ∧ m'.writes ≤ m.writes + 520 ∧
      At w0 (lan p d r L' * (dsk d m' * R)) w' := by
  refine (laneAnew_any w0 w R p d r L m a c rs hs.rest.hr hgn hrl hwn hA h).mono ?_
  rintro e w' ⟨rfl, h1⟩
  obtain ⟨g1, g2, g3, g4, g5, g6, g7, g8⟩ := hs.anew hgn hg hf
  have h0 := g2 hu
  rw [h0]
  obtain ⟨g9, g10⟩ := g7 h0
  exact ⟨_, _, rfl, g9, g10, g3, g5.trans hu, g6, h1⟩
theorem laneFlush_ok (w0 w : World) (R : HP) (p d r : Nat) {L : Ln} {m : Dk} {all : List Rec} {k : Nat} (hs : LSt m r L all k) (hu : m.armd r = false) (hwn : m.writes ≤ 800000000) (h : At w0 (lan p d r L * (dsk d m * R)) w) :
    Calls Try.prog 26 #[.pointer (some ⟨p, 0, none⟩)] w fun e w' => ∃ L' m', e = .returned (.int .i64 0) ∧ LSt m' r L' all all.length ∧ L'.gen = L.gen ∧ L'.bank = L.bank ∧ L'.b = L.b ∧ Same m m' r ∧ m'.armd r = false ∧ m'.writes ≤ m.writes + 256 ∧
      At w0 (lan p d r L' * (dsk d m' * R)) w' := by
  refine (laneFlush_any w0 w R p d r L m hs.rest.hr hwn h).mono ?_
  rintro e w' ⟨rfl, h1⟩
  obtain ⟨g1, g2, g3, g4, g5, g6, g7, g8⟩ := hs.flush
  have h0 := g2 hu
  rw [h0]
  obtain ⟨g9, g10, g11, g12⟩ := g7 h0
  exact ⟨_, _, rfl, g9, g10, g11, g12, g3, g5.trans hu, g6, h1⟩
/-- Append, where there is room. -/
theorem laneAppend_ok (w0 w : World) (R : HP) (p d r : Nat) {L : Ln} {m : Dk} {all : List Rec} {k : Nat} (x : Rec) (a : Option Addr) (c : Nat) (hs : LSt m r L all k) (hx : Good x) (hf : (encR all).length + x.enc.length ≤ 14336) (hA : ∀ w', At w0 R w' → Rd w' (.slice a x.dirty.length c) (nus x.dirty)) (h : At w0 (lan p d r L * R) w) :
    Calls Try.prog 20 #[.pointer (some ⟨p, 0, none⟩), .agg (x.cells (.slice a x.dirty.length c)).toArray] w fun e w' => ∃ L', e = .returned (.tuple #[.int .u64 (L.gen * 1048576 + (encR all).length + 1 : Nat), .int .i64 0]) ∧ LSt m r L' (all ++ [x]) k ∧ L'.gen = L.gen ∧ L'.bank = L.bank ∧ At w0 (lan p d r L' * R) w' := by
  refine (laneAppend_any w0 w R p d r L x a c hx.nums hA h).mono ?_
  rintro e w' ⟨rfl, h1⟩
  obtain ⟨g1, g2⟩ := hs.append_ok hx hf
  rw [g1] at h1 ⊢
  exact ⟨_, rfl, g2, rfl, rfl, h1⟩
/-- Append, where there is none. -/
theorem laneAppend_full (w0 w : World) (R : HP) (p d r : Nat) {L : Ln} {m : Dk} {all : List Rec} {k : Nat} (x : Rec) (a : Option Addr) (c : Nat) (hs : LSt m r L all k) (hx : Good x) (hf : ¬ (encR all).length + x.enc.length ≤ 14336) (hA : ∀ w', At w0 R w' → Rd w' (.slice a x.dirty.length c) (nus x.dirty)) (h : At w0 (lan p d r L * R) w) :
    Calls Try.prog 20 #[.pointer (some ⟨p, 0, none⟩), .agg (x.cells (.slice a x.dirty.length c)).toArray] w fun e w' => e = .returned (.tuple #[.int .u64 0, .int .i64 7]) ∧ At w0 (lan p d r L * R) w' := by
  refine (laneAppend_any w0 w R p d r L x a c hx.nums hA h).mono ?_
  rintro e w' ⟨rfl, h1⟩
  rw [hs.append_full hx.right hf] at h1 ⊢
  exact ⟨rfl, h1⟩
theorem laneLen_st (w0 w : World) (R : HP) (p d r : Nat) {L : Ln} {m : Dk} {all : List Rec} {k n : Nat} (hs : LSt m r L all k) (hn : (encR all).length = n) (h : At w0 (lan p d r L * R) w) :
    Calls Try.prog 22 #[.pointer (some ⟨p, 0, none⟩)] w fun e w' => e = .returned (.int .i64 n) ∧ w = w' := by
  have := laneLen_any w0 w R p d r L h
  rw [hs.b, hn] at this
  exact this
theorem laneRoom_st (w0 w : World) (R : HP) (p d r : Nat) {L : Ln} {m : Dk} {all : List Rec} {k n : Nat} (hs : LSt m r L all k) (hn : (encR all).length = n) (h : At w0 (lan p d r L * R) w) :
    Calls Try.prog 28 #[.pointer (some ⟨p, 0, none⟩)] w fun e w' => e = .returned (.int .i64 (14336 - n : Nat)) ∧ w = w' := by
  have := laneRoom_any w0 w R p d r L h
  rw [hs.b, hn] at this
  exact this
theorem Rec.enc_le {r : Rec} (h : Good r) : r.enc.length ≤ 395 := by
  have := Rec.body_len h.right
  rw [r.enc_length]
  omega
/-- A slice of one record that was just made. -/
theorem recs_one {w0 : World} {R : HP} {N : Nat} (x : RecV) (t : TypeId) (hd : ∀ w', At w0 R w' → Rd w' (.slice x.2.1 x.1.dirty.length x.2.2) (nus x.1.dirty)) (hn : ∀ d ∈ x.1.dirty, d < 2 ^ 64) : RecsIn w0 (cel N x.cs.toArray t * R) (some ⟨N, 0, none⟩) [x] :=
  ⟨.inr ⟨N, 0, rfl, fun w' h' j u hu => by
    rw [Nat.zero_add]
    refine At.cell h' ?_
    simpa using hu⟩, fun y hy w' h' => by rw [List.mem_singleton.1 hy]; exact hd w' h'.r, fun y hy => by rw [List.mem_singleton.1 hy]; exact hn⟩
end Go.Proofs.Ytgkibjjcdcpkfaa
