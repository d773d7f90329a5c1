/-
  What the statements' own example comes to, and their guard: contracts, no statement.
-/
import Derived.Test.YtghlbhnpgbhllaaIa
import Derived.RangeFuncCalls
namespace Go.Proofs.Ytghlbhnpgbhllaa
open Go Go.RowKit Go.Shelf
attribute [local go_sem] Oper.semAt_some

/-- A call. -/
structure Cl where
  k : Int
  i : It
/-- The calls of a slice can be read. -/
def Cls (W : World) (a : Option Addr) (n : Nat) (z : Nat → Cl) : Prop := ∀ i, i < n → ∃ b o, a = some ⟨b, o, none⟩ ∧
  W.cell? ⟨b, o + i * 6, none⟩ = some (.int .i64 (z i).k) ∧ W.cell? ⟨b, o + i * 6 + 1, none⟩ = some (.int .i64 (z i).i.t) ∧ W.cell? ⟨b, o + i * 6 + 2, none⟩ = some (.string (z i).i.k) ∧
  W.cell? ⟨b, o + i * 6 + 3, none⟩ = some (.string (z i).i.v) ∧ W.cell? ⟨b, o + i * 6 + 4, none⟩ = some (.int .i64 (z i).i.p) ∧ W.cell? ⟨b, o + i * 6 + 5, none⟩ = some (.int .i64 (z i).i.s)
/-- Are they few, with short keys? -/
def Light (n : Nat) (z : Nat → Cl) : Prop := n ≤ 120 ∧ ∀ i, i < n → (z i).i.k.size + (z i).i.v.size ≤ 100
def LightP (w0 : World) (A : HP) (n : Nat) (z : Nat → Cl) (e : Ending) (w' : World) : Prop := At w0 A w' ∧ ((e = .returned (.bool true) ∧ Light n z) ∨ e = .returned (.bool false))

set_option maxHeartbeats 2000000 in
theorem light_any (w0 w : World) (A : HP) (a : Option Addr) (n cap : Nat) (z : Nat → Cl) (hn : n ≤ 9223372036854775807) (hsz : ∀ i, (z i).i.k.size ≤ 4611686018427387904 ∧ (z i).i.v.size ≤ 4611686018427387903) (h : At w0 A w) (hz : ∀ w', At w0 A w' → Cls w' a n z) :
    Calls Try.prog 11 #[.slice a n cap] w (LightP w0 A n z) := by
  by_cases h120 : (120 : Int) < (n : Int)
  · go_enter Try.func11, Try.ntmps11
    go_wp2
    go_ret
    exact ⟨h, .inr rfl⟩
  · have hn120 : n ≤ 120 := by omega
    go_enter Try.func11, Try.ntmps11
    go_wp2
    have Hz := hide hz
    have Hs := hide hsz
    clear hz hsz
    go_loopw [10] (fun i wr => ∃ k : Nat, k ≤ n ∧ i = .int .i64 k ∧ (∀ j, j < k → (z j).i.k.size + (z j).i.v.size ≤ 100) ∧ At w0 A wr) (fun i _ => n - (intOf i).toNat)
    case atStart => exact ⟨0, Nat.zero_le _, rfl, fun j hj => absurd hj (Nat.not_lt_zero _), h⟩
    case round =>
      obtain ⟨k, hk, rfl, hl, hw⟩ := hrel
      have Hl := hide hl
      clear hl
      by_cases hkn : k < n
      · obtain ⟨b, o, rfl, c0, c1, c2, c3, c4, c5⟩ := Hz.out wr hw k hkn
        have h3 := hw.alloc (.cells #[.int .i64 (z k).k, .int .i64 (z k).i.t, .string (z k).i.k, .string (z k).i.v, .int .i64 (z k).i.p, .int .i64 (z k).i.s] 33)
        obtain ⟨hs1, hs2⟩ := Hs.out k
        have hkz : (k : Int) < (n : Int) := by omega
        generalize hzk : z k = zk at *
        have Hzk := hide hzk
        clear hzk
        by_cases h100 : (100 : Int) < (zk.i.k.size : Int) + (zk.i.v.size : Int)
        · go_wp2
          go_ret
          exact ⟨h3.r, .inr rfl⟩
        · go_wp2
          go_roundw
          case rel => exact ⟨k + 1, by omega, by go_num, fun j hj => by
            rcases Nat.lt_or_eq_of_le (Nat.lt_succ_iff.1 hj) with h1 | rfl
            · exact Hl.out j h1
            · rw [Hzk.out]; omega, h3.r⟩
          case measure => simp [intOf]; omega
      · obtain rfl : k = n := by omega
        go_wp2
        go_ret
        exact ⟨hw, .inl ⟨rfl, hn120, Hl.out⟩⟩

/-- The example's rows. -/
def exK : Nat → ByteArray
  | 0 => ⟨#[100]⟩
  | 1 => ⟨#[98, 98]⟩
  | 2 => ⟨#[97]⟩
  | _ => ⟨#[98]⟩
def exI (k : Nat) : It := ⟨0, exK k, ⟨#[]⟩, 0, 0⟩
def exL : Nat → List It
  | 0 => []
  | k + 1 => put (exL k) (exI k)
theorem exL_sorted : ∀ k, Sorted (exL k)
  | 0 => sorted_nil
  | k + 1 => sorted_put (exL_sorted k) _
theorem ex_lt {k j : Nat} : ltB (exI k).t (exI k).k (exI j).t (exI j).k = decide ((exK k).data.toList < (exK j).data.toList) := by
  simp [ltB, exI, bytesLess_lt, ByteArray.toList_eq]
theorem ex01 : ltB (exI 0).t (exI 0).k (exI 1).t (exI 1).k = false := by rw [ex_lt]; decide
theorem ex02 : ltB (exI 0).t (exI 0).k (exI 2).t (exI 2).k = false := by rw [ex_lt]; decide
theorem ex03 : ltB (exI 0).t (exI 0).k (exI 3).t (exI 3).k = false := by rw [ex_lt]; decide
theorem ex10 : ltB (exI 1).t (exI 1).k (exI 0).t (exI 0).k = true := by rw [ex_lt]; decide
theorem ex12 : ltB (exI 1).t (exI 1).k (exI 2).t (exI 2).k = false := by rw [ex_lt]; decide
theorem ex13 : ltB (exI 1).t (exI 1).k (exI 3).t (exI 3).k = false := by rw [ex_lt]; decide
theorem ex20 : ltB (exI 2).t (exI 2).k (exI 0).t (exI 0).k = true := by rw [ex_lt]; decide
theorem ex21 : ltB (exI 2).t (exI 2).k (exI 1).t (exI 1).k = true := by rw [ex_lt]; decide
theorem ex23 : ltB (exI 2).t (exI 2).k (exI 3).t (exI 3).k = true := by rw [ex_lt]; decide
theorem ex30 : ltB (exI 3).t (exI 3).k (exI 0).t (exI 0).k = true := by rw [ex_lt]; decide
theorem ex31 : ltB (exI 3).t (exI 3).k (exI 1).t (exI 1).k = true := by rw [ex_lt]; decide
theorem ex32 : ltB (exI 3).t (exI 3).k (exI 2).t (exI 2).k = false := by rw [ex_lt]; decide
theorem exL4 : exL 4 = [exI 2, exI 3, exI 1, exI 0] := by
  simp [exL, put, lows, highs, ex01, ex02, ex03, ex10, ex12, ex13, ex20, ex21, ex23, ex30, ex31, ex32]
theorem ex_scan : scan (exL 4) 0 ⟨#[98]⟩ ⟨#[99]⟩ = [exI 3, exI 1] := by
  rw [exL4]
  unfold scan
  have e : lows [exI 2, exI 3, exI 1, exI 0] 0 ⟨#[98]⟩ = [exI 2] := by
    have := ltB_irrefl (exI 3).t (exI 3).k
    show lows [exI 2, exI 3, exI 1, exI 0] (exI 3).t (exI 3).k = [exI 2]
    simp [lows, this, ex23, ex13, ex03]
  rw [e]
  show List.takeWhile (inB 0 ⟨#[99]⟩) [exI 3, exI 1, exI 0] = _
  have h3 : inB 0 ⟨#[99]⟩ (exI 3) = true := by simp only [inB, leB, exI, exK, bytesLess_lt, ByteArray.toList_eq]; decide
  have h1 : inB 0 ⟨#[99]⟩ (exI 1) = true := by simp only [inB, leB, exI, exK, bytesLess_lt, ByteArray.toList_eq]; decide
  have h0 : inB 0 ⟨#[99]⟩ (exI 0) = false := by simp only [inB, leB, exI, exK, bytesLess_lt, ByteArray.toList_eq]; decide
  simp [h3, h1, h0]
end Go.Proofs.Ytghlbhnpgbhllaa
