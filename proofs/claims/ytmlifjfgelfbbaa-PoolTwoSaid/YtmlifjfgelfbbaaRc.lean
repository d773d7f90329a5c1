/-
  The package record: what its functions come to, in terms of blocks: contracts, no statement.
-/
import Derived.Test.YtmlifjfgelfbbaaPn
namespace Go.Proofs.Ytmlifjfgelfbbaa
open Go Go.RowKit

/-- A record. -/
structure Rec where
  kind : Int
  txn : Int
  page : Int
  slot : Int
  before : ByteArray
  after : ByteArray
  image : ByteArray
  dirty : List Nat
def nus (l : List Nat) : List Value := l.map fun (x : Nat) => .int .u64 (x : Int)
theorem nus_len (l : List Nat) : (nus l).length = l.length := by simp [nus]
theorem nus_one (l : List Nat) : ∀ u ∈ nus l, u.oneCell' = true := by
  intro u hu
  simp only [nus, List.mem_map] at hu
  obtain ⟨b, _, rfl⟩ := hu
  rfl
def Rec.cells (r : Rec) (dv : Value) : List Value := [.int .i64 r.kind, .int .i64 r.txn, .int .i64 r.page, .int .i64 r.slot, .string r.before, .string r.after, .string r.image, dv]

def cellB (s : ByteArray) : Bool := s.toList.isEmpty || (s.size : Int) == 40
theorem recCell_any (w : World) (s : ByteArray) : Calls Try.prog 58 #[.string s] w fun e w' => e = .returned (.bool (cellB s)) ∧ w = w' := by
  unfold cellB
  go_enter Try.func58, Try.ntmps58
  go_wp2_with fail
  · go_ret
    rename_i h
    exact ⟨by rw [h]; rfl, rfl⟩
  · go_ret
    exact ⟨rfl, rfl⟩

def Rec.right (r : Rec) : Bool := !(decide (r.kind < 1) || decide (7 < r.kind) || decide (r.txn < 0) || decide (255 < r.txn) || decide (r.page < 0) || decide (6 ≤ r.page) || decide (r.slot < 0) || decide (5 ≤ r.slot)) &&
  (cellB r.before && cellB r.after && (r.image.toList.isEmpty || (r.image.size : Int) == 256)) && ((r.dirty.length : Int) == 0 || (r.kind == 7 && (r.dirty.length : Int) == 6))

set_option maxRecDepth 100000 in
set_option maxHeartbeats 4000000 in
theorem recRight_any (w0 w : World) (A : HP) (r : Rec) (a : Option Addr) (c : Nat) (h : At w0 A w) :
    Calls Try.prog 37 #[.agg (r.cells (.slice a r.dirty.length c)).toArray] w fun e w' => e = .returned (.bool r.right) ∧ At w0 A w' := by
  obtain ⟨kind, txn, page, slot, before, after, image, dirty⟩ := r
  have h1 := h.alloc (.cells (Rec.cells ⟨kind, txn, page, slot, before, after, image, dirty⟩ (.slice a dirty.length c)).toArray 52)
  obtain ⟨R, hR⟩ : ∃ R, Rec.right ⟨kind, txn, page, slot, before, after, image, dirty⟩ = R := ⟨_, rfl⟩
  rw [hR]
  simp only [Rec.right] at hR
  simp only [Rec.cells] at h1 ⊢
  generalize dirty.length = dl at *
  have Hr := hide hR.symm
  clear hR
  cases c1 : decide (kind < 1) with
  | true =>
    go_enter Try.func37, Try.ntmps37
    go_wp2_with fail
    go_ret
    exact ⟨by rw [Hr.out]; simp only [c1, Bool.true_or, Bool.not_true, Bool.false_and]; rfl, h1.r⟩
  | false =>
  cases c2 : decide (7 < kind) with
  | true =>
    go_enter Try.func37, Try.ntmps37
    go_wp2_with fail
    go_ret
    exact ⟨by rw [Hr.out]; simp only [c1, c2, Bool.or_true, Bool.true_or, Bool.not_true, Bool.false_and]; rfl, h1.r⟩
  | false =>
  cases c3 : decide (txn < 0) with
  | true =>
    go_enter Try.func37, Try.ntmps37
    go_wp2_with fail
    go_ret
    exact ⟨by rw [Hr.out]; simp only [c1, c2, c3, Bool.or_false, Bool.or_true, Bool.true_or, Bool.not_true, Bool.false_and]; rfl, h1.r⟩
  | false =>
  cases c4 : decide (255 < txn) with
  | true =>
    go_enter Try.func37, Try.ntmps37
    go_wp2_with fail
    go_ret
    exact ⟨by rw [Hr.out]; simp only [c1, c2, c3, c4, Bool.or_false, Bool.or_true, Bool.true_or, Bool.not_true, Bool.false_and]; rfl, h1.r⟩
  | false =>
  cases c5 : decide (page < 0) with
  | true =>
    go_enter Try.func37, Try.ntmps37
    go_wp2_with fail
    go_ret
    exact ⟨by rw [Hr.out]; simp only [c1, c2, c3, c4, c5, Bool.or_false, Bool.or_true, Bool.true_or, Bool.not_true, Bool.false_and]; rfl, h1.r⟩
  | false =>
  cases c6 : decide (6 ≤ page) with
  | true =>
    go_enter Try.func37, Try.ntmps37
    go_wp2_with fail
    go_ret
    exact ⟨by rw [Hr.out]; simp only [c1, c2, c3, c4, c5, c6, Bool.or_false, Bool.or_true, Bool.true_or, Bool.not_true, Bool.false_and]; rfl, h1.r⟩
  | false =>
  cases c7 : decide (slot < 0) with
  | true =>
    go_enter Try.func37, Try.ntmps37
    go_wp2_with fail
    go_ret
    exact ⟨by rw [Hr.out]; simp only [c1, c2, c3, c4, c5, c6, c7, Bool.or_false, Bool.or_true, Bool.true_or, Bool.not_true, Bool.false_and]; rfl, h1.r⟩
  | false =>
  cases c8 : decide (5 ≤ slot) with
  | true =>
    go_enter Try.func37, Try.ntmps37
    go_wp2_with fail
    go_ret
    exact ⟨by rw [Hr.out]; simp only [c1, c2, c3, c4, c5, c6, c7, c8, Bool.or_false, Bool.or_true, Bool.not_true, Bool.false_and]; rfl, h1.r⟩
  | false =>
  cases c9 : cellB before with
  | false =>
    go_enter Try.func37, Try.ntmps37
    go_wp2_with fail
    refine (recCell_any _ _).mono ?_
    rintro e w2 ⟨rfl, rfl⟩
    go_wp2_with fail
    go_ret
    exact ⟨by rw [Hr.out]; simp only [c1, c2, c3, c4, c5, c6, c7, c8, c9, Bool.or_false, Bool.not_false, Bool.and_false, Bool.false_and]; rfl, h1.r⟩
  | true =>
  cases c10 : cellB after with
  | false =>
    go_enter Try.func37, Try.ntmps37
    go_wp2_with fail
    refine (recCell_any _ _).mono ?_
    rintro e w2 ⟨rfl, rfl⟩
    go_wp2_with fail
    refine (recCell_any _ _).mono ?_
    rintro e w2 ⟨rfl, rfl⟩
    go_wp2_with fail
    go_ret
    exact ⟨by rw [Hr.out]; simp only [c1, c2, c3, c4, c5, c6, c7, c8, c9, c10, Bool.or_false, Bool.not_false, Bool.and_false, Bool.false_and]; rfl, h1.r⟩
  | true =>
  by_cases hem : image.toList = []
  · have hib : image.toList.isEmpty = true := by rw [hem]; rfl
    cases c13 : ((dl : Int) == 0) with
    | true =>
      go_enter Try.func37, Try.ntmps37
      go_wp2_with fail
      refine (recCell_any _ _).mono ?_
      rintro e w2 ⟨rfl, rfl⟩
      go_wp2_with fail
      refine (recCell_any _ _).mono ?_
      rintro e w2 ⟨rfl, rfl⟩
      go_wp2_with fail
      go_ret
      exact ⟨by rw [Hr.out]; simp only [c1, c2, c3, c4, c5, c6, c7, c8, c9, c10, hib, c13, Bool.or_false, Bool.true_or, Bool.not_false, Bool.and_true]; rfl, h1.r⟩
    | false =>
    cases c14 : (kind == 7) with
    | false =>
      go_enter Try.func37, Try.ntmps37
      go_wp2_with fail
      refine (recCell_any _ _).mono ?_
      rintro e w2 ⟨rfl, rfl⟩
      go_wp2_with fail
      refine (recCell_any _ _).mono ?_
      rintro e w2 ⟨rfl, rfl⟩
      go_wp2_with fail
      go_ret
      exact ⟨by rw [Hr.out]; simp only [c1, c2, c3, c4, c5, c6, c7, c8, c9, c10, hib, c13, c14, Bool.or_false, Bool.true_or, Bool.not_false, Bool.and_false, Bool.false_and, Bool.and_true]; rfl, h1.r⟩
    | true =>
    cases c15 : ((dl : Int) == 6) with
    | false =>
      go_enter Try.func37, Try.ntmps37
      go_wp2_with fail
      refine (recCell_any _ _).mono ?_
      rintro e w2 ⟨rfl, rfl⟩
      go_wp2_with fail
      refine (recCell_any _ _).mono ?_
      rintro e w2 ⟨rfl, rfl⟩
      go_wp2_with fail
      go_ret
      exact ⟨by rw [Hr.out]; simp only [c1, c2, c3, c4, c5, c6, c7, c8, c9, c10, hib, c13, c14, c15, Bool.or_false, Bool.true_or, Bool.not_false, Bool.and_false, Bool.and_true]; rfl, h1.r⟩
    | true =>
      go_enter Try.func37, Try.ntmps37
      go_wp2_with fail
      refine (recCell_any _ _).mono ?_
      rintro e w2 ⟨rfl, rfl⟩
      go_wp2_with fail
      refine (recCell_any _ _).mono ?_
      rintro e w2 ⟨rfl, rfl⟩
      go_wp2_with fail
      go_ret
      exact ⟨by rw [Hr.out]; simp only [c1, c2, c3, c4, c5, c6, c7, c8, c9, c10, hib, c13, c14, c15, Bool.or_false, Bool.or_true, Bool.true_or, Bool.not_false, Bool.and_true]; rfl, h1.r⟩
  · have hib : image.toList.isEmpty = false := by cases hq : image.toList with
      | nil => exact absurd hq hem
      | cons _ _ => rfl
    cases c12 : ((image.size : Int) == 256) with
    | false =>
      go_enter Try.func37, Try.ntmps37
      go_wp2_with fail
      refine (recCell_any _ _).mono ?_
      rintro e w2 ⟨rfl, rfl⟩
      go_wp2_with fail
      refine (recCell_any _ _).mono ?_
      rintro e w2 ⟨rfl, rfl⟩
      go_wp2_with fail
      go_ret
      exact ⟨by rw [Hr.out]; simp only [c1, c2, c3, c4, c5, c6, c7, c8, c9, c10, hib, c12, Bool.or_false, Bool.not_false, Bool.and_false, Bool.false_and, Bool.and_true]; rfl, h1.r⟩
    | true =>
    cases c13 : ((dl : Int) == 0) with
    | true =>
      go_enter Try.func37, Try.ntmps37
      go_wp2_with fail
      refine (recCell_any _ _).mono ?_
      rintro e w2 ⟨rfl, rfl⟩
      go_wp2_with fail
      refine (recCell_any _ _).mono ?_
      rintro e w2 ⟨rfl, rfl⟩
      go_wp2_with fail
      go_ret
      exact ⟨by rw [Hr.out]; simp only [c1, c2, c3, c4, c5, c6, c7, c8, c9, c10, hib, c12, c13, Bool.or_false, Bool.or_true, Bool.true_or, Bool.not_false, Bool.and_true]; rfl, h1.r⟩
    | false =>
    cases c14 : (kind == 7) with
    | false =>
      go_enter Try.func37, Try.ntmps37
      go_wp2_with fail
      refine (recCell_any _ _).mono ?_
      rintro e w2 ⟨rfl, rfl⟩
      go_wp2_with fail
      refine (recCell_any _ _).mono ?_
      rintro e w2 ⟨rfl, rfl⟩
      go_wp2_with fail
      go_ret
      exact ⟨by rw [Hr.out]; simp only [c1, c2, c3, c4, c5, c6, c7, c8, c9, c10, hib, c12, c13, c14, Bool.or_false, Bool.or_true, Bool.not_false, Bool.and_false, Bool.false_and, Bool.and_true]; rfl, h1.r⟩
    | true =>
    cases c15 : ((dl : Int) == 6) with
    | false =>
      go_enter Try.func37, Try.ntmps37
      go_wp2_with fail
      refine (recCell_any _ _).mono ?_
      rintro e w2 ⟨rfl, rfl⟩
      go_wp2_with fail
      refine (recCell_any _ _).mono ?_
      rintro e w2 ⟨rfl, rfl⟩
      go_wp2_with fail
      go_ret
      exact ⟨by rw [Hr.out]; simp only [c1, c2, c3, c4, c5, c6, c7, c8, c9, c10, hib, c12, c13, c14, c15, Bool.or_false, Bool.or_true, Bool.not_false, Bool.and_false, Bool.and_true]; rfl, h1.r⟩
    | true =>
      go_enter Try.func37, Try.ntmps37
      go_wp2_with fail
      refine (recCell_any _ _).mono ?_
      rintro e w2 ⟨rfl, rfl⟩
      go_wp2_with fail
      refine (recCell_any _ _).mono ?_
      rintro e w2 ⟨rfl, rfl⟩
      go_wp2_with fail
      go_ret
      exact ⟨by rw [Hr.out]; simp only [c1, c2, c3, c4, c5, c6, c7, c8, c9, c10, hib, c12, c13, c14, c15, Bool.or_false, Bool.or_true, Bool.not_false, Bool.and_true]; rfl, h1.r⟩
end Go.Proofs.Ytmlifjfgelfbbaa
