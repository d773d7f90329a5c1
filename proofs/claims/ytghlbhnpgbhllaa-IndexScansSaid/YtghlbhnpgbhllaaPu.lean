/-
  Scans as plain lists: what is between two keys. No program of Go's is spoken of.
-/
import Derived.Test.YtghlbhnpgbhllaaIa
namespace Go.Proofs.Ytghlbhnpgbhllaa
open Go Go.RowKit

/-- Once out, always out: what is taken from the front is all that may be taken. -/
theorem takeWhile_filter {α : Type} {p : α → Bool} : ∀ {l : List α}, l.Pairwise (fun x y => p y = true → p x = true) → l.takeWhile p = l.filter p
  | [], _ => rfl
  | x :: l, h => by
    have hx := List.pairwise_cons.1 h
    cases hp : p x with
    | true => rw [List.takeWhile_cons_of_pos hp, List.filter_cons_of_pos hp, takeWhile_filter hx.2]
    | false =>
      rw [List.takeWhile_cons_of_neg (by simp [hp]), List.filter_cons_of_neg (by simp [hp])]
      exact (List.filter_eq_nil_iff.2 fun y hy hpy => by have := hx.1 y hy hpy; rw [hp] at this; cases this).symm
theorem leB_iff {k to : ByteArray} : leB k to = true ↔ k.toList ≤ to.toList := by
  unfold leB
  rw [bytesLess_lt]
  simp only [Bool.or_eq_true, decide_eq_true_eq, beq_iff_eq]
  constructor
  · rintro (h | h)
    · exact List.not_lt.1 fun h' => List.lt_asymm h h'
    · rw [h]; exact List.le_refl _
  · intro h
    by_cases h1 : k.toList < to.toList
    · exact .inl h1
    · exact .inr (List.le_antisymm h (List.not_lt.1 h1))
theorem inB_iff {t : Int} {to : ByteArray} {x : It} : inB t to x = true ↔ x.t = t ∧ x.k.toList ≤ to.toList := by
  unfold inB
  rw [Bool.and_eq_true, leB_iff]
  simp
/-- A scan has just the rows of its table between both keys. -/
theorem scan_filter {l : List It} (hs : Sorted l) (t : Int) (frm to : ByteArray) : scan l t frm to = l.filter fun x => !ltB x.t x.k t frm && inB t to x := by
  unfold scan
  rw [drop_lows hs, takeWhile_filter, List.filter_filter]
  · congr 1
    funext x
    rw [Bool.and_comm]
  · refine List.Pairwise.imp_of_mem ?_ (hs.filter _)
    intro x y hx hy hxy hp
    have h1 := (List.mem_filter.1 hx).2
    rw [inB_iff] at hp ⊢
    obtain ⟨hy1, hy2⟩ := hp
    rcases ltB_iff.1 hxy with h2 | ⟨h2, h3⟩
    · exfalso
      have : ltB x.t x.k t frm = true := ltB_iff.2 (.inl (by omega))
      rw [this] at h1; cases h1
    · exact ⟨h2.trans hy1, List.le_trans (List.not_lt.1 fun h' => List.lt_asymm h3 h') hy2⟩
theorem mem_scan {l : List It} (hs : Sorted l) {t : Int} {frm to : ByteArray} {x : It} : x ∈ scan l t frm to ↔ x ∈ l ∧ x.t = t ∧ frm.toList ≤ x.k.toList ∧ x.k.toList ≤ to.toList := by
  rw [scan_filter hs, List.mem_filter, Bool.and_eq_true, inB_iff]
  constructor
  · rintro ⟨h1, h2, h3, h4⟩
    refine ⟨h1, h3, List.not_lt.1 fun h' => ?_, h4⟩
    rw [ltB_iff.2 (.inr ⟨h3, h'⟩)] at h2
    cases h2
  · rintro ⟨h1, h2, h3, h4⟩
    refine ⟨h1, ?_, h2, h4⟩
    rw [Bool.not_eq_true', Bool.eq_false_iff]
    intro h'
    rcases ltB_iff.1 h' with h5 | ⟨_, h5⟩
    · omega
    · exact List.not_lt.2 h3 h5
theorem scan_sorted {l : List It} (hs : Sorted l) (t : Int) (frm to : ByteArray) : Sorted (scan l t frm to) := by
  rw [scan_filter hs]
  exact hs.filter _
theorem scan_le (l : List It) (t : Int) (frm to : ByteArray) : (scan l t frm to).length ≤ l.length := by
  have := scan_len l t frm to
  omega

/-- Ahead of what is longer by a zero: not behind it. -/
theorem lt_snoc0 : ∀ (m k : List UInt8), k < m ++ [0] ↔ ¬ m < k
  | [], [] => by simp
  | [], c :: r => by simp [List.cons_lt_cons_iff]
  | a :: m, [] => by simp
  | a :: m, c :: r => by
    have ih := lt_snoc0 m r
    rw [List.cons_append, List.cons_lt_cons_iff, List.cons_lt_cons_iff, ih]
    constructor
    · rintro (h | ⟨rfl, h⟩)
      · rintro (h' | ⟨rfl, _⟩)
        · exact UInt8.lt_asymm h h'
        · exact UInt8.lt_irrefl _ h
      · rintro (h' | ⟨_, h'⟩)
        · exact UInt8.lt_irrefl _ h'
        · exact h h'
    · intro h
      by_cases h1 : c < a
      · exact .inl h1
      · by_cases h2 : a < c
        · exact (h (.inl h2)).elim
        · have : c = a := UInt8.le_antisymm (UInt8.not_lt.1 h2) (UInt8.not_lt.1 h1)
          exact .inr ⟨this, fun h3 => h (.inr ⟨this.symm, h3⟩)⟩
theorem le_snoc0 (m k : List UInt8) : m ++ [0] ≤ k ↔ m < k := by
  rw [← List.not_lt, lt_snoc0]
  exact Decidable.not_not
theorem lt_snoc (m : List UInt8) (a : UInt8) (r : List UInt8) : m < m ++ a :: r := by
  induction m with
  | nil => simp
  | cons b m ih => rw [List.cons_append, List.cons_lt_cons_iff]; exact .inr ⟨rfl, ih⟩

theorem toList_append (a b : ByteArray) : (a ++ b).toList = a.toList ++ b.toList := by
  rw [ByteArray.toList_eq, ByteArray.toList_eq, ByteArray.toList_eq]
  simp
/-- Two scans that meet are one. -/
theorem scan_parts {l : List It} (hs : Sorted l) (t : Int) (mid big : ByteArray) (hb : mid.toList ≤ big.toList) :
    scan l t ⟨#[]⟩ mid ++ scan l t (mid ++ ⟨#[0]⟩) big = scan l t ⟨#[]⟩ big := by
  have e0 : (⟨#[]⟩ : ByteArray).toList = [] := by rw [ByteArray.toList_eq]
  have e1 : (mid ++ ⟨#[0]⟩ : ByteArray).toList = mid.toList ++ [0] := by rw [toList_append]; congr 1; rw [ByteArray.toList_eq]
  refine sorted_ext ?_ (scan_sorted hs _ _ _) fun x => ?_
  · unfold Sorted
    rw [List.pairwise_append]
    refine ⟨scan_sorted hs _ _ _, scan_sorted hs _ _ _, fun x hx y hy => ?_⟩
    obtain ⟨_, h1, _, h2⟩ := (mem_scan hs).1 hx
    obtain ⟨_, h3, h4, _⟩ := (mem_scan hs).1 hy
    rw [e1, le_snoc0] at h4
    exact ltB_iff.2 (.inr ⟨h1.trans h3.symm, by
      rcases Decidable.em (x.k.toList < mid.toList) with h5 | h5
      · exact List.lt_trans h5 h4
      · rw [List.le_antisymm h2 (List.not_lt.1 h5)]; exact h4⟩)
  · rw [List.mem_append, mem_scan hs, mem_scan hs, mem_scan hs, e0, e1, le_snoc0]
    constructor
    · rintro (⟨h1, h2, h3, h4⟩ | ⟨h1, h2, h3, h4⟩)
      · exact ⟨h1, h2, h3, List.le_trans h4 hb⟩
      · exact ⟨h1, h2, List.nil_le _, h4⟩
    · rintro ⟨h1, h2, h3, h4⟩
      by_cases h5 : mid.toList < x.k.toList
      · exact .inr ⟨h1, h2, h5, h4⟩
      · exact .inl ⟨h1, h2, h3, List.not_lt.1 h5⟩
theorem scan_back {l : List It} (hs : Sorted l) (t : Int) (mid : ByteArray) : scan l t (mid ++ ⟨#[97]⟩) mid = [] := by
  refine List.eq_nil_iff_forall_not_mem.2 fun x hx => ?_
  obtain ⟨_, _, h1, h2⟩ := (mem_scan hs).1 hx
  have e1 : (mid ++ ⟨#[97]⟩ : ByteArray).toList = mid.toList ++ [97] := by rw [toList_append]; congr 1; rw [ByteArray.toList_eq]
  rw [e1] at h1
  have h3 := List.le_trans h1 h2
  exact List.not_lt.2 h3 (lt_snoc _ _ _)
theorem ff_le {mid : ByteArray} (h : (!(Op.bytesLess mid.toList (⟨#[255, 255]⟩ : ByteArray).toList || mid.toList == (⟨#[255, 255]⟩ : ByteArray).toList)) = false) : mid.toList ≤ (⟨#[255, 255, 255, 255]⟩ : ByteArray).toList := by
  have h1 : leB mid ⟨#[255, 255]⟩ = true := by
    unfold leB
    rw [Bool.not_eq_false'] at h
    exact h
  refine List.le_trans (leB_iff.1 h1) ?_
  rw [ByteArray.toList_eq, ByteArray.toList_eq]
  decide
end Go.Proofs.Ytghlbhnpgbhllaa
