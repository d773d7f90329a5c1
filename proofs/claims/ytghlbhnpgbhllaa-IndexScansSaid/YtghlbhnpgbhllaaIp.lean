/-
  Rows in order, as lists: plain laws of what an index does. No program of Go's is spoken of.
-/
import Derived.Test.YtghlbhnpgbhllaaSl
namespace Go.Proofs.Ytghlbhnpgbhllaa
open Go Go.RowKit

/-- The model's order of strings is the lexical one of their bytes. -/
theorem bytesLess_lt : ∀ (x y : List UInt8), Op.bytesLess x y = decide (x < y)
  | [], [] => by simp [Op.bytesLess]
  | [], _ :: _ => by simp [Op.bytesLess]
  | _ :: _, [] => by simp [Op.bytesLess]
  | a :: x, b :: y => by
    rw [Op.bytesLess, bytesLess_lt x y]
    by_cases h1 : a < b <;> by_cases h2 : a = b <;> by_cases h3 : x < y <;> simp [List.cons_lt_cons_iff, h1, h2, h3]

/-- A row, with its page and slot. -/
structure It where
  t : Int
  k : ByteArray
  v : ByteArray
  p : Int
  s : Int
def It.cells (i : It) : List Value := [.int .i64 i.t, .string i.k, .string i.v, .int .i64 i.p, .int .i64 i.s]
def its (l : List It) : List Value := l.flatMap It.cells

/-- Does a key of a table come ahead of another one? -/
def ltB (t : Int) (k : ByteArray) (t' : Int) (k' : ByteArray) : Bool := decide (t < t') || (t == t' && Op.bytesLess k.toList k'.toList)
/-- Is it this key? -/
def eqB (t : Int) (k : ByteArray) (t' : Int) (k' : ByteArray) : Bool := t == t' && k.toList == k'.toList

theorem ltB_iff {t : Int} {k : ByteArray} {t' : Int} {k' : ByteArray} : ltB t k t' k' = true ↔ t < t' ∨ (t = t' ∧ k.toList < k'.toList) := by
  simp [ltB, bytesLess_lt]
theorem eqB_iff {t : Int} {k : ByteArray} {t' : Int} {k' : ByteArray} : eqB t k t' k' = true ↔ t = t' ∧ k.toList = k'.toList := by simp [eqB]
theorem ltB_irrefl (t : Int) (k : ByteArray) : ltB t k t k = false := by
  rw [Bool.eq_false_iff]
  intro h
  rcases ltB_iff.1 h with h | ⟨_, h⟩
  · omega
  · exact List.lt_irrefl _ h
theorem ltB_trans {t : Int} {k : ByteArray} {t' : Int} {k' : ByteArray} {t'' : Int} {k'' : ByteArray} (h : ltB t k t' k' = true) (h' : ltB t' k' t'' k'' = true) : ltB t k t'' k'' = true := by
  rw [ltB_iff] at *
  rcases h with h | ⟨rfl, h⟩
  · rcases h' with h' | ⟨rfl, h'⟩
    · left; omega
    · left; exact h
  · rcases h' with h' | ⟨rfl, h'⟩
    · left; exact h'
    · exact .inr ⟨rfl, List.lt_trans h h'⟩
theorem ltB_asymm {t : Int} {k : ByteArray} {t' : Int} {k' : ByteArray} (h : ltB t k t' k' = true) : ltB t' k' t k = false := by
  rw [Bool.eq_false_iff]
  intro h'
  have := ltB_trans h h'
  rw [ltB_irrefl] at this
  cases this
theorem ltB_not_eq {t : Int} {k : ByteArray} {t' : Int} {k' : ByteArray} (h : ltB t k t' k' = true) : eqB t k t' k' = false := by
  rw [Bool.eq_false_iff]
  intro h'
  obtain ⟨rfl, hk⟩ := eqB_iff.1 h'
  rcases ltB_iff.1 h with h | ⟨_, h⟩
  · omega
  · rw [hk] at h; exact List.lt_irrefl _ h
theorem ltB_tri (t : Int) (k : ByteArray) (t' : Int) (k' : ByteArray) : ltB t k t' k' = true ∨ eqB t k t' k' = true ∨ ltB t' k' t k = true := by
  rw [ltB_iff, ltB_iff, eqB_iff]
  rcases Int.lt_trichotomy t t' with h | h | h
  · exact .inl (.inl h)
  · by_cases h1 : k.toList < k'.toList
    · exact .inl (.inr ⟨h, h1⟩)
    · by_cases h2 : k'.toList < k.toList
      · exact .inr (.inr (.inr ⟨h.symm, h2⟩))
      · exact .inr (.inl ⟨h, List.le_antisymm (List.not_lt.1 h2) (List.not_lt.1 h1)⟩)
  · exact .inr (.inr (.inl h))
theorem eqB_comm (t : Int) (k : ByteArray) (t' : Int) (k' : ByteArray) : eqB t k t' k' = eqB t' k' t k := by
  rw [Bool.eq_iff_iff, eqB_iff, eqB_iff]
  exact ⟨fun h => ⟨h.1.symm, h.2.symm⟩, fun h => ⟨h.1.symm, h.2.symm⟩⟩
theorem ltB_eq_l {t : Int} {k : ByteArray} {t' : Int} {k' : ByteArray} (h : eqB t k t' k' = true) (u : Int) (j : ByteArray) : ltB t k u j = ltB t' k' u j := by
  obtain ⟨rfl, hk⟩ := eqB_iff.1 h
  unfold ltB
  rw [hk]
theorem ltB_eq_r {t : Int} {k : ByteArray} {t' : Int} {k' : ByteArray} (h : eqB t k t' k' = true) (u : Int) (j : ByteArray) : ltB u j t k = ltB u j t' k' := by
  obtain ⟨rfl, hk⟩ := eqB_iff.1 h
  unfold ltB
  rw [hk]
theorem eqB_eq_l {t : Int} {k : ByteArray} {t' : Int} {k' : ByteArray} (h : eqB t k t' k' = true) (u : Int) (j : ByteArray) : eqB t k u j = eqB t' k' u j := by
  obtain ⟨rfl, hk⟩ := eqB_iff.1 h
  unfold eqB
  rw [hk]
theorem toList_inj {k k' : ByteArray} (h : k.toList = k'.toList) : k = k' := by
  rw [ByteArray.toList_eq, ByteArray.toList_eq] at h
  cases k; cases k'
  simp only [Array.toList_inj] at h
  rw [h]

/-- What the comparison says of a row against a key. -/
def cmpI (x : It) (t : Int) (k : ByteArray) : Int := if ltB x.t x.k t k then -1 else if ltB t k x.t x.k then 1 else 0
theorem cmpI_neg (x : It) (t : Int) (k : ByteArray) : cmpI x t k < 0 ↔ ltB x.t x.k t k = true := by
  unfold cmpI
  split
  · rename_i h; simp [h]
  · rename_i h; split <;> simp [h]
theorem cmpI_zero (x : It) (t : Int) (k : ByteArray) : cmpI x t k = 0 ↔ eqB x.t x.k t k = true := by
  unfold cmpI
  split
  · rename_i h; simp [ltB_not_eq h]
  · rename_i h
    split
    · rename_i h'; rw [eqB_comm]; simp [ltB_not_eq h']
    · rename_i h'
      rcases ltB_tri x.t x.k t k with h1 | h1 | h1
      · exact absurd h1 h
      · simp [h1]
      · exact absurd h1 h'

def Sorted (l : List It) : Prop := l.Pairwise fun x y => ltB x.t x.k y.t y.k = true
def lows (l : List It) (t : Int) (k : ByteArray) : List It := l.filter fun x => ltB x.t x.k t k
def highs (l : List It) (t : Int) (k : ByteArray) : List It := l.filter fun x => ltB t k x.t x.k
def has (l : List It) (t : Int) (k : ByteArray) : Bool := l.any fun x => eqB x.t x.k t k
def put (l : List It) (i : It) : List It := lows l i.t i.k ++ i :: highs l i.t i.k
def del (l : List It) (t : Int) (k : ByteArray) : List It := l.filter fun x => !eqB x.t x.k t k
def fnd (l : List It) (t : Int) (k : ByteArray) : Option It := l.find? fun x => eqB x.t x.k t k
def zeroIt : It := ⟨0, ⟨#[]⟩, ⟨#[]⟩, 0, 0⟩

theorem mem_put {l : List It} {i x : It} : x ∈ put l i ↔ x = i ∨ (x ∈ l ∧ eqB x.t x.k i.t i.k = false) := by
  unfold put lows highs
  simp only [List.mem_append, List.mem_cons, List.mem_filter]
  constructor
  · rintro (⟨h, h1⟩ | rfl | ⟨h, h1⟩)
    · exact .inr ⟨h, ltB_not_eq h1⟩
    · exact .inl rfl
    · exact .inr ⟨h, by rw [eqB_comm]; exact ltB_not_eq h1⟩
  · rintro (rfl | ⟨h, h1⟩)
    · exact .inr (.inl rfl)
    · rcases ltB_tri x.t x.k i.t i.k with h2 | h2 | h2
      · exact .inl ⟨h, h2⟩
      · rw [h1] at h2; cases h2
      · exact .inr (.inr ⟨h, h2⟩)
theorem mem_del {l : List It} {t : Int} {k : ByteArray} {x : It} : x ∈ del l t k ↔ x ∈ l ∧ eqB x.t x.k t k = false := by
  unfold del
  simp
theorem sorted_put {l : List It} (h : Sorted l) (i : It) : Sorted (put l i) := by
  unfold Sorted put lows highs
  rw [List.pairwise_append]
  refine ⟨h.filter _, List.pairwise_cons.2 ⟨fun y hy => (List.mem_filter.1 hy).2, h.filter _⟩, fun x hx y hy => ?_⟩
  have h1 := (List.mem_filter.1 hx).2
  rcases List.mem_cons.1 hy with rfl | hy
  · exact h1
  · exact ltB_trans h1 (List.mem_filter.1 hy).2
theorem sorted_del {l : List It} (h : Sorted l) (t : Int) (k : ByteArray) : Sorted (del l t k) := h.filter _
theorem sorted_nil : Sorted [] := List.Pairwise.nil

/-- What is in order is known by what is in it. -/
theorem sorted_ext : ∀ {l l' : List It}, Sorted l → Sorted l' → (∀ x, x ∈ l ↔ x ∈ l') → l = l'
  | [], [], _, _, _ => rfl
  | [], y :: l', _, _, h => absurd ((h y).2 List.mem_cons_self) (by simp)
  | x :: l, [], _, _, h => absurd ((h x).1 List.mem_cons_self) (by simp)
  | x :: l, y :: l', hs, hs', h => by
    have hx := (List.pairwise_cons.1 hs)
    have hy := (List.pairwise_cons.1 hs')
    have hxy : x = y := by
      rcases List.mem_cons.1 ((h x).1 List.mem_cons_self) with e | h1
      · exact e
      · rcases List.mem_cons.1 ((h y).2 List.mem_cons_self) with e | h2
        · exact e.symm
        · have h3 := hy.1 x h1
          have h4 := hx.1 y h2
          have := ltB_asymm h3
          rw [h4] at this; cases this
    subst hxy
    congr 1
    refine sorted_ext hx.2 hy.2 fun z => ?_
    constructor
    · intro hz
      rcases List.mem_cons.1 ((h z).1 (List.mem_cons_of_mem _ hz)) with rfl | h1
      · have := hx.1 z hz
        rw [ltB_irrefl] at this; cases this
      · exact h1
    · intro hz
      rcases List.mem_cons.1 ((h z).2 (List.mem_cons_of_mem _ hz)) with rfl | h1
      · have := hy.1 z hz
        rw [ltB_irrefl] at this; cases this
      · exact h1

/-- Of one key there is one. -/
theorem sorted_key {l : List It} (h : Sorted l) {x y : It} (hx : x ∈ l) (hy : y ∈ l) (he : eqB x.t x.k y.t y.k = true) : x = y := by
  induction l with
  | nil => cases hx
  | cons z l ih =>
    have hz := List.pairwise_cons.1 h
    rcases List.mem_cons.1 hx with e1 | h1 <;> rcases List.mem_cons.1 hy with e2 | h2
    · rw [e1, e2]
    · have := ltB_not_eq (hz.1 _ h2); rw [← e1, he] at this; cases this
    · have := ltB_not_eq (hz.1 _ h1); rw [← e2, eqB_comm, he] at this; cases this
    · exact ih hz.2 h1 h2

/-- An order cut at a key. -/
theorem lows_eq {l : List It} {t : Int} {k : ByteArray} {i : Nat} (h1 : ∀ x ∈ l.take i, ltB x.t x.k t k = true) (h2 : ∀ x ∈ l.drop i, ltB x.t x.k t k = false) : lows l t k = l.take i := by
  unfold lows
  rw [← List.take_append_drop i l, List.filter_append, List.filter_eq_self.2 h1, List.filter_eq_nil_iff.2 (fun x hx => by simp [h2 x hx])]
  simp
theorem lows_len {l : List It} {t : Int} {k : ByteArray} {i : Nat} (hi : i ≤ l.length) (h1 : ∀ x ∈ l.take i, ltB x.t x.k t k = true) (h2 : ∀ x ∈ l.drop i, ltB x.t x.k t k = false) : (lows l t k).length = i := by
  rw [lows_eq h1 h2]
  simp; omega
theorem lows_drop {l : List It} (h : Sorted l) (t : Int) (k : ByteArray) : l = lows l t k ++ l.filter (fun x => !ltB x.t x.k t k) := by
  induction l with
  | nil => rfl
  | cons x l ih =>
    have hx := List.pairwise_cons.1 h
    unfold lows
    by_cases h1 : ltB x.t x.k t k = true
    · rw [show List.filter (fun x => ltB x.t x.k t k) (x :: l) = x :: lows l t k from List.filter_cons_of_pos h1,
        show List.filter (fun x => !ltB x.t x.k t k) (x :: l) = List.filter (fun x => !ltB x.t x.k t k) l from List.filter_cons_of_neg (by simp [h1]), List.cons_append]
      congr 1
      exact ih hx.2
    · have h0 : ∀ y ∈ l, ltB y.t y.k t k = false := fun y hy => by
        rw [Bool.eq_false_iff]
        exact fun h2 => h1 (ltB_trans (hx.1 y hy) h2)
      rw [show List.filter (fun x => ltB x.t x.k t k) (x :: l) = [] from List.filter_eq_nil_iff.2 (fun y hy => by
          rcases List.mem_cons.1 hy with rfl | hy
          · exact h1
          · simp [h0 y hy]),
        show List.filter (fun x => !ltB x.t x.k t k) (x :: l) = x :: l from List.filter_eq_self.2 (fun y hy => by
          rcases List.mem_cons.1 hy with rfl | hy
          · simp [h1]
          · simp [h0 y hy])]
      rfl
theorem take_lows {l : List It} (h : Sorted l) (t : Int) (k : ByteArray) : l.take (lows l t k).length = lows l t k := by
  have e := lows_drop h t k
  have := congrArg (List.take (lows l t k).length) e
  rw [List.take_left] at this
  exact this
theorem drop_lows {l : List It} (h : Sorted l) (t : Int) (k : ByteArray) : l.drop (lows l t k).length = l.filter (fun x => !ltB x.t x.k t k) := by
  have e := lows_drop h t k
  have := congrArg (List.drop (lows l t k).length) e
  rw [List.drop_left] at this
  exact this
theorem lows_le (l : List It) (t : Int) (k : ByteArray) : (lows l t k).length ≤ l.length := List.length_filter_le _ _
/-- Behind the cut: the key's own row, if there is one, and what comes behind it. -/
theorem cut_has {l : List It} (h : Sorted l) (t : Int) (k : ByteArray) : (has l t k = true ∧ ∃ x, eqB x.t x.k t k = true ∧ l = lows l t k ++ x :: highs l t k) ∨ (has l t k = false ∧ l = lows l t k ++ highs l t k) := by
  induction l with
  | nil => exact .inr ⟨rfl, rfl⟩
  | cons x l ih =>
    have hx := List.pairwise_cons.1 h
    rcases ltB_tri x.t x.k t k with h1 | h1 | h1
    · have e1 : lows (x :: l) t k = x :: lows l t k := List.filter_cons_of_pos h1
      have e2 : highs (x :: l) t k = highs l t k := List.filter_cons_of_neg (by simp [ltB_asymm h1])
      have e3 : has (x :: l) t k = has l t k := by simp [has, ltB_not_eq h1]
      rw [e1, e2, e3]
      rcases ih hx.2 with ⟨h2, y, hy, hl⟩ | ⟨h2, hl⟩
      · exact .inl ⟨h2, y, hy, by rw [List.cons_append, ← hl]⟩
      · exact .inr ⟨h2, by rw [List.cons_append, ← hl]⟩
    · have hgt : ∀ y ∈ l, ltB t k y.t y.k = true := fun y hy => by rw [← ltB_eq_l h1]; exact hx.1 y hy
      have e1 : lows (x :: l) t k = [] := List.filter_eq_nil_iff.2 fun y hy => by
        rcases List.mem_cons.1 hy with rfl | hy
        · rw [ltB_eq_l h1, ltB_irrefl]; simp
        · rw [ltB_asymm (hgt y hy)]; simp
      have e2 : highs (x :: l) t k = l := by
        unfold highs
        rw [List.filter_cons_of_neg (by rw [ltB_eq_r h1, ltB_irrefl]; simp)]
        exact List.filter_eq_self.2 hgt
      refine .inl ⟨by simp [has, h1], x, h1, ?_⟩
      rw [e1, e2]
      rfl
    · have hgt : ∀ y ∈ x :: l, ltB t k y.t y.k = true := fun y hy => by
        rcases List.mem_cons.1 hy with rfl | hy
        · exact h1
        · exact ltB_trans h1 (hx.1 y hy)
      have e1 : lows (x :: l) t k = [] := List.filter_eq_nil_iff.2 fun y hy => by rw [ltB_asymm (hgt y hy)]; simp
      have e2 : highs (x :: l) t k = x :: l := List.filter_eq_self.2 hgt
      refine .inr ⟨?_, by rw [e1, e2]; rfl⟩
      unfold has
      rw [List.any_eq_false]
      intro y hy
      rw [eqB_comm, ltB_not_eq (hgt y hy)]
      simp
theorem has_iff {l : List It} {t : Int} {k : ByteArray} : has l t k = true ↔ ∃ x ∈ l, eqB x.t x.k t k = true := by simp [has]
theorem put_has {l : List It} (h : Sorted l) {i : It} (hh : has l i.t i.k = true) : l.set (lows l i.t i.k).length i = put l i ∧ (lows l i.t i.k).length < l.length := by
  rcases cut_has h i.t i.k with ⟨_, x, _, hl⟩ | ⟨h0, _⟩
  · have hlen : (lows l i.t i.k).length < l.length := by
      have := congrArg List.length hl
      simp at this
      omega
    refine ⟨?_, hlen⟩
    generalize hL : lows l i.t i.k = L at *
    generalize hH : highs l i.t i.k = H at *
    unfold put
    rw [hL, hH, hl]
    simp
  · rw [hh] at h0; cases h0
theorem put_new {l : List It} (h : Sorted l) {i : It} (hh : has l i.t i.k = false) : l.take (lows l i.t i.k).length ++ i :: l.drop (lows l i.t i.k).length = put l i := by
  rcases cut_has h i.t i.k with ⟨h0, _⟩ | ⟨_, hl⟩
  · rw [hh] at h0; cases h0
  · generalize hL : lows l i.t i.k = L at *
    generalize hH : highs l i.t i.k = H at *
    unfold put
    rw [hL, hH, hl]
    simp
theorem del_has {l : List It} (h : Sorted l) {t : Int} {k : ByteArray} (hh : has l t k = true) : l.take (lows l t k).length ++ l.drop ((lows l t k).length + 1) = del l t k ∧ (lows l t k).length < l.length := by
  rcases cut_has h t k with ⟨_, x, hx, hl⟩ | ⟨h0, _⟩
  · have hlen : (lows l t k).length < l.length := by
      have := congrArg List.length hl
      simp at this
      omega
    refine ⟨?_, hlen⟩
    have hdl : ∀ y ∈ lows l t k, (!eqB y.t y.k t k) = true := fun y hy => by rw [ltB_not_eq (List.mem_filter.1 hy).2]; rfl
    have hdh : ∀ y ∈ highs l t k, (!eqB y.t y.k t k) = true := fun y hy => by rw [eqB_comm, ltB_not_eq (List.mem_filter.1 hy).2]; rfl
    generalize hL : lows l t k = L at *
    generalize hH : highs l t k = H at *
    unfold del
    rw [hl, List.filter_append, List.filter_cons_of_neg (by simp [hx]), List.filter_eq_self.2 hdl, List.filter_eq_self.2 hdh]
    simp
  · rw [hh] at h0; cases h0
theorem del_none {l : List It} {t : Int} {k : ByteArray} (hh : has l t k = false) : del l t k = l := by
  unfold del
  refine List.filter_eq_self.2 fun x hx => ?_
  unfold has at hh
  rw [List.any_eq_false] at hh
  simpa using hh x hx
theorem fnd_has {l : List It} (h : Sorted l) {t : Int} {k : ByteArray} (hh : has l t k = true) : ∃ x, l[(lows l t k).length]? = some x ∧ fnd l t k = some x ∧ eqB x.t x.k t k = true := by
  rcases cut_has h t k with ⟨_, x, hx, hl⟩ | ⟨h0, _⟩
  · refine ⟨x, ?_, ?_, hx⟩
    · generalize hL : lows l t k = L at *
      rw [hl]
      simp
    · have hdl : ∀ y ∈ lows l t k, ¬ (eqB y.t y.k t k) = true := fun y hy => by rw [ltB_not_eq (List.mem_filter.1 hy).2]; simp
      generalize hL : lows l t k = L at *
      unfold fnd
      rw [hl, List.find?_append, List.find?_eq_none.2 hdl]
      simp [hx]
  · rw [hh] at h0; cases h0
theorem fnd_none {l : List It} {t : Int} {k : ByteArray} (hh : has l t k = false) : fnd l t k = none := by
  unfold has at hh
  rw [List.any_eq_false] at hh
  exact List.find?_eq_none.2 fun x hx => by simpa using hh x hx
theorem fnd_iff {l : List It} (h : Sorted l) {t : Int} {k : ByteArray} {x : It} : fnd l t k = some x ↔ x ∈ l ∧ eqB x.t x.k t k = true := by
  constructor
  · intro e
    exact ⟨List.mem_of_find?_eq_some e, by have := List.find?_some e; simpa using this⟩
  · rintro ⟨hx, he⟩
    obtain ⟨y, _, hy, hye⟩ := fnd_has h (has_iff.2 ⟨x, hx, he⟩)
    have hm := List.mem_of_find?_eq_some hy
    have : x = y := sorted_key h hx hm (by
      rw [eqB_comm] at hye
      rw [eqB_eq_l he]; exact hye)
    rw [hy, this]
theorem len_put {l : List It} (h : Sorted l) (i : It) : (put l i).length = l.length + (if has l i.t i.k then 0 else 1) := by
  rcases cut_has h i.t i.k with ⟨h0, x, _, hl⟩ | ⟨h0, hl⟩
  · rw [h0]
    have := congrArg List.length hl
    simp at this
    simp [put]
    omega
  · rw [h0]
    have := congrArg List.length hl
    simp at this
    simp [put]
    omega
end Go.Proofs.Ytghlbhnpgbhllaa
