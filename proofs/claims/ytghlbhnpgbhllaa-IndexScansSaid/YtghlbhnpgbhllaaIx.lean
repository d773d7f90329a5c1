/-
  What the search in an index comes to, in terms of blocks: contracts, no statement.
-/
import Derived.Test.YtghlbhnpgbhllaaIp
import Derived.Test.YtghlbhnpgbhllaaProg
import Derived.Test.YtghlbhnpgbhllaaRs
import Derived.Deep.LoopGhost
namespace Go.Proofs.Ytghlbhnpgbhllaa
open Go Go.RowKit

theorem its_length (l : List It) : (its l).length = l.length * 5 := by
  induction l with
  | nil => rfl
  | cons c l ih =>
    show (c.cells ++ its l).length = _
    rw [List.length_append, ih, List.length_cons]
    show 5 + _ = _
    omega
theorem its_snoc (l : List It) (c : It) : its (l ++ [c]) = its l ++ c.cells := by simp [its]
theorem its_append (l m : List It) : its (l ++ m) = its l ++ its m := by simp [its]
theorem its_cons (c : It) (m : List It) : its (c :: m) = c.cells ++ its m := by simp [its]
theorem its_take (l : List It) (i : Nat) : (its l).take (i * 5) = its (l.take i) := by
  rcases Nat.lt_or_ge l.length i with h | h
  · rw [List.take_of_length_le (by rw [its_length]; omega), List.take_of_length_le (by omega)]
  · have e : its l = its (l.take i) ++ its (l.drop i) := by rw [← its_append, List.take_append_drop]
    have hl : (its (l.take i)).length = i * 5 := by rw [its_length, List.length_take]; omega
    rw [e, ← hl]
    exact List.take_left
theorem its_drop (l : List It) (i : Nat) : (its l).drop (i * 5) = its (l.drop i) := by
  rcases Nat.lt_or_ge l.length i with h | h
  · rw [List.drop_of_length_le (by rw [its_length]; omega), List.drop_of_length_le (by omega)]
    rfl
  · have e : its l = its (l.take i) ++ its (l.drop i) := by rw [← its_append, List.take_append_drop]
    have hl : (its (l.take i)).length = i * 5 := by rw [its_length, List.length_take]; omega
    rw [e, ← hl]
    exact List.drop_left
theorem its_at (l : List It) (k j : Nat) (hk : k < l.length) (hj : j < 5) : (its l)[k * 5 + j]? = (l[k]).cells[j]? := by
  have h1 : (its l)[k * 5 + j]? = ((its l).drop (k * 5))[j]? := by rw [List.getElem?_drop]
  rw [h1, its_drop, List.drop_eq_getElem_cons hk, its_cons]
  exact List.getElem?_append_left hj
theorem its_one (l : List It) : ∀ u ∈ its l, u.oneCell' = true := by
  intro u hu
  obtain ⟨c, _, hc⟩ := List.mem_flatMap.1 hu
  simp [It.cells] at hc
  rcases hc with rfl | rfl | rfl | rfl | rfl <;> rfl
/-- The five cells of one of them. -/
theorem its_five {l : List It} {k : Nat} (hk : k < l.length) : (its l)[k * 5]? = some (.int .i64 l[k].t) ∧ (its l)[k * 5 + 1]? = some (.string l[k].k) ∧ (its l)[k * 5 + 2]? = some (.string l[k].v) ∧
    (its l)[k * 5 + 3]? = some (.int .i64 l[k].p) ∧ (its l)[k * 5 + 4]? = some (.int .i64 l[k].s) :=
  ⟨its_at l k 0 hk (by decide), its_at l k 1 hk (by decide), its_at l k 2 hk (by decide), its_at l k 3 hk (by decide), its_at l k 4 hk (by decide)⟩

theorem Try.infoIt : (Try.prog.info? 31).map (fun i => (i.zero, i.size, i.bytes)) = some (some (.agg #[.int .i64 0, .string ⟨#[]⟩, .string ⟨#[]⟩, .int .i64 0, .int .i64 0]), 5, 56) := by kernel_rfl

set_option maxHeartbeats 1000000 in
theorem less_any (w0 w : World) (A : HP) (t t' : Int) (k v k' v' : ByteArray) (h : At w0 A w) :
    Calls Try.prog 26 #[.agg #[.int .i64 t, .string k, .string v], .agg #[.int .i64 t', .string k', .string v']] w fun e w' => e = .returned (.bool (ltB t k t' k')) ∧ At w0 A w' := by
  have h1 := (h.alloc (.cells #[.int .i64 t, .string k, .string v] 29)).alloc (.cells #[.int .i64 t', .string k', .string v'] 29)
  rcases Int.lt_trichotomy t t' with h2 | h2 | h2
  · have Hq := hide (show ltB t k t' k' = true by simp [ltB, h2])
    go_enter Try.func26, Try.ntmps26
    go_wp2
    go_ret
    exact ⟨by rw [Hq.out]; rfl, h1.r.r⟩
  · subst h2
    have Hq := hide (show ltB t k t k' = Op.bytesLess k.toList k'.toList by simp [ltB])
    go_enter Try.func26, Try.ntmps26
    go_wp2
    go_ret
    exact ⟨by rw [Hq.out]; rfl, h1.r.r⟩
  · have Hq := hide (show ltB t k t' k' = false by
      simp [ltB]; exact ⟨by omega, fun h => by omega⟩)
    have h3 : ¬ t < t' := by omega
    have h4 : (t == t') = false := by rw [beq_eq_false_iff_ne]; omega
    go_enter Try.func26, Try.ntmps26
    go_wp2
    go_ret
    exact ⟨by rw [Hq.out]; rfl, h1.r.r⟩

set_option maxHeartbeats 1000000 in
theorem cmp_any (w0 w : World) (A : HP) (x : It) (t : Int) (k v : ByteArray) (h : At w0 A w) :
    Calls Try.prog 25 #[.agg #[.int .i64 x.t, .string x.k, .string x.v, .int .i64 x.p, .int .i64 x.s], .agg #[.int .i64 t, .string k, .string v]] w fun e w' => e = .returned (.int .i64 (cmpI x t k)) ∧ At w0 A w' := by
  have h1 := (h.alloc (.cells #[.int .i64 x.t, .string x.k, .string x.v, .int .i64 x.p, .int .i64 x.s] 31)).alloc' (show _ = w.heap.size + 1 by simp) (.cells #[.int .i64 t, .string k, .string v] 29)
  by_cases h2 : ltB x.t x.k t k = true
  · have Hq := hide (show cmpI x t k = -1 by simp [cmpI, h2])
    have h3 := less_any w0 _ _ x.t t x.k x.v k v h1
    rw [h2] at h3
    clear h2
    go_enter Try.func25, Try.ntmps25
    go_wp2_with fail
    refine h3.mono ?_
    rintro e w1 ⟨rfl, h4⟩
    go_wp2_with fail
    go_ret
    exact ⟨by rw [Hq.out]; rfl, h4.r.r⟩
  · have h3 := less_any w0 _ _ x.t t x.k x.v k v h1
    rw [Bool.eq_false_iff.2 h2] at h3
    by_cases h5 : ltB t k x.t x.k = true
    · have Hq := hide (show cmpI x t k = 1 by simp [cmpI, h2, h5])
      go_enter Try.func25, Try.ntmps25
      go_wp2_with fail
      refine h3.mono ?_
      rintro e w1 ⟨rfl, h4⟩
      have h6 := less_any w0 _ _ t x.t k v x.k x.v h4
      rw [h5] at h6
      have hq0 := At.cell (i := 0) h4 rfl
      have hq1 := At.cell (i := 1) h4 rfl
      have hq2 := At.cell (i := 2) h4 rfl
      have hr0 := At.cell (i := 0) h4.pull2 rfl
      have hr1 := At.cell (i := 1) h4.pull2 rfl
      have hr2 := At.cell (i := 2) h4.pull2 rfl
      clear h2 h5 h1 h3
      go_wp2_with fail
      refine h6.mono ?_
      rintro e w2 ⟨rfl, h7⟩
      go_wp2_with fail
      go_ret
      exact ⟨by rw [Hq.out]; rfl, h7.r.r⟩
    · have Hq := hide (show cmpI x t k = 0 by simp [cmpI, h2, h5])
      go_enter Try.func25, Try.ntmps25
      go_wp2_with fail
      refine h3.mono ?_
      rintro e w1 ⟨rfl, h4⟩
      have h6 := less_any w0 _ _ t x.t k v x.k x.v h4
      rw [Bool.eq_false_iff.2 h5] at h6
      have hq0 := At.cell (i := 0) h4 rfl
      have hq1 := At.cell (i := 1) h4 rfl
      have hq2 := At.cell (i := 2) h4 rfl
      have hr0 := At.cell (i := 0) h4.pull2 rfl
      have hr1 := At.cell (i := 1) h4.pull2 rfl
      have hr2 := At.cell (i := 2) h4.pull2 rfl
      clear h2 h5 h1 h3
      go_wp2_with fail
      refine h6.mono ?_
      rintro e w2 ⟨rfl, h7⟩
      go_wp2_with fail
      go_ret
      exact ⟨by rw [Hq.out]; rfl, h7.r.r⟩

theorem take_lt {l : List It} {n : Nat} {p : It → Prop} (h : ∀ (j : Nat) (hj : j < l.length), j < n → p l[j]) : ∀ x ∈ l.take n, p x := by
  intro x hx
  obtain ⟨j, hj, rfl⟩ := List.getElem_of_mem hx
  rw [List.length_take] at hj
  rw [List.getElem_take]
  exact h j (by omega) (by omega)
theorem drop_ge {l : List It} {n : Nat} {p : It → Prop} (h : ∀ (j : Nat) (hj : j < l.length), n ≤ j → p l[j]) : ∀ x ∈ l.drop n, p x := by
  intro x hx
  obtain ⟨j, hj, rfl⟩ := List.getElem_of_mem hx
  rw [List.length_drop] at hj
  rw [List.getElem_drop]
  exact h _ (by omega) (by omega)
/-- What the search has found out when it stops. -/
def Cut (l : List It) (t : Int) (k : ByteArray) (lo hi : Nat) : Prop := (∀ (j : Nat) (hj : j < l.length), j < lo → ltB l[j].t l[j].k t k = true) ∧ (∀ (j : Nat) (hj : j < l.length), hi ≤ j → ltB l[j].t l[j].k t k = false)
theorem Cut.low {l : List It} {t : Int} {k : ByteArray} {lo hi m : Nat} (hs : Sorted l) (h : Cut l t k lo hi) (hm : m < l.length) (hl : ltB l[m].t l[m].k t k = true) : Cut l t k (m + 1) hi := by
  refine ⟨fun j hj hjm => ?_, h.2⟩
  rcases Nat.lt_or_eq_of_le (Nat.lt_succ_iff.1 hjm) with h1 | h1
  · exact ltB_trans (List.pairwise_iff_getElem.1 hs j m hj hm h1) hl
  · subst h1; exact hl
theorem Cut.high {l : List It} {t : Int} {k : ByteArray} {lo hi m : Nat} (hs : Sorted l) (h : Cut l t k lo hi) (hm : m < l.length) (hl : ltB l[m].t l[m].k t k = false) : Cut l t k lo m := by
  refine ⟨h.1, fun j hj hjm => ?_⟩
  rcases Nat.lt_or_eq_of_le hjm with h1 | h1
  · rw [Bool.eq_false_iff]
    intro h2
    have := ltB_trans (List.pairwise_iff_getElem.1 hs m j hm hj h1) h2
    rw [hl] at this; cases this
  · subst h1; exact hl
theorem Cut.len {l : List It} {t : Int} {k : ByteArray} {i : Nat} (h : Cut l t k i i) (hi : i ≤ l.length) : (lows l t k).length = i := lows_len hi (take_lt h.1) (drop_ge h.2)
theorem Cut.has_at {l : List It} {t : Int} {k : ByteArray} {i : Nat} (hs : Sorted l) (h : Cut l t k i i) (hi : i < l.length) : has l t k = eqB l[i].t l[i].k t k := by
  have hl := h.len (by omega)
  rcases cut_has hs t k with ⟨h1, x, hx, he⟩ | ⟨h1, he⟩
  · rw [h1]
    have : l[i] = x := by
      have e2 : l[i]? = some x := by
        rw [show l[i]? = (lows l t k ++ x :: highs l t k)[i]? from by rw [← he], List.getElem?_append_right (by omega), hl, Nat.sub_self]
        rfl
      rw [List.getElem?_eq_getElem hi] at e2
      exact Option.some.inj e2
    rw [this, hx]
  · rw [h1]
    have hm : l[i] ∈ highs l t k := by
      have e2 : l[i]? = (highs l t k)[0]? := by
        rw [show l[i]? = (lows l t k ++ highs l t k)[i]? from by rw [← he], List.getElem?_append_right (by omega), hl, Nat.sub_self]
      rw [List.getElem?_eq_getElem hi] at e2
      exact List.mem_of_getElem? e2.symm
    have := (List.mem_filter.1 hm).2
    rw [eqB_comm, ltB_not_eq this]
theorem Cut.has_end {l : List It} {t : Int} {k : ByteArray} {i : Nat} (h : Cut l t k i i) (hi : l.length ≤ i) : has l t k = false := by
  unfold has
  rw [List.any_eq_false]
  intro x hx
  obtain ⟨j, hj, rfl⟩ := List.getElem_of_mem hx
  rw [ltB_not_eq (h.1 j hj (by omega))]
  simp

set_option maxHeartbeats 4000000 in
theorem search_any (w0 w : World) (R : HP) (v : Value) (l : List It) (t : Int) (k kv : ByteArray) (hs : Sorted l) (hn : l.length ≤ 1000) (h : At w0 (row 31 5 v l.length (its l) * R) w) :
    Calls Try.prog 24 #[v, .agg #[.int .i64 t, .string k, .string kv], .func (.func 25) #[] #[]] w fun e w' =>
      e = .returned (.tuple #[.int .i64 (lows l t k).length, .bool (has l t k)]) ∧ At w0 (row 31 5 v l.length (its l) * R) w' := by
  obtain ⟨a, cap, rfl⟩ := h.row_len
  have h1 := h.alloc (.cells #[.int .i64 t, .string k, .string kv] 29)
  go_enter Try.func24, Try.ntmps24
  go_wp2
  obtain ⟨B, hB⟩ : ∃ B, w.heap.size = B := ⟨_, rfl⟩
  rw [hB] at h1 ⊢
  clear hB
  go_loopw [9, 10] (fun s9 s10 wr => ∃ lo hi : Nat, s9 = .int .i64 lo ∧ s10 = .int .i64 hi ∧ lo ≤ hi ∧ hi ≤ l.length ∧ Cut l t k lo hi ∧
    At w0 (cel B #[.int .i64 t, .string k, .string kv] 29 * (row 31 5 (.slice a l.length cap) l.length (its l) * R)) wr) (fun s9 s10 _ => (intOf s10).toNat - (intOf s9).toNat)
  case atStart => exact ⟨0, l.length, rfl, rfl, Nat.zero_le _, Nat.le_refl _, ⟨fun j hj hj0 => absurd hj0 (Nat.not_lt_zero _), fun j hj hj1 => absurd hj (by omega)⟩, h1⟩
  case round =>
    obtain ⟨lo, hi, rfl, rfl, hlh, hhn, hcut, h2⟩ := hrel
    clear h1
    have Hcut := hide hcut
    clear hcut
    have hb0 := At.cell (i := 0) h2 rfl
    have hb1 := At.cell (i := 1) h2 rfl
    have hb2 := At.cell (i := 2) h2 rfl
    have hbl := At.lt h2
    by_cases hlt : lo < hi
    · obtain ⟨m, hm⟩ : ∃ m, (lo + hi) / 2 = m := ⟨_, rfl⟩
      have hml : lo ≤ m := by omega
      have hmh : m < hi := by omega
      have hmn : m < l.length := by omega
      obtain ⟨g, cp, he, hle, hcell⟩ := h2.pull2.row_ptr (by omega)
      cases he
      obtain ⟨e0, e1, e2, e3, e4⟩ := its_five hmn
      have c0 := hcell _ _ e0
      have c1 := hcell _ _ e1
      have c2 := hcell _ _ e2
      have c3 := hcell _ _ e3
      have c4 := hcell _ _ e4
      clear hcell e0 e1 e2 e3 e4
      obtain ⟨x, hx⟩ : ∃ x, l[m] = x := ⟨_, rfl⟩
      rw [hx] at c0 c1 c2 c3 c4
      have Hx := hide hx
      have hm2 : ((lo : Int) + (hi : Int)) / 2 = (m : Int) := by omega
      have Hm := hide hm
      clear hm hx
      have hcmp := cmp_any w0 _ _ x t k kv h2.drew
      go_wp2_with fail
      refine wp_region_line [0, 1, 2, 3, 4, 5, 6, 7] rfl (by kernel_rfl) ?_
      simp only [picks_cons, picks_nil, getD_zero, getD_succ]
      go_wp2_with fail
      refine hcmp.mono ?_
      rintro e w3 ⟨rfl, h3⟩
      clear h2 hcmp c0 c1 c2 c3 c4 hb0 hb1 hb2
      by_cases hlx : ltB x.t x.k t k = true
      · have hneg : cmpI x t k < 0 := (cmpI_neg x t k).2 hlx
        have Hlx := hide hlx
        clear hlx
        go_wp2_with fail
        refine ⟨by kernel_rfl, ?_⟩
        go_wp2_with fail
        go_roundw
        case rel => exact ⟨m + 1, hi, by go_num, rfl, by omega, hhn, Cut.low hs Hcut.out hmn (by rw [Hx.out]; exact Hlx.out), h3⟩
        case measure => simp [intOf]; omega
      · have hneg : 0 ≤ cmpI x t k := by
          have := cmpI_neg x t k
          by_cases h0 : cmpI x t k < 0
          · exact absurd (this.1 h0) hlx
          · omega
        have Hlx := hide hlx
        clear hlx
        go_wp2_with fail
        refine ⟨by kernel_rfl, ?_⟩
        go_wp2_with fail
        go_roundw
        case rel => exact ⟨lo, m, rfl, rfl, by omega, by omega, Cut.high hs Hcut.out hmn (by rw [Hx.out]; exact Bool.eq_false_iff.2 Hlx.out), h3⟩
        case measure => simp [intOf]; omega
    · obtain rfl : lo = hi := by omega
      have Hlen := hide (Hcut.out.len hhn)
      by_cases hin : lo < l.length
      · obtain ⟨g, cp, he, hle, hcell⟩ := h2.pull2.row_ptr (by omega)
        cases he
        obtain ⟨e0, e1, e2, e3, e4⟩ := its_five hin
        have c0 := hcell _ _ e0
        have c1 := hcell _ _ e1
        have c2 := hcell _ _ e2
        have c3 := hcell _ _ e3
        have c4 := hcell _ _ e4
        clear hcell e0 e1 e2 e3 e4
        have Hhas := hide (Hcut.out.has_at hs hin)
        obtain ⟨x, hx⟩ : ∃ x, l[lo] = x := ⟨_, rfl⟩
        rw [hx] at c0 c1 c2 c3 c4
        have Hx := hide hx
        clear hx
        have hcmp := cmp_any w0 _ _ x t k kv h2.drew
        go_wp2_with fail
        refine wp_region_line [0, 1, 2, 3, 4, 5, 6, 7, 8, 9, 10, 11, 12, 13, 14, 15] rfl (by kernel_rfl) ?_
        simp only [picks_cons, picks_nil, getD_zero, getD_succ]
        go_wp2_with fail
        refine hcmp.mono ?_
        rintro e w3 ⟨rfl, h3⟩
        clear h2 hcmp c0 c1 c2 c3 c4 hb0 hb1 hb2
        have hz := cmpI_zero x t k
        by_cases hq : eqB x.t x.k t k = true
        · have hz0 := hz.2 hq
          have Hq := hide hq
          rw [hz0]
          clear hz hq hz0
          go_wp2_with fail
          refine ⟨by kernel_rfl, ?_⟩
          go_wp2_with fail
          go_ret2
          exact ⟨by rw [Hlen.out, Hhas.out, Hx.out, Hq.out]; rfl, h3.r⟩
        · have hz0 : (cmpI x t k == 0) = false := by rw [beq_eq_false_iff_ne]; exact fun h => hq (hz.1 h)
          have Hq := hide hq
          clear hz hq
          go_wp2_with fail
          refine ⟨by kernel_rfl, ?_⟩
          go_wp2_with fail
          go_ret2
          exact ⟨by rw [Hlen.out, Hhas.out, Hx.out, Bool.eq_false_iff.2 Hq.out]; rfl, h3.r⟩
      · have Hhas := hide (Hcut.out.has_end (by omega))
        go_wp2_with fail
        refine wp_region_line [0, 1, 2, 3, 4, 5, 6, 7, 8, 9, 10, 11, 12, 13, 14, 15] rfl (by kernel_rfl) ?_
        simp only [picks_cons, picks_nil, getD_zero, getD_succ]
        go_wp2_with fail
        refine ⟨by kernel_rfl, ?_⟩
        go_wp2_with fail
        go_ret2
        exact ⟨by rw [Hlen.out, Hhas.out]; rfl, h2.drew.r⟩

/-- An index. -/
def ixb (b : Nat) (l : List It) : HP := hex fun v => cel b #[v] 27 * row 31 5 v l.length (its l)
section
variable {w0 w : World} {R : HP} {b : Nat} {l : List It} {v : Value}
theorem At.ixb_open (h : At w0 (ixb b l * R) w) : ∃ v, At w0 (cel b #[v] 27 * (row 31 5 v l.length (its l) * R)) w := by
  obtain ⟨v, h⟩ := h.exl
  exact ⟨v, h.assoc⟩
theorem At.ixb_shut (h : At w0 (cel b #[v] 27 * (row 31 5 v l.length (its l) * R)) w) : At w0 (ixb b l * R) w := At.mkex v h.assoc'
theorem At.ixb_new (h : At w0 (cel b #[.slice none 0 0] 27 * R) w) : At w0 (ixb b [] * R) w :=
  At.ixb_shut (v := .slice none 0 0) (h.cast (by
    show _ = cel b _ _ * (row _ 5 (.slice none 0 0) 0 [] * R)
    rw [Go.Proofs.Ytghlbhnpgbhllaa.row_nil, HP.one_mul]))
end

set_option maxHeartbeats 1000000 in
theorem at_any (w0 w : World) (R : HP) (b : Nat) (l : List It) (t : Int) (k kv : ByteArray) (hs : Sorted l) (hn : l.length ≤ 1000) (h : At w0 (ixb b l * R) w) :
    Calls Try.prog 20 #[.pointer (some ⟨b, 0, none⟩), .agg #[.int .i64 t, .string k, .string kv]] w fun e w' =>
      e = .returned (.tuple #[.int .i64 (lows l t k).length, .bool (has l t k)]) ∧ At w0 (ixb b l * R) w' := by
  obtain ⟨v, h1⟩ := h.ixb_open
  have h2 := h1.alloc (.cells #[.int .i64 t, .string k, .string kv] 29)
  have hc := At.cell (i := 0) h2.pull2 rfl
  have hlt := At.lt h1
  have hs2 := search_any w0 _ _ v l t k kv hs hn h2.pull3.drew
  obtain ⟨a, cap, rfl⟩ := h1.pull2.row_len
  go_enter Try.func20, Try.ntmps20
  go_wp2_with fail
  refine wp_region_line [0, 1, 2, 3, 4, 5, 6, 7, 8, 9] rfl (by kernel_rfl) ?_
  simp only [picks_cons, picks_nil, getD_zero, getD_succ]
  go_wp2_with fail
  refine hs2.mono ?_
  rintro e w3 ⟨rfl, h3⟩
  go_wp2_with fail
  refine ⟨by kernel_rfl, ?_⟩
  go_wp2_with fail
  go_ret2
  exact ⟨rfl, h3.pull2.r.pull2.ixb_shut⟩

theorem len_any (w0 w : World) (R : HP) (b : Nat) (l : List It) (h : At w0 (ixb b l * R) w) :
    Calls Try.prog 18 #[.pointer (some ⟨b, 0, none⟩)] w fun e w' => e = .returned (.int .i64 l.length) ∧ w = w' := by
  obtain ⟨v, h⟩ := h.ixb_open
  have hc0 := At.cell (i := 0) (v := v) h rfl
  obtain ⟨a, cap, rfl⟩ := h.pull2.row_len
  clear h
  go_enter Try.func18, Try.ntmps18
  go_wp2
  go_ret
  exact ⟨rfl, rfl⟩
theorem len_nil (w : World) : Calls Try.prog 18 #[.pointer none] w fun e w' => e = .returned (.int .i64 0) ∧ w = w' := by
  go_enter Try.func18, Try.ntmps18
  go_wp2
  go_ret
  exact ⟨rfl, rfl⟩

def It.agg (i : It) : Value := .agg #[.int .i64 i.t, .string i.k, .string i.v, .int .i64 i.p, .int .i64 i.s]
set_option maxHeartbeats 1000000 in
theorem find_yes (w0 w : World) (R : HP) (b : Nat) (l : List It) (t : Int) (k : ByteArray) (x : It) (hs : Sorted l) (hn : l.length ≤ 1000) (hx : fnd l t k = some x) (h : At w0 (ixb b l * R) w) :
    Calls Try.prog 17 #[.pointer (some ⟨b, 0, none⟩), .int .i64 t, .string k] w fun e w' => e = .returned (.tuple #[x.agg, .bool true]) ∧ At w0 (ixb b l * R) w' := by
  have hh : has l t k = true := has_iff.2 ⟨x, (fnd_iff hs).1 hx⟩
  have hat := at_any w0 _ _ b l t k ⟨#[]⟩ hs hn (h.alloc (.cells #[.int .i64 0, .string ⟨#[]⟩, .string ⟨#[]⟩, .int .i64 0, .int .i64 0] 31)).pull2
  rw [hh] at hat
  have hlt := (put_has (i := ⟨t, k, ⟨#[]⟩, 0, 0⟩) hs hh).2
  obtain ⟨y, hy, hfy, _⟩ := fnd_has hs hh
  rw [hx] at hfy
  cases hfy
  simp only at hlt
  generalize (lows l t k).length = m at *
  have hlx : l[m] = x := by rw [List.getElem?_eq_getElem hlt] at hy; exact Option.some.inj hy
  obtain ⟨e0, e1, e2, e3, e4⟩ := its_five hlt
  rw [hlx] at e0 e1 e2 e3 e4
  clear hy hx hlx hh
  go_enter Try.func17, Try.ntmps17
  go_wp2_with fail
  refine hat.mono ?_
  rintro e w1 ⟨rfl, h1⟩
  obtain ⟨v, h2⟩ := h1.ixb_open
  obtain ⟨g, cp, rfl, hle, hcell⟩ := h2.pull2.row_ptr (by omega)
  have c0 := hcell _ _ e0
  have c1 := hcell _ _ e1
  have c2 := hcell _ _ e2
  have c3 := hcell _ _ e3
  have c4 := hcell _ _ e4
  have hc0 := At.cell (i := 0) h2 rfl
  have hf := At.frz h2.pull3
  have hb0 := At.cell (i := 0) h2.pull3 rfl
  have hb1 := At.cell (i := 1) h2.pull3 rfl
  have hb2 := At.cell (i := 2) h2.pull3 rfl
  have hb3 := At.cell (i := 3) h2.pull3 rfl
  have hb4 := At.cell (i := 4) h2.pull3 rfl
  have hlb := At.lt h2.pull3
  have hne : w.heap.size ≠ g := At.row_ne h2.pull2.pull3
  clear hcell e0 e1 e2 e3 e4 hat
  go_wp2_with fail
  refine bodyPost_ret (v := .tuple #[x.agg, .bool true]) (by simp [results, Try.results17, go_sem, It.agg, hb0, hb1, hb2, hb3, hb4]) rfl ⟨rfl, ?_⟩
  have h3 := ((((h2.pull3.set 0 (.int .i64 x.t)).set 1 (.string x.k)).set 2 (.string x.v)).set 3 (.int .i64 x.p)).set 4 (.int .i64 x.s)
  exact h3.r.ixb_shut

set_option maxHeartbeats 1000000 in
theorem find_no (w0 w : World) (R : HP) (b : Nat) (l : List It) (t : Int) (k : ByteArray) (hs : Sorted l) (hn : l.length ≤ 1000) (hx : has l t k = false) (h : At w0 (ixb b l * R) w) :
    Calls Try.prog 17 #[.pointer (some ⟨b, 0, none⟩), .int .i64 t, .string k] w fun e w' => e = .returned (.tuple #[zeroIt.agg, .bool false]) ∧ At w0 (ixb b l * R) w' := by
  have hat := at_any w0 _ _ b l t k ⟨#[]⟩ hs hn (h.alloc (.cells #[.int .i64 0, .string ⟨#[]⟩, .string ⟨#[]⟩, .int .i64 0, .int .i64 0] 31)).pull2
  rw [hx] at hat
  generalize (lows l t k).length = m at *
  clear hx
  go_enter Try.func17, Try.ntmps17
  go_wp2_with fail
  refine hat.mono ?_
  rintro e w1 ⟨rfl, h1⟩
  have hf := At.frz h1.pull2
  have hb0 := At.cell (i := 0) h1.pull2 rfl
  have hb1 := At.cell (i := 1) h1.pull2 rfl
  have hb2 := At.cell (i := 2) h1.pull2 rfl
  have hb3 := At.cell (i := 3) h1.pull2 rfl
  have hb4 := At.cell (i := 4) h1.pull2 rfl
  have hlb := At.lt h1.pull2
  clear hat
  go_wp2_with fail
  refine bodyPost_ret (v := .tuple #[zeroIt.agg, .bool false]) (by simp [results, Try.results17, go_sem, It.agg, zeroIt, hb0, hb1, hb2, hb3, hb4]) rfl ⟨rfl, ?_⟩
  have h3 := ((((h1.pull2.set 0 (.int .i64 0)).set 1 (.string ⟨#[]⟩)).set 2 (.string ⟨#[]⟩)).set 3 (.int .i64 0)).set 4 (.int .i64 0)
  exact h3.r
theorem find_nil (w : World) (t : Int) (k : ByteArray) (w0 : World) (A : HP) (h : At w0 A w) :
    Calls Try.prog 17 #[.pointer none, .int .i64 t, .string k] w fun e w' => e = .returned (.tuple #[zeroIt.agg, .bool false]) ∧ At w0 A w' := by
  have h1 := (h.alloc (.cells #[.int .i64 0, .string ⟨#[]⟩, .string ⟨#[]⟩, .int .i64 0, .int .i64 0] 31))
  go_enter Try.func17, Try.ntmps17
  go_wp2_with fail
  refine bodyPost_ret (v := .tuple #[zeroIt.agg, .bool false]) (by simp [results, Try.results17, go_sem, It.agg, zeroIt]) rfl ⟨rfl, ?_⟩
  exact h1.r

end Go.Proofs.Ytghlbhnpgbhllaa
