/-
  Put and Remove of an index, in terms of blocks: contracts, no statement.
-/
import Derived.Test.YtghlbhnpgbhllaaIs
namespace Go.Proofs.Ytghlbhnpgbhllaa
open Go Go.RowKit

theorem set5 (L : List Value) (o : Nat) (a0 a1 a2 a3 a4 : Value) (ho : o + 5 ≤ L.length) :
    ((((L.set o a0).set (o + 1) a1).set (o + 2) a2).set (o + 3) a3).set (o + 4) a4 = over L o [a0, a1, a2, a3, a4] := by
  apply List.ext_getElem?
  intro j
  rw [over_get (by omega)]
  simp only [List.getElem?_set, List.length_set, List.length_cons, List.length_nil]
  by_cases h1 : j < o
  · have e0 : ¬ o = j := by omega
    have e1 : ¬ o + 1 = j := by omega
    have e2 : ¬ o + 2 = j := by omega
    have e3 : ¬ o + 3 = j := by omega
    have e4 : ¬ o + 4 = j := by omega
    simp [h1, e0, e1, e2, e3, e4]
  · by_cases h2 : j < o + 5
    · have : j = o ∨ j = o + 1 ∨ j = o + 2 ∨ j = o + 3 ∨ j = o + 4 := by omega
      rcases this with rfl | rfl | rfl | rfl | rfl
      · have e : j < L.length := by omega
        simp [e]
      · have e : o + 1 < L.length := by omega
        simp [e]
        intro h; omega
      · have e : o + 2 < L.length := by omega
        simp [e]
        intro h; omega
      · have e : o + 3 < L.length := by omega
        simp [e]
        intro h; omega
      · have e : o + 4 < L.length := by omega
        simp [e]
        intro h; omega
    · have e0 : ¬ o = j := by omega
      have e1 : ¬ o + 1 = j := by omega
      have e2 : ¬ o + 2 = j := by omega
      have e3 : ¬ o + 3 = j := by omega
      have e4 : ¬ o + 4 = j := by omega
      simp [h1, h2, e0, e1, e2, e3, e4]
theorem over_take {L : List Value} {o n : Nat} {cs : List Value} (h : o + cs.length ≤ n) (hn : n ≤ L.length) : (over L o cs).take n = over (L.take n) o cs := by
  apply List.ext_getElem?
  intro j
  rw [List.getElem?_take, over_get (by omega), over_get (by rw [List.length_take]; omega), List.getElem?_take]
  by_cases h1 : j < n
  · simp [h1]
  · have e1 : ¬ j < o := by omega
    have e2 : ¬ j < o + cs.length := by omega
    simp [h1, e1, e2]
theorem its_set {l : List It} {p : Nat} (i : It) (hp : p < l.length) : its (l.set p i) = over (its l) (p * 5) i.cells := by
  unfold over
  rw [its_take, show p * 5 + i.cells.length = (p + 1) * 5 by show p * 5 + 5 = _; omega, its_drop, List.set_eq_take_append_cons_drop, if_pos hp, its_append, its_cons, List.append_assoc]

set_option maxHeartbeats 4000000 in
theorem put_any (w0 w : World) (R : HP) (b : Nat) (l : List It) (i : It) (hs : Sorted l) (hn : l.length ≤ 900) (h : At w0 (ixb b l * R) w) :
    Calls Try.prog 12 #[.pointer (some ⟨b, 0, none⟩), .agg #[.int .i64 i.t, .string i.k, .string i.v, .int .i64 i.p, .int .i64 i.s]] w fun e w' => e = .returned (.tuple #[]) ∧ At w0 (ixb b (put l i) * R) w' := by
  have hat := at_any w0 _ _ b l i.t i.k i.v hs (by omega) (h.alloc (.cells #[.int .i64 i.t, .string i.k, .string i.v, .int .i64 i.p, .int .i64 i.s] 31)).pull2
  have hle := lows_le l i.t i.k
  cases hh : has l i.t i.k with
  | true =>
    obtain ⟨hset, hlt⟩ := put_has (i := i) hs hh
    rw [hh] at hat
    rw [← hset]
    clear hset hh
    generalize (lows l i.t i.k).length = m at *
    go_enter Try.func12, Try.ntmps12
    go_wp2_with fail
    refine hat.mono ?_
    rintro e w1 ⟨rfl, h1⟩
    obtain ⟨v, h2⟩ := h1.ixb_open
    rcases h2.pull2.row_cases.2 with ⟨_, h0, _⟩ | ⟨g, cap, cur, rfl, hlc, hcm, hcs, htake, h3⟩
    · omega
    have hc0 := At.cell (i := 0) h2 rfl
    have hbl := At.lt h2
    have hb0 := At.cell (i := 0) h2.pull3 rfl
    have hb1 := At.cell (i := 1) h2.pull3 rfl
    have hb2 := At.cell (i := 2) h2.pull3 rfl
    have hb3 := At.cell (i := 3) h2.pull3 rfl
    have hb4 := At.cell (i := 4) h2.pull3 rfl
    have hf := At.frz h3
    have hgl := At.lt h3
    have hg0 := (h3.cells (m * 5)).trans (Array.getElem?_eq_getElem (by omega))
    have hg1 := (h3.cells (m * 5 + 1)).trans (Array.getElem?_eq_getElem (by omega))
    have hg2 := (h3.cells (m * 5 + 2)).trans (Array.getElem?_eq_getElem (by omega))
    have hg3 := (h3.cells (m * 5 + 3)).trans (Array.getElem?_eq_getElem (by omega))
    have hg4 := (h3.cells (m * 5 + 4)).trans (Array.getElem?_eq_getElem (by omega))
    have hn1 : w.heap.size ≠ g := At.ne (o' := .cells cur 31) h3.pull3
    clear hat h1
    go_wp2_with fail
    refine wp_region_line [0, 1, 2, 3, 4, 5, 6, 7] rfl (by kernel_rfl) ?_
    simp only [picks_cons, picks_nil, getD_zero, getD_succ]
    go_wp2_with fail
    refine ⟨by kernel_rfl, ?_⟩
    go_wp2_with fail
    go_end0
    refine ⟨rfl, ?_⟩
    have h4 := (((((h3.drew.set (m * 5) (.int .i64 i.t)).set (m * 5 + 1) (.string i.k)).set (m * 5 + 2) (.string i.v)).set (m * 5 + 3) (.int .i64 i.p)).set (m * 5 + 4) (.int .i64 i.s))
    refine At.ixb_shut (v := .slice (some ⟨g, 0, none⟩) l.length cap) ?_
    rw [List.length_set]
    refine (At.mkrow (n := l.length) (xs := its (l.set m i)) h4 hlc hcm (by simp [hcs]) ?_).pull3.r.pull2
    have hlen : (its l).length = l.length * 5 := its_length l
    have hcl : cur.toList.length = cap * 5 := by rw [Array.length_toList, hcs]
    simp only [Array.toList_setIfInBounds]
    rw [set5 _ _ _ _ _ _ _ (by omega), its_set i hlt, ← htake]
    exact over_take (by show m * 5 + 5 ≤ _; omega) (by omega)
  | false =>
    have hnew := put_new (i := i) hs hh
    rw [hh] at hat
    rw [← hnew]
    clear hnew hh
    generalize (lows l i.t i.k).length = m at *
    go_enter Try.func12, Try.ntmps12
    go_wp2_with fail
    refine hat.mono ?_
    rintro e w1 ⟨rfl, h1⟩
    obtain ⟨v, h2⟩ := h1.ixb_open
    have hc0 := At.cell (i := 0) h2 rfl
    have hbl := At.lt h2
    have hb0 := At.cell (i := 0) h2.pull3 rfl
    have hb1 := At.cell (i := 1) h2.pull3 rfl
    have hb2 := At.cell (i := 2) h2.pull3 rfl
    have hb3 := At.cell (i := 3) h2.pull3 rfl
    have hb4 := At.cell (i := 4) h2.pull3 rfl
    have h3 := (h2.drew.alloc' (show _ = w1.heap.size by simp) (.cells #[.int .i64 i.t, .string i.k, .string i.v, .int .i64 i.p, .int .i64 i.s] 31)).pull3
    have hin := insert_any w0 _ _ v l i m w1.heap.size (by omega) hle (h3.cast (show _ = row 31 5 v l.length (its l) * (cel w1.heap.size _ _ * (cel b #[v] 27 * (cel w.heap.size _ _ * R))) by rfl))
    obtain ⟨a, cap, rfl⟩ := h2.pull2.row_len
    clear hat h1
    go_wp2_with fail
    refine wp_region_line [0, 1, 2, 3, 4, 5, 6, 7, 8, 9, 10, 11] rfl (by kernel_rfl) ?_
    simp only [picks_cons, picks_nil, getD_zero, getD_succ]
    go_wp2_with fail
    refine hin.mono ?_
    rintro e w4 ⟨a4, c4, rfl, h4⟩
    have hd0 := At.cell (i := 0) h4.pull3 rfl
    have hdf := At.frz h4.pull3
    have hdl := At.lt h4.pull3
    clear hin hc0 hb0 hb1 hb2 hb3 hb4 hbl
    go_wp2_with fail
    refine ⟨by kernel_rfl, ?_⟩
    go_wp2_with fail
    go_end0
    refine ⟨rfl, At.ixb_shut (v := .slice a4 (l.length + 1) c4) ?_⟩
    have h5 := h4.pull3.set' (d := #[.slice a4 (l.length + 1) c4]) 0 (.slice a4 (l.length + 1) c4) rfl
    have hlen : (List.take m l ++ i :: List.drop m l).length = l.length + 1 := by simp; omega
    rw [hlen]
    exact h5.pull3.r.pull3.r
theorem put_nil (w0 w : World) (A : HP) (i : It) (h : At w0 A w) :
    Calls Try.prog 12 #[.pointer none, .agg #[.int .i64 i.t, .string i.k, .string i.v, .int .i64 i.p, .int .i64 i.s]] w fun e w' => e = .returned (.tuple #[]) ∧ At w0 A w' := by
  have h1 := h.alloc (.cells #[.int .i64 i.t, .string i.k, .string i.v, .int .i64 i.p, .int .i64 i.s] 31)
  go_enter Try.func12, Try.ntmps12
  go_wp2
  refine bodyPost_ret (results_none rfl _ _ _) rfl ?_
  exact ⟨rfl, h1.r⟩
theorem remove_nil (w : World) (t : Int) (k : ByteArray) :
    Calls Try.prog 19 #[.pointer none, .int .i64 t, .string k] w fun e w' => e = .returned (.tuple #[]) ∧ w = w' := by
  go_enter Try.func19, Try.ntmps19
  go_wp2
  refine bodyPost_ret (results_none rfl _ _ _) rfl ?_
  exact ⟨rfl, rfl⟩

set_option maxHeartbeats 4000000 in
theorem remove_any (w0 w : World) (R : HP) (b : Nat) (l : List It) (t : Int) (k : ByteArray) (hs : Sorted l) (hn : l.length ≤ 900) (h : At w0 (ixb b l * R) w) :
    Calls Try.prog 19 #[.pointer (some ⟨b, 0, none⟩), .int .i64 t, .string k] w fun e w' => e = .returned (.tuple #[]) ∧ At w0 (ixb b (del l t k) * R) w' := by
  have hat := at_any w0 _ _ b l t k ⟨#[]⟩ hs (by omega) h
  have hle := lows_le l t k
  cases hh : has l t k with
  | true =>
    obtain ⟨hdel, hlt⟩ := del_has hs hh
    rw [hh] at hat
    rw [← hdel]
    clear hdel hh
    generalize (lows l t k).length = m at *
    go_enter Try.func19, Try.ntmps19
    go_wp2_with fail
    refine hat.mono ?_
    rintro e w1 ⟨rfl, h1⟩
    obtain ⟨v, h2⟩ := h1.ixb_open
    obtain ⟨d, hd⟩ : ∃ d, l.length = d + 1 := ⟨l.length - 1, by omega⟩
    rw [hd] at h2
    obtain ⟨g, cap, rfl, hcap, _⟩ := h2.pull2.row_ptr (by omega)
    have hc0 := At.cell (i := 0) h2 rfl
    have hdl := delete_any w0 _ _ g l m d cap hd (by omega) (by omega) h2.pull2
    have hlen : (List.take m l ++ List.drop (m + 1) l).length = d := by simp; omega
    have Hlen := hide hlen
    clear hat h1 hd hlen
    go_wp2_with fail
    refine hdl.mono ?_
    rintro e w4 ⟨rfl, h4⟩
    have hd0 := At.cell (i := 0) h4.pull2 rfl
    have hdf := At.frz h4.pull2
    have hdl2 := At.lt h4.pull2
    clear hdl hc0
    go_wp2_with fail
    go_end0
    refine ⟨rfl, At.ixb_shut (v := .slice (some ⟨g, 0, none⟩) d cap) ?_⟩
    rw [Hlen.out]
    exact h4.pull2.set' (d := #[.slice (some ⟨g, 0, none⟩) d cap]) 0 (.slice (some ⟨g, 0, none⟩) d cap) rfl
  | false =>
    rw [hh] at hat
    rw [del_none hh]
    clear hh
    generalize (lows l t k).length = m at *
    go_enter Try.func19, Try.ntmps19
    go_wp2_with fail
    refine hat.mono ?_
    rintro e w1 ⟨rfl, h1⟩
    clear hat
    go_wp2_with fail
    go_end0
    exact ⟨rfl, h1⟩
end Go.Proofs.Ytghlbhnpgbhllaa
