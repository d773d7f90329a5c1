/-
  The two iterators of an index, in terms of blocks: contracts, no statement.
-/
import Derived.Test.YtghlbhnpgbhllaaIq
import Derived.Test.YtghlbhnpgbhllaaRo
import Derived.RangeFuncBound
import Derived.Shelf.Abstract
import Derived.Shelf.RegionOpen
import Derived.OwnWalkIn
import Derived.TacticsInMore
import Derived.LoopNIn
import Derived.LoopIn
namespace Go.Proofs.Ytghlbhnpgbhllaa
open Go Go.RowKit Go.Shelf
attribute [local go_sem] Oper.semAt_some

def encIt (x : It) : Array Value := #[.agg #[.int .i64 x.t, .string x.k, .string x.v, .int .i64 x.p, .int .i64 x.s]]
theorem take_snoc {l : List It} {k : Nat} (hk : k < l.length) : l.take k ++ [l[k]] = l.take (k + 1) := by
  rw [List.take_succ_eq_append_getElem hk]

set_option maxHeartbeats 2000000 in
theorem all_on (w0 : World) (b : Nat) (l : List It) (hn : l.length ≤ 1000) :
    SeqOn Try.prog 16 #[.pointer (some ⟨b, 0, none⟩)] #[] encIt w0 (ixb b l) l := by
  intro n lp J S B W h0 hY
  refine callsIn_of_wp Try.func16 rfl trivial ?_ rfl
  simp only [Try.ntmps16, List.size_toArray, List.length_cons, List.length_nil, Nat.reduceAdd, Nat.reduceSub, Array.replicate_succ, Array.replicate_zero, List.push_toArray, List.append_toArray, List.nil_append, List.cons_append]
  gi_wp2
  gi_loopw [4] (fun i wr => ∃ k : Nat, k ≤ l.length ∧ i = .int .i64 k ∧ At w0 (ixb b l * (J (l.take k) * B)) wr)
    (fun i _ => l.length - (intOf i).toNat)
  case atStart => exact ⟨0, Nat.zero_le _, rfl, h0⟩
  case round =>
    obtain ⟨k, hk, rfl, hJ⟩ := hrel
    have hlen := len_any w0 _ _ b l hJ
    by_cases hkl : k < l.length
    · obtain ⟨v, h1⟩ := hJ.ixb_open
      obtain ⟨g, cp, rfl, hle, hcell⟩ := h1.pull2.row_ptr (by omega)
      obtain ⟨e0, e1, e2, e3, e4⟩ := its_five hkl
      have c0 := hcell _ _ e0
      have c1 := hcell _ _ e1
      have c2 := hcell _ _ e2
      have c3 := hcell _ _ e3
      have c4 := hcell _ _ e4
      have hc0 := At.cell (i := 0) h1 rfl
      obtain ⟨fn, tmps, assign, body, hy, hR⟩ := hY (n - 1) _ l[k] wr (by rw [take_snoc hkl]; exact List.take_prefix _ _) hJ
      have Hs := hide (take_snoc hkl)
      simp only [encIt] at hy
      obtain ⟨x, hx⟩ : ∃ x, l[k] = x := ⟨_, rfl⟩
      rw [hx] at c0 c1 c2 c3 c4 hy hR Hs
      clear hcell e0 e1 e2 e3 e4 hx h1 hY
      gi_wp2
      refine ⟨trivial, fun h => by simp [Fence.wide] at h, (callsIn_wide.2 hlen).mono ?_⟩
      rintro e w1 ⟨rfl, rfl⟩
      gi_wp2
      refine ⟨fun h => by simp [Fence.wide] at h, hR.mono ?_⟩
      rintro e W3 (⟨rfl, hJ3⟩ | ⟨rfl, hJ3⟩)
      · gi_wp2
        go_roundw
        case rel => exact ⟨k + 1, by omega, by go_num, by rw [← Hs.out]; exact hJ3⟩
        case measure => simp [intOf]; omega
      · gi_wp2
        refine bodyPost_ret (results_none rfl _ _ _) rfl ?_
        exact ⟨⟨_, rfl⟩, .inr hJ3⟩
    · obtain rfl : k = l.length := by omega
      gi_wp2
      refine ⟨trivial, fun h => by simp [Fence.wide] at h, (callsIn_wide.2 hlen).mono ?_⟩
      rintro e w1 ⟨rfl, rfl⟩
      gi_wp2
      rw [List.take_length] at hJ
      go_end0
      exact ⟨⟨_, rfl⟩, .inl hJ⟩

/-- What a scan hands out. -/
def leB (k to : ByteArray) : Bool := Op.bytesLess k.toList to.toList || k.toList == to.toList
def inB (t : Int) (to : ByteArray) (x : It) : Bool := x.t == t && leB x.k to
def scan (l : List It) (t : Int) (frm to : ByteArray) : List It := (l.drop (lows l t frm).length).takeWhile (inB t to)
/-- What a scan has caught. -/
def scb (b1 b2 b3 b4 : Nat) (b : Option Nat) (t : Int) (frm to : ByteArray) : HP :=
  cel b1 #[match b with | none => .pointer none | some b => .pointer (some ⟨b, 0, none⟩)] 48 * (cel b2 #[.int .i64 t] 3 * (cel b3 #[.string frm] 9 * cel b4 #[.string to] 9))

set_option maxHeartbeats 1000000 in
theorem scan_any (w0 w : World) (A : HP) (b : Option Nat) (t : Int) (frm to : ByteArray) (h : At w0 A w) :
    Calls Try.prog 13 #[match b with | none => .pointer none | some b => .pointer (some ⟨b, 0, none⟩), .int .i64 t, .string frm, .string to] w fun e w' =>
      ∃ b1 b2 b3 b4, e = .returned (.func (.func 22) #[] #[.pointer (some ⟨b1, 0, none⟩), .pointer (some ⟨b2, 0, none⟩), .pointer (some ⟨b3, 0, none⟩), .pointer (some ⟨b4, 0, none⟩)]) ∧ At w0 (scb b1 b2 b3 b4 b t frm to * A) w' := by
  cases b with
  | none =>
    go_enter Try.func13, Try.ntmps13
    go_wp2
    go_ret
    have h1 := (((h.alloc (.cells #[.pointer none] 48)).alloc' (show _ = w.heap.size + 1 by simp) (.cells #[.int .i64 t] 3)).alloc' (show _ = w.heap.size + 1 + 1 by simp) (.cells #[.string frm] 9)).alloc' (show _ = w.heap.size + 1 + 1 + 1 by simp) (.cells #[.string to] 9)
    exact ⟨w.heap.size, w.heap.size + 1, w.heap.size + 1 + 1, w.heap.size + 1 + 1 + 1, rfl, h1.cast (by unfold scb; show cel _ _ _ * (cel _ _ _ * (cel _ _ _ * (cel _ _ _ * A))) = _; ac_rfl)⟩
  | some b =>
    go_enter Try.func13, Try.ntmps13
    go_wp2
    go_ret
    have h1 := (((h.alloc (.cells #[.pointer (some ⟨b, 0, none⟩)] 48)).alloc' (show _ = w.heap.size + 1 by simp) (.cells #[.int .i64 t] 3)).alloc' (show _ = w.heap.size + 1 + 1 by simp) (.cells #[.string frm] 9)).alloc' (show _ = w.heap.size + 1 + 1 + 1 by simp) (.cells #[.string to] 9)
    exact ⟨w.heap.size, w.heap.size + 1, w.heap.size + 1 + 1, w.heap.size + 1 + 1 + 1, rfl, h1.cast (by unfold scb; show cel _ _ _ * (cel _ _ _ * (cel _ _ _ * (cel _ _ _ * A))) = _; ac_rfl)⟩

theorem scan_get {l : List It} {t : Int} {frm to : ByteArray} {j : Nat} (hj : j < (scan l t frm to).length) : ∃ h : (lows l t frm).length + j < l.length, (scan l t frm to)[j] = l[(lows l t frm).length + j] ∧ inB t to (l[(lows l t frm).length + j]) = true := by
  have hp : scan l t frm to <+: l.drop (lows l t frm).length := List.takeWhile_prefix _
  have hlen := hp.length_le
  rw [List.length_drop] at hlen
  have h1 := hp.getElem hj
  rw [List.getElem_drop] at h1
  refine ⟨by omega, h1, ?_⟩
  rw [← h1]
  have h2 : (scan l t frm to).all (inB t to) = true := List.all_takeWhile
  rw [List.all_eq_true] at h2
  exact h2 _ (List.getElem_mem hj)
theorem takeWhile_end {α : Type} {p : α → Bool} : ∀ {l : List α} (h : (l.takeWhile p).length < l.length), p (l[(l.takeWhile p).length]) = false
  | [], h => by simp at h
  | x :: l, h => by
    cases hp : p x with
    | false =>
      have e : (x :: l).takeWhile p = [] := by simp [hp]
      simp only [e, List.length_nil, List.getElem_cons_zero]
      exact hp
    | true =>
      have e : (x :: l).takeWhile p = x :: l.takeWhile p := by simp [hp]
      simp only [e, List.length_cons, List.getElem_cons_succ] at h ⊢
      exact takeWhile_end (by omega)
theorem scan_end {l : List It} {t : Int} {frm to : ByteArray} (h : (lows l t frm).length + (scan l t frm to).length < l.length) : inB t to (l[(lows l t frm).length + (scan l t frm to).length]) = false := by
  have h1 : ((l.drop (lows l t frm).length).takeWhile (inB t to)).length < (l.drop (lows l t frm).length).length := by
    rw [List.length_drop]
    change (scan l t frm to).length < _
    omega
  have := takeWhile_end h1
  rw [List.getElem_drop] at this
  exact this
theorem scan_len (l : List It) (t : Int) (frm to : ByteArray) : (lows l t frm).length + (scan l t frm to).length ≤ l.length := by
  have hp : scan l t frm to <+: l.drop (lows l t frm).length := List.takeWhile_prefix _
  have hlen := hp.length_le
  rw [List.length_drop] at hlen
  have := lows_le l t frm
  omega

set_option maxRecDepth 100000 in
set_option maxHeartbeats 8000000 in
theorem scan_on (w0 : World) (b b1 b2 b3 b4 : Nat) (l : List It) (t : Int) (frm to : ByteArray) (hs : Sorted l) (hn : l.length ≤ 1000) :
    SeqOn Try.prog 22 #[] #[.pointer (some ⟨b1, 0, none⟩), .pointer (some ⟨b2, 0, none⟩), .pointer (some ⟨b3, 0, none⟩), .pointer (some ⟨b4, 0, none⟩)] encIt w0 (scb b1 b2 b3 b4 (some b) t frm to * ixb b l) (scan l t frm to) := by
  intro n lp J S B W h0 hY
  have h1 := h0.cast (show _ = cel b1 #[.pointer (some ⟨b, 0, none⟩)] 48 * (cel b2 #[.int .i64 t] 3 * (cel b3 #[.string frm] 9 * (cel b4 #[.string to] 9 * (ixb b l * (J [] * B))))) by unfold scb; ac_rfl)
  have hat := at_any w0 _ _ b l t frm ⟨#[]⟩ hs hn (h1.cast (show _ = ixb b l * (cel b1 #[.pointer (some ⟨b, 0, none⟩)] 48 * (cel b2 #[.int .i64 t] 3 * (cel b3 #[.string frm] 9 * (cel b4 #[.string to] 9 * (J [] * B))))) by ac_rfl))
  have k1 := At.cell (i := 0) h1 rfl
  have k2 := At.cell (i := 0) h1.pull2 rfl
  have k3 := At.cell (i := 0) h1.pull3 rfl
  have k4 := At.cell (i := 0) h1.pull4 rfl
  refine callsIn_of_wp Try.func22 rfl trivial ?_ rfl
  simp only [Try.ntmps22, List.size_toArray, List.length_cons, List.length_nil, Nat.reduceAdd, Nat.reduceSub, Array.replicate_succ, Array.replicate_zero, List.push_toArray, List.append_toArray, List.nil_append, List.cons_append]
  gi_wp2
  refine ⟨trivial, fun h => by simp [Fence.wide] at h, (callsIn_wide.2 hat).mono ?_⟩
  rintro e w1 ⟨rfl, h2⟩
  have h3 := h2.cast (show _ = (scb b1 b2 b3 b4 (some b) t frm to * ixb b l) * (J [] * B) by unfold scb; ac_rfl)
  have Hg := hide (fun (j : Nat) (hj : j < (scan l t frm to).length) => scan_get hj)
  have Hen := hide (fun h => scan_end (l := l) (t := t) (frm := frm) (to := to) h)
  have hsl := scan_len l t frm to
  obtain ⟨m, hm⟩ : ∃ m, (lows l t frm).length = m := ⟨_, rfl⟩
  rw [hm] at hsl ⊢
  have Hm := hide hm
  clear hm hat h1 h2 k1 k2 k3 k4 h0
  gi_wp2
  gi_loopw [6] (fun i wr => ∃ q : Nat, m ≤ q ∧ q - m ≤ (scan l t frm to).length ∧ i = .int .i64 q ∧ At w0 ((scb b1 b2 b3 b4 (some b) t frm to * ixb b l) * (J ((scan l t frm to).take (q - m)) * B)) wr)
    (fun i _ => l.length - (intOf i).toNat)
  case atStart => exact ⟨m, Nat.le_refl _, by omega, rfl, by rw [Nat.sub_self]; exact h3⟩
  case round =>
    obtain ⟨q, hmq, hql, rfl, hJ⟩ := hrel
    clear h3
    have h1 := hJ.cast (show _ = cel b1 #[.pointer (some ⟨b, 0, none⟩)] 48 * (cel b2 #[.int .i64 t] 3 * (cel b3 #[.string frm] 9 * (cel b4 #[.string to] 9 * (ixb b l * (J ((scan l t frm to).take (q - m)) * B))))) by unfold scb; ac_rfl)
    have k1 := At.cell (i := 0) h1 rfl
    have k2 := At.cell (i := 0) h1.pull2 rfl
    have k4 := At.cell (i := 0) h1.pull4 rfl
    obtain ⟨v, h5⟩ := h1.pull5.ixb_open
    have hc0 := At.cell (i := 0) h5 rfl
    by_cases hlt : q < l.length
    · obtain ⟨g, cp, rfl, hle, hcell⟩ := h5.pull2.row_ptr (by omega)
      obtain ⟨e0, e1, e2, e3, e4⟩ := its_five hlt
      have c0 := hcell _ _ e0
      have c1 := hcell _ _ e1
      have c2 := hcell _ _ e2
      have c3 := hcell _ _ e3
      have c4 := hcell _ _ e4
      clear hcell e0 e1 e2 e3 e4
      by_cases hqx : q - m < (scan l t frm to).length
      · have hx0 := Hg.out (q - m) hqx
        rw [Hm.out] at hx0
        obtain ⟨hh, hxe, hxi⟩ := hx0
        have hqm : m + (q - m) = q := by omega
        simp only [hqm] at hxe hxi
        obtain ⟨fn, tmps, assign, body, hy, hR⟩ := hY (n - 1) _ (scan l t frm to)[q - m] wr.drew (by rw [← List.take_succ_eq_append_getElem hqx]; exact List.take_prefix _ _) hJ.drew
        have Hs := hide (List.take_succ_eq_append_getElem hqx)
        simp only [encIt] at hy
        obtain ⟨x, hx⟩ : ∃ x, l[q] = x := ⟨_, rfl⟩
        rw [hxe, hx] at hy hR Hs
        rw [hx] at c0 c1 c2 c3 c4 hxi
        unfold inB leB at hxi
        rw [Bool.and_eq_true] at hxi
        obtain ⟨hi1, hi2⟩ := hxi
        have hqm1 := hide hqm
        clear hx hxe hh hqm hY
        gi_wp2
        refine wpIn_wide.2 (wp_region_line [0, 1, 2, 3, 4, 5, 6, 7, 8, 9, 10, 11, 12, 13, 14, 15, 16, 17, 18, 19, 20, 21, 22, 23, 24, 25, 26, 27, 28, 29, 30, 31, 32] rfl (by kernel_rfl) ?_)
        simp only [picks_cons, picks_nil, getD_zero, getD_succ]
        go_wp2_with fail
        refine ⟨by kernel_rfl, ?_⟩
        gi_wp2
        refine ⟨fun h => by simp [Fence.wide] at h, hR.mono ?_⟩
        rintro e W3 (⟨rfl, hJ3⟩ | ⟨rfl, hJ3⟩)
        · gi_wp2
          go_roundw
          case rel => exact ⟨q + 1, by omega, by omega, by go_num, by rw [show q + 1 - m = q - m + 1 by omega, Hs.out]; exact hJ3⟩
          case measure => simp [intOf]; omega
        · gi_wp2
          refine bodyPost_ret (results_none rfl _ _ _) rfl ?_
          exact ⟨⟨_, rfl⟩, .inr hJ3⟩
      · have hqe : q - m = (scan l t frm to).length := by omega
        have hqm : m + (scan l t frm to).length = q := by omega
        have hx0 := Hen.out (by rw [Hm.out, hqm]; exact hlt)
        simp only [Hm.out, hqm] at hx0
        have Htk := hide (show (scan l t frm to).take (q - m) = scan l t frm to by rw [hqe, List.take_length])
        obtain ⟨x, hx⟩ : ∃ x, l[q] = x := ⟨_, rfl⟩
        rw [hx] at c0 c1 c2 c3 c4 hx0
        unfold inB leB at hx0
        clear hx hqe hqm hY hqx
        cases hxt : (x.t == t) with
        | false =>
          clear hx0
          gi_wp2
          refine wpIn_wide.2 (wp_region_line [0, 1, 2, 3, 4, 5, 6, 7, 8, 9, 10, 11, 12, 13, 14, 15, 16, 17, 18, 19, 20, 21, 22, 23, 24, 25, 26, 27, 28, 29, 30, 31, 32] rfl (by kernel_rfl) ?_)
          simp only [picks_cons, picks_nil, getD_zero, getD_succ]
          go_wp2_with fail
          refine ⟨by kernel_rfl, ?_⟩
          gi_wp2
          go_end0
          exact ⟨⟨_, rfl⟩, .inl (by have := hJ.drew; rwa [Htk.out] at this)⟩
        | true =>
          rw [hxt, Bool.true_and] at hx0
          gi_wp2
          refine wpIn_wide.2 (wp_region_line [0, 1, 2, 3, 4, 5, 6, 7, 8, 9, 10, 11, 12, 13, 14, 15, 16, 17, 18, 19, 20, 21, 22, 23, 24, 25, 26, 27, 28, 29, 30, 31, 32] rfl (by kernel_rfl) ?_)
          simp only [picks_cons, picks_nil, getD_zero, getD_succ]
          go_wp2_with fail
          refine ⟨by kernel_rfl, ?_⟩
          gi_wp2
          go_end0
          exact ⟨⟨_, rfl⟩, .inl (by have := hJ.drew; rwa [Htk.out] at this)⟩
    · have hql2 : q = l.length := by omega
      have Htk := hide (show (scan l t frm to).take (q - m) = scan l t frm to by rw [show q - m = (scan l t frm to).length by omega, List.take_length])
      obtain ⟨a5, c5, rfl⟩ := h5.pull2.row_len
      clear hY hql2
      gi_wp2
      refine wpIn_wide.2 (wp_region_line [0, 1, 2, 3, 4, 5, 6, 7, 8, 9, 10, 11, 12, 13, 14, 15, 16, 17, 18, 19, 20, 21, 22, 23, 24, 25, 26, 27, 28, 29, 30, 31, 32] rfl (by kernel_rfl) ?_)
      simp only [picks_cons, picks_nil, getD_zero, getD_succ]
      go_wp2_with fail
      refine ⟨by kernel_rfl, ?_⟩
      gi_wp2
      go_end0
      exact ⟨⟨_, rfl⟩, .inl (by have := hJ.drew; rwa [Htk.out] at this)⟩
end Go.Proofs.Ytghlbhnpgbhllaa
