/-
  What the law of scans wants, as plain lists. No program of Go's is spoken of.
-/
import Derived.Test.YtghlbhnpgbhllaaSt
namespace Go.Proofs.Ytghlbhnpgbhllaa
open Go Go.RowKit

def okB (t : Int) (frm to : ByteArray) (x : It) : Bool := x.t == t && (!Op.bytesLess x.k.toList frm.toList && leB x.k to)
theorem scan_ok {l : List It} (hs : Sorted l) (t : Int) (frm to : ByteArray) : scan l t frm to = l.filter (okB t frm to) := by
  rw [scan_filter hs]
  refine List.filter_congr fun x _ => ?_
  rw [Bool.eq_iff_iff, Bool.and_eq_true, inB_iff, okB, Bool.and_eq_true, Bool.and_eq_true, beq_iff_eq, leB_iff, Bool.not_eq_true', Bool.not_eq_true', bytesLess_lt, decide_eq_false_iff_not, Bool.eq_false_iff, ne_eq, ltB_iff]
  constructor
  · rintro ⟨h1, h2, h3⟩
    exact ⟨h2, fun h => h1 (.inr ⟨h2, h⟩), h3⟩
  · rintro ⟨h1, h2, h3⟩
    exact ⟨fun h => h.elim (fun h => by omega) fun h => h2 h.2, h1, h3⟩

def wnt (st : Int) (t : Int) (frm to : ByteArray) (l : List It) : List It := (l.filter (okB t frm to)).take st.toNat
theorem wnt_nil (st t : Int) (frm to : ByteArray) : wnt st t frm to [] = [] := by simp [wnt]
theorem wnt_len (st t : Int) (frm to : ByteArray) (l : List It) : (wnt st t frm to l).length ≤ l.length := by
  unfold wnt
  rw [List.length_take]
  have := List.length_filter_le (okB t frm to) l
  omega
theorem wnt_yes {st t : Int} {frm to : ByteArray} {l : List It} {i : Nat} (hi : i < l.length) (ho : okB t frm to l[i] = true) (hl : ((wnt st t frm to (l.take i)).length : Int) < st) :
    wnt st t frm to (l.take (i + 1)) = wnt st t frm to (l.take i) ++ [l[i]] := by
  unfold wnt at hl ⊢
  rw [List.length_take] at hl
  have e : (l.take (i + 1)).filter (okB t frm to) = (l.take i).filter (okB t frm to) ++ [l[i]] := by
    rw [List.take_succ_eq_append_getElem hi, List.filter_append, List.filter_cons_of_pos ho, List.filter_nil]
  rw [e]
  generalize (l.take i).filter (okB t frm to) = A at *
  rw [List.take_of_length_le (by simp; omega), List.take_of_length_le (by omega)]
theorem wnt_no {st t : Int} {frm to : ByteArray} {l : List It} {i : Nat} (hi : i < l.length) (ho : okB t frm to l[i] = false) :
    wnt st t frm to (l.take (i + 1)) = wnt st t frm to (l.take i) := by
  unfold wnt
  rw [List.take_succ_eq_append_getElem hi, List.filter_append, List.filter_cons_of_neg (by simp [ho]), List.filter_nil, List.append_nil]
theorem wnt_full {st t : Int} {frm to : ByteArray} {l : List It} {i : Nat} (hi : i < l.length) (hl : ¬ ((wnt st t frm to (l.take i)).length : Int) < st) :
    wnt st t frm to (l.take (i + 1)) = wnt st t frm to (l.take i) := by
  unfold wnt at hl ⊢
  rw [List.length_take] at hl
  rw [List.take_succ_eq_append_getElem hi, List.filter_append]
  exact List.take_append_of_le_length (by omega)
theorem wnt_get {st t : Int} {frm to : ByteArray} {l : List It} (hs : Sorted l) {j : Nat} (hj : j < (scan l t frm to).length) (hst : (j : Int) < st) :
    ∃ h : j < (wnt st t frm to l).length, (wnt st t frm to l)[j] = (scan l t frm to)[j] := by
  have e : wnt st t frm to l = (scan l t frm to).take st.toNat := by unfold wnt; rw [scan_ok hs]
  have h1 : j < (wnt st t frm to l).length := by rw [e, List.length_take]; omega
  refine ⟨h1, ?_⟩
  simp only [e, List.getElem_take]
theorem wnt_all {st t : Int} {frm to : ByteArray} {l : List It} (hs : Sorted l) (h : ((scan l t frm to).length : Int) ≤ st) : (wnt st t frm to l).length = (scan l t frm to).length := by
  unfold wnt
  rw [← scan_ok hs, List.length_take]
  omega
theorem wnt_stop {st t : Int} {frm to : ByteArray} {l : List It} (hs : Sorted l) (h0 : 0 ≤ st) (h : st ≤ ((scan l t frm to).length : Int)) : ((wnt st t frm to l).length : Int) = st := by
  unfold wnt
  rw [← scan_ok hs, List.length_take]
  omega
theorem and7x (x : Int) : 0 ≤ bits .and .i64 x 7 ∧ bits .and .i64 x 7 ≤ 7 := by
  show 0 ≤ IntKind.i64.wrap ((BitVec.ofInt 64 x &&& BitVec.ofInt 64 7).toNat : Int) ∧ IntKind.i64.wrap ((BitVec.ofInt 64 x &&& BitVec.ofInt 64 7).toNat : Int) ≤ 7
  have h : (BitVec.ofInt 64 x &&& BitVec.ofInt 64 7).toNat ≤ 7 := by
    rw [BitVec.toNat_and]
    exact Nat.and_le_right
  rw [IntWalk.i64_in _ (by omega)]
  omega

set_option maxHeartbeats 1000000 in
/-- A scan of no index hands out nothing. -/
theorem scan_none_on (w0 : World) (b1 b2 b3 b4 : Nat) (t : Int) (frm to : ByteArray) :
    SeqOn Try.prog 22 #[] #[.pointer (some ⟨b1, 0, none⟩), .pointer (some ⟨b2, 0, none⟩), .pointer (some ⟨b3, 0, none⟩), .pointer (some ⟨b4, 0, none⟩)] encIt w0 (scb b1 b2 b3 b4 none t frm to) [] := by
  intro n lp J S B W h0 hY
  have h1 := h0.cast (show _ = cel b1 #[.pointer none] 48 * (cel b2 #[.int .i64 t] 3 * (cel b3 #[.string frm] 9 * (cel b4 #[.string to] 9 * (J [] * B)))) by unfold scb; ac_rfl)
  have k1 := At.cell (i := 0) h1 rfl
  refine callsIn_of_wp Try.func22 rfl trivial ?_ rfl
  simp only [Try.ntmps22, List.size_toArray, List.length_cons, List.length_nil, Nat.reduceAdd, Nat.reduceSub, Array.replicate_succ, Array.replicate_zero, List.push_toArray, List.append_toArray, List.nil_append, List.cons_append]
  clear hY h1
  gi_wp2
  refine bodyPost_ret (results_none rfl _ _ _) rfl ?_
  exact ⟨⟨_, rfl⟩, .inl h0⟩
end Go.Proofs.Ytghlbhnpgbhllaa
