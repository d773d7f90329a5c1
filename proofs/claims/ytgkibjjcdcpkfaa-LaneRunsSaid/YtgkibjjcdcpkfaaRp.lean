/-
  A record comes back from its frame: plain lists, no program.
-/
import Derived.Test.YtgkibjjcdcpkfaaLz
namespace Go.Proofs.Ytgkibjjcdcpkfaa
open Go Go.RowKit

theorem take_app (a b : List UInt8) {n : Nat} (h : a.length = n) : (Rs.mk (a ++ b) false).take n = (a, ⟨b, false⟩) := by
  subst h
  unfold Rs.take Rs.fails
  rw [if_neg (by simp)]
  simp
theorem take_short (a : List UInt8) {n : Nat} (h : a.length < n) : (Rs.mk a false).take n = ([], ⟨a, true⟩) := by
  unfold Rs.take Rs.fails
  rw [if_pos (by simp; omega)]
theorem text_app (a b : List UInt8) (h : a.length < 256) : (Rs.mk (be 1 a.length ++ (a ++ b)) false).text = (a, ⟨b, false⟩) := by
  unfold Rs.text
  rw [take_app (be 1 a.length) (a ++ b) (be_len _ _)]
  simp only
  rw [num_be (by omega), take_app a b rfl]
theorem num_b8 {x : Int} (h0 : 0 ≤ x) (h : x < 256) : ((num [b8 x] : Nat) : Int) = x := by
  rw [num_cons]
  show ((b8 x).toNat * 256 ^ 0 + num [] : Nat) = x
  unfold b8
  rw [UInt8.toNat_ofNat']
  simp [num]
  omega
theorem sayN_flat (rest : List UInt8) : ∀ (l : List Nat) (i : Nat) (s : Rs), (∀ d ∈ l, d < 2 ^ 64) → s = ⟨l.flatMap (be 8) ++ rest, false⟩ → i ≤ l.length → sayN s i = (l.take i, ⟨(l.drop i).flatMap (be 8) ++ rest, false⟩) := by
  intro l i s hl hs hi
  induction i with
  | zero => rw [sayN, hs]; rfl
  | succ i ih =>
    rw [sayN, ih (by omega)]
    have hd : l.drop i = l[i] :: l.drop (i + 1) := (List.getElem_cons_drop (by omega)).symm
    simp only
    rw [hd, List.flatMap_cons, List.append_assoc, take_app (be 8 l[i]) _ (be_len _ _)]
    simp only
    rw [num_be (Nat.lt_of_lt_of_le (hl _ (List.getElem_mem _)) (by decide)), List.take_succ_eq_append_getElem (by omega)]
theorem tx_data (s : ByteArray) : tx s.data.toList = s := by
  unfold tx
  simp
theorem sayP_body {r : Rec} (h : r.Fair) : sayP r.body = (r, true) := by
  obtain ⟨kind, txn, page, slot, before, after, image, dirty⟩ := r
  obtain ⟨⟨k0, k1⟩, ⟨t0, t1⟩, ⟨p0, p1⟩, ⟨s0, s1⟩, hbe, haf, him, hdi, hnu⟩ := h
  simp only at k0 k1 t0 t1 p0 p1 s0 s1 hbe haf him hdi hnu
  have e : Rec.body ⟨kind, txn, page, slot, before, after, image, dirty⟩ = [b8 kind] ++ ([b8 txn] ++ ([b8 page] ++ ([b8 slot] ++ (be 1 before.data.toList.length ++ (before.data.toList ++ (be 1 after.data.toList.length ++ (after.data.toList ++ (be 2 image.data.toList.length ++ (image.data.toList ++ (be 1 dirty.length ++ (dirty.flatMap (be 8) ++ []))))))))))) := by
    unfold Rec.body
    simp only [List.append_assoc, List.cons_append, List.nil_append, List.append_nil, Array.length_toList]
    rfl
  have l1 : before.data.toList.length < 256 := by rw [Array.length_toList]; exact hbe
  have l2 : after.data.toList.length < 256 := by rw [Array.length_toList]; exact haf
  have l3 : image.data.toList.length < 65536 := by rw [Array.length_toList]; exact him
  rw [e]
  unfold sayP
  simp only
  rw [take_app [b8 kind] _ (n := 1) rfl]
  simp only
  rw [take_app [b8 txn] _ (n := 1) rfl]
  simp only
  rw [take_app [b8 page] _ (n := 1) rfl]
  simp only
  rw [take_app [b8 slot] _ (n := 1) rfl]
  simp only
  rw [text_app before.data.toList _ l1]
  simp only
  rw [text_app after.data.toList _ l2]
  simp only
  rw [take_app (be 2 image.data.toList.length) _ (n := 2) (be_len _ _)]
  simp only
  rw [num_be (by omega), take_app image.data.toList _ rfl]
  simp only
  rw [take_app (be 1 dirty.length) _ (n := 1) (be_len _ _)]
  simp only
  rw [num_be (by omega), sayN_flat [] dirty dirty.length _ hnu rfl (Nat.le_refl _)]
  simp only [List.take_length, List.drop_length, List.flatMap_nil, List.append_nil, tx_data, num_b8 k0 k1, num_b8 t0 t1, num_b8 p0 p1, num_b8 s0 s1]
  rfl
theorem Rec.body_len {r : Rec} (h : r.right = true) : r.body.length ≤ 393 := by
  unfold Rec.right at h
  simp only [Bool.and_eq_true, Bool.not_eq_true', Bool.or_eq_false_iff, decide_eq_false_iff_not] at h
  obtain ⟨⟨hk, ⟨hb, ha⟩, hi⟩, hd⟩ := h
  have c40 : ∀ {s : ByteArray}, cellB s = true → s.data.size ≤ 40 := fun {s} h => by
    unfold cellB at h
    simp only [Bool.or_eq_true, List.isEmpty_iff, beq_iff_eq] at h
    rcases h with h | h
    · have : s.toList.length = 0 := by rw [h]; rfl
      rw [ByteArray.toList_eq, Array.length_toList] at this
      omega
    · have : s.data.size = s.size := rfl
      omega
  have h1 := c40 hb
  have h2 := c40 ha
  have h3 : r.image.data.size ≤ 256 := by
    simp only [Bool.or_eq_true, List.isEmpty_iff, beq_iff_eq] at hi
    rcases hi with hi | hi
    · have : r.image.toList.length = 0 := by rw [hi]; rfl
      rw [ByteArray.toList_eq, Array.length_toList] at this
      omega
    · have : r.image.data.size = r.image.size := rfl
      omega
  have h4 : r.dirty.length ≤ 6 := by
    simp only [Bool.or_eq_true, Bool.and_eq_true, beq_iff_eq] at hd
    omega
  unfold Rec.body
  simp only [List.length_append, be_len, Array.length_toList, flat_len, List.length_cons, List.length_nil]
  omega
theorem Rec.body_pos (r : Rec) : 9 ≤ r.body.length := by
  unfold Rec.body
  simp only [List.length_append, be_len, Array.length_toList, flat_len, List.length_cons, List.length_nil]
  omega
theorem Rec.enc_length (r : Rec) : r.enc.length = 2 + r.body.length := by
  unfold Rec.enc
  rw [List.length_append, be_len]
/-- A frame says its record, whatever stands behind. -/
theorem decP_enc {r : Rec} (h : r.right = true) (hn : ∀ d ∈ r.dirty, d < 2 ^ 64) (more : List UInt8) : decP (r.enc ++ more) = some (r, r.enc.length) := by
  have hl := Rec.body_len h
  unfold decP
  simp only
  have e : r.enc ++ more = be 2 r.body.length ++ (r.body ++ more) := by unfold Rec.enc; rw [List.append_assoc]
  rw [e, take_app (be 2 r.body.length) _ (n := 2) (be_len _ _)]
  simp only
  rw [num_be (by omega), take_app r.body more rfl]
  simp only
  rw [sayP_body (Rec.fair h hn)]
  simp [h, Rec.enc_length]
/-- A frame that isn't whole says none. -/
theorem decP_short {r : Rec} (h : r.right = true) {k : Nat} (hk : k < r.enc.length) : decP (r.enc.take k) = none := by
  have hl := Rec.body_len h
  have hp := Rec.body_pos r
  have hel := r.enc_length
  unfold decP
  simp only
  by_cases h2 : k < 2
  · have hlen : (r.enc.take k).length < 2 := by rw [List.length_take]; omega
    rw [take_short _ hlen]
    simp only
    rw [if_pos]
    unfold Rs.take Rs.fails
    simp
  · have e : r.enc.take k = be 2 r.body.length ++ r.body.take (k - 2) := by
      unfold Rec.enc
      rw [List.take_append, be_len, List.take_of_length_le (by rw [be_len]; omega)]
    rw [e, take_app (be 2 r.body.length) _ (n := 2) (be_len _ _)]
    simp only
    rw [num_be (by omega), take_short _ (by rw [List.length_take]; omega)]
    rfl
end Go.Proofs.Ytgkibjjcdcpkfaa
