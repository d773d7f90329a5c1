/-
  A lane's region, and what is opened of it: plain lists, no program.
-/
import Derived.Test.YtgkibjjcdcpkfaaRp
namespace Go.Proofs.Ytgkibjjcdcpkfaa
open Go Go.RowKit

structure Good (r : Rec) : Prop where
  right : r.right = true
  nums : ∀ d ∈ r.dirty, d < 2 ^ 64
def encR (l : List Rec) : List UInt8 := l.flatMap Rec.enc
theorem encR_cons (r : Rec) (l : List Rec) : encR (r :: l) = r.enc ++ encR l := by unfold encR; rw [List.flatMap_cons]
theorem encR_append (a b : List Rec) : encR (a ++ b) = encR a ++ encR b := by unfold encR; rw [List.flatMap_append]
def places (gen : Nat) : Nat → List Rec → List (Nat × Rec)
  | _, [] => []
  | pos, r :: l => (gen * 1048576 + pos + 1, r) :: places gen (pos + r.enc.length) l
theorem places_snd (gen : Nat) : ∀ (pos : Nat) (l : List Rec), (places gen pos l).map Prod.snd = l
  | _, [] => rfl
  | pos, r :: l => by rw [places, List.map_cons, places_snd gen _ l]
theorem places_len (gen pos : Nat) (l : List Rec) : (places gen pos l).length = l.length := by
  have := congrArg List.length (places_snd gen pos l)
  rw [List.length_map] at this
  exact this
theorem Rec.enc_pos (r : Rec) : 11 ≤ r.enc.length := by have := r.enc_length; have := r.body_pos; omega

theorem opn_enc (gen : Nat) : ∀ (l : List Rec) (pre : List UInt8) (k fu : Nat), (∀ r ∈ l, Good r) → pre.length ≤ k → k ≤ (pre ++ encR l).length → k < fu + pre.length →
    ∃ j, j ≤ l.length ∧ pre.length + (encR (l.take j)).length ≤ k ∧ (j = l.length ∨ k < pre.length + (encR (l.take (j + 1))).length) ∧
      opn gen ((pre ++ encR l).take k) fu pre.length = (places gen pre.length (l.take j), pre.length + (encR (l.take j)).length)
  | [], pre, k, fu, _, h1, h2, h3 => by
    have hk : k = pre.length := by simp [encR] at h2; omega
    obtain ⟨f, rfl⟩ : ∃ f, fu = f + 1 := ⟨fu - 1, by omega⟩
    refine ⟨0, Nat.le_refl _, by simp [encR]; omega, .inl rfl, ?_⟩
    rw [opn_none]
    · simp [places, encR]
    · have : ((pre ++ encR []).take k).drop pre.length = [] := List.drop_eq_nil_of_le (by rw [List.length_take]; omega)
      rw [this]
      rfl
  | r :: l, pre, k, fu, hg, h1, h2, h3 => by
    obtain ⟨f, rfl⟩ : ∃ f, fu = f + 1 := ⟨fu - 1, by omega⟩
    have hr := hg r List.mem_cons_self
    have hd : ((pre ++ encR (r :: l)).take k).drop pre.length = (encR (r :: l)).take (k - pre.length) := by
      rw [List.drop_take, List.drop_left]
    by_cases hk : k < pre.length + r.enc.length
    · refine ⟨0, Nat.zero_le _, by simp [encR]; omega, .inr (by simp [encR]; exact hk), ?_⟩
      rw [opn_none]
      · simp [places, encR]
      · rw [hd, encR_cons, List.take_append, show k - pre.length - r.enc.length = 0 by omega, List.take_zero, List.append_nil]
        exact decP_short hr.right (by omega)
    · have e : pre ++ encR (r :: l) = (pre ++ r.enc) ++ encR l := by rw [encR_cons, List.append_assoc]
      obtain ⟨j, j1, j2, j3, j4⟩ := opn_enc gen l (pre ++ r.enc) k f (fun x hx => hg x (List.mem_cons_of_mem _ hx)) (by rw [List.length_append]; omega) (by rw [← e]; exact h2) (by rw [List.length_append]; have := r.enc_pos; omega)
      rw [List.length_append] at j2 j3 j4
      refine ⟨j + 1, by rw [List.length_cons]; omega, ?_, ?_, ?_⟩
      · rw [List.take_succ_cons, encR_cons, List.length_append]
        omega
      · rw [List.length_cons]
        rcases j3 with j3 | j3
        · exact .inl (by omega)
        · right
          rw [List.take_succ_cons, encR_cons, List.length_append]
          omega
      · have hdec : decP (((pre ++ encR (r :: l)).take k).drop pre.length) = some (r, r.enc.length) := by
          rw [hd, encR_cons, List.take_append, List.take_of_length_le (by omega)]
          exact decP_enc hr.right hr.nums _
        rw [opn_some hdec, e, j4]
        simp only [List.take_succ_cons, places, encR_cons, List.length_append, Nat.add_assoc]

/-! ### Sectors -/
def secOf (gen : Nat) (c : List UInt8) (s : Nat) : List UInt8 := if s < nsec c.length then pad (lsec gen c s) else zbys 64
theorem lpart_eq_len (c : List UInt8) (s : Nat) : (lpart c s).length = min 56 (c.length - s * 56) := by
  unfold lpart
  rw [List.length_take, List.length_drop]
theorem sec_head (gen : Nat) (c : List UInt8) (s : Nat) : (pad (lsec gen c s)).take 4 = be 4 gen := by
  unfold pad lsec
  simp only [List.append_assoc]
  rw [List.take_append, be_len, Nat.sub_self, List.take_zero, List.append_nil, List.take_of_length_le (by rw [be_len]; exact Nat.le_refl _)]
theorem sec_len1 (gen : Nat) (c : List UInt8) (s : Nat) : ((pad (lsec gen c s)).drop 4).take 1 = be 1 (lpart c s).length := by
  unfold pad lsec
  simp only [List.append_assoc]
  rw [List.drop_append, be_len, Nat.sub_self, List.drop_of_length_le (by rw [be_len]; exact Nat.le_refl _), List.nil_append, List.drop_zero, List.take_append, be_len, Nat.sub_self, List.take_zero, List.append_nil, List.take_of_length_le (by rw [be_len]; exact Nat.le_refl _)]
theorem sec_part (gen : Nat) (c : List UInt8) (s : Nat) : ((pad (lsec gen c s)).drop 8).take (lpart c s).length = lpart c s := by
  have e : pad (lsec gen c s) = (be 4 gen ++ (be 1 (lpart c s).length ++ [0, 0, 0])) ++ (lpart c s ++ zbys (64 - (lsec gen c s).length)) := by
    unfold pad
    conv => lhs; lhs; unfold lsec
    simp only [List.append_assoc]
  have hl : (be 4 gen ++ (be 1 (lpart c s).length ++ [0, 0, 0])).length = 8 := by simp [be_len]
  rw [e, List.drop_append, hl, Nat.sub_self, List.drop_of_length_le (by omega), List.nil_append, List.drop_zero, List.take_append, Nat.sub_self, List.take_zero, List.append_nil, List.take_length]
theorem num_z4 : num ((zbys 64).take 4) = 0 := by decide
theorem lpart_take (b : List UInt8) (t s : Nat) : lpart (b.take t) s = ((b.drop (s * 56)).take 56).take (t - s * 56) := by
  unfold lpart
  rw [List.drop_take, List.take_take, List.take_take, Nat.min_comm]
theorem take_drop_join (b : List UInt8) (s k : Nat) (h : s + 56 ≤ k) : (b.drop s).take 56 ++ (b.drop (s + 56)).take (k - (s + 56)) = (b.drop s).take (k - s) := by
  have e : k - s = 56 + (k - (s + 56)) := by omega
  rw [e, List.take_add, List.drop_drop]

theorem strm_part {m : Dk} {r f gen : Nat} {b : List UInt8} {sure : Nat} (hg : 0 < gen) (hg2 : gen < 4294967296) (hs : sure ≤ b.length) (hb : b.length ≤ 14336) :
    ∀ (n s : Nat), s + n = 256 → s * 56 ≤ b.length → (∀ t, s ≤ t → t < 256 → m.sec r (f + t) = secOf gen b t ∨ m.sec r (f + t) = secOf gen (b.take sure) t) →
      ∃ k, s * 56 ≤ k ∧ sure ≤ max k (s * 56) ∧ k ≤ b.length ∧ strm m r f gen n s = (b.drop (s * 56)).take (k - s * 56) ∧ ∀ t, s ≤ t → t < nsec k → m.sec r (f + t) = secOf gen (b.take k) t
  | 0, s, hsn, hsb, _ => by
    refine ⟨b.length, hsb, by omega, Nat.le_refl _, ?_, fun t h1 h2 => ?_⟩
    · rw [show b.length - s * 56 = 0 by omega, List.take_zero]
      rfl
    · unfold nsec at h2
      omega
  | n + 1, s, hsn, hsb, hsec => by
    have key : ∃ t, sure ≤ t ∧ t ≤ b.length ∧ m.sec r (f + s) = secOf gen (b.take t) s := by
      rcases hsec s (Nat.le_refl _) (by omega) with h | h
      · exact ⟨b.length, hs, Nat.le_refl _, by rw [List.take_length]; exact h⟩
      · exact ⟨sure, Nat.le_refl _, hs, h⟩
    obtain ⟨t, ht1, ht2, hx⟩ := key
    have htl : (b.take t).length = t := by rw [List.length_take]; omega
    by_cases hst : s < nsec t
    · have hst2 : s * 56 < t := by unfold nsec at hst; omega
      have hx2 : m.sec r (f + s) = pad (lsec gen (b.take t) s) := by
        rw [hx]
        unfold secOf
        rw [if_pos (by rw [htl]; exact hst)]
      have hpl : (lpart (b.take t) s).length = min 56 (t - s * 56) := by rw [lpart_eq_len, htl]
      have hp56 := lpart_len (b.take t) s
      rw [strm_succ m r f gen n s hx2, sec_head, num_be (by omega), if_pos rfl, sec_len1, num_be (by omega), Nat.min_eq_left hp56, sec_part]
      by_cases hp : (lpart (b.take t) s).length < 56
      · rw [if_pos hp, List.append_nil]
        have hpt : t - s * 56 < 56 := by omega
        refine ⟨t, by omega, by omega, ht2, ?_, fun u hu1 hu2 => ?_⟩
        · rw [lpart_take, List.take_take, Nat.min_eq_left (by omega)]
        · have : u = s := by unfold nsec at hu2; omega
          subst this
          exact hx
      · rw [if_neg hp]
        have hpt : 56 ≤ t - s * 56 := by omega
        obtain ⟨k, k1, k2, k3, k4, k5⟩ := strm_part (m := m) (r := r) (f := f) hg hg2 hs hb n (s + 1) (by omega) (by omega) (fun u hu1 hu2 => hsec u (by omega) hu2)
        have e1 : (s + 1) * 56 = s * 56 + 56 := by omega
        rw [e1] at k1 k2 k4
        refine ⟨k, by omega, by omega, k3, ?_, fun u hu1 hu2 => ?_⟩
        · rw [k4, lpart_take, List.take_of_length_le (by rw [List.length_take]; omega)]
          exact take_drop_join b (s * 56) k k1
        · by_cases hus : u = s
          · subst hus
            rw [hx2]
            have hkl : (b.take k).length = k := by rw [List.length_take]; omega
            unfold secOf
            rw [if_pos (by rw [hkl]; exact hu2)]
            congr 1
            have : lpart (b.take t) u = lpart (b.take k) u := by
              rw [lpart_take, lpart_take, List.take_take, List.take_take, Nat.min_eq_right (by omega), Nat.min_eq_right (by omega)]
            unfold lsec
            rw [this]
          · exact k5 u (by omega) hu2
    · have hst2 : t ≤ s * 56 := by unfold nsec at hst; omega
      have hx2 : m.sec r (f + s) = zbys 64 := by
        rw [hx]
        unfold secOf
        rw [if_neg (by rw [htl]; exact hst)]
      rw [strm_succ m r f gen n s hx2, num_z4, if_neg (by omega)]
      refine ⟨s * 56, Nat.le_refl _, by omega, hsb, by rw [Nat.sub_self, List.take_zero], fun u hu1 hu2 => ?_⟩
      unfold nsec at hu2
      omega
end Go.Proofs.Ytgkibjjcdcpkfaa
