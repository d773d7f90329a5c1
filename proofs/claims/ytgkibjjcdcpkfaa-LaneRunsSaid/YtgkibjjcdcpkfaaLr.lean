/-
  A lane at rest, torn, opened: plain lists, no program.
-/
import Derived.Test.YtgkibjjcdcpkfaaLq
namespace Go.Proofs.Ytgkibjjcdcpkfaa
open Go Go.RowKit

/-- A lane's region, nothing waiting: b in its bank, but of each sector maybe only what was there as long as b's first 'sure' bytes were. -/
structure LPart (m : Dk) (r gen bank : Nat) (b : List UInt8) (sure : Nat) : Prop where
  wf : m.Wf
  hr : r < m.regs.length
  size : 514 ≤ m.size
  wts : m.wts r = []
  gen0 : 0 < gen
  gen1 : gen < 4294967296
  bankle : bank ≤ 1
  len : b.length ≤ 14336
  surele : sure ≤ b.length
  head : m.dat r 1 = pad (be 4 gen ++ be 1 bank)
  secs : ∀ t, t < 256 → m.dat r (fst bank + t) = secOf gen b t ∨ m.dat r (fst bank + t) = secOf gen (b.take sure) t
/-- All of it. -/
def LRest (m : Dk) (r gen bank : Nat) (b : List UInt8) : Prop := LPart m r gen bank b b.length
theorem LRest.sec {m : Dk} {r gen bank : Nat} {b : List UInt8} (h : LRest m r gen bank b) {t : Nat} (ht : t < 256) : m.dat r (fst bank + t) = secOf gen b t := by
  rcases h.secs t ht with h1 | h1
  · exact h1
  · rw [List.take_length] at h1
    exact h1
theorem head_gen (gen bank : Nat) (hg : gen < 4294967296) : num ((pad (be 4 gen ++ be 1 bank)).take 4) = gen := by
  unfold pad
  rw [List.append_assoc, List.take_append, be_len, Nat.sub_self, List.take_zero, List.append_nil, List.take_of_length_le (by rw [be_len]; exact Nat.le_refl _), num_be (by omega)]
theorem head_bank (gen bank : Nat) (hb : bank ≤ 1) : num (((pad (be 4 gen ++ be 1 bank)).drop 4).take 1) % 2 = bank := by
  unfold pad
  rw [List.append_assoc, List.drop_append, be_len, Nat.sub_self, List.drop_of_length_le (by rw [be_len]; exact Nat.le_refl _), List.nil_append, List.drop_zero, List.take_append, be_len, Nat.sub_self, List.take_zero, List.append_nil, List.take_of_length_le (by rw [be_len]; exact Nat.le_refl _), num_be (by omega)]
  omega
theorem secOf_take {gen : Nat} {b : List UInt8} {k pos t : Nat} (hp : pos ≤ k) (hk : k ≤ b.length) (h : (t + 1) * 56 ≤ pos) : secOf gen (b.take k) t = secOf gen (b.take pos) t := by
  have h1 : (b.take k).length = k := by rw [List.length_take]; omega
  have h2 : (b.take pos).length = pos := by rw [List.length_take]; omega
  unfold secOf
  rw [if_pos (by rw [h1]; unfold nsec; omega), if_pos (by rw [h2]; unfold nsec; omega)]
  have : lpart (b.take k) t = lpart (b.take pos) t := by
    rw [lpart_take, lpart_take, List.take_take, List.take_take, Nat.min_eq_right (by omega), Nat.min_eq_right (by omega)]
  unfold lsec
  rw [this]
theorem encR_take_mono (l : List Rec) {i j : Nat} (h : i ≤ j) : (encR (l.take i)).length ≤ (encR (l.take j)).length := by
  have e : l.take i = (l.take j).take i := by rw [List.take_take, Nat.min_eq_left h]
  rw [e]
  conv => rhs; rw [← List.take_append_drop i (l.take j)]
  rw [encR_append, List.length_append]
  omega

theorem LPart.opens {m : Dk} {r gen bank sure : Nat} {l : List Rec} (h : LPart m r gen bank (encR l) sure) (hg : ∀ x ∈ l, Good x) (hu : m.armd r = false) :
    ∃ j m', j ≤ l.length ∧ m.opens r = (0, some (⟨gen, bank, encR (l.take j), (encR (l.take j)).length⟩, places gen 0 (l.take j)), m') ∧
      LRest m' r gen bank (encR (l.take j)) ∧ Same m m' r ∧ m'.armd r = false ∧ m'.writes ≤ m.writes + 600 ∧ ∀ i, i ≤ l.length → (encR (l.take i)).length ≤ sure → i ≤ j := by
  have hd : ∀ s, m.sec r s = m.dat r s := fun s => Dk.sec_nil h.wts s
  obtain ⟨k, k1, k2, k3, k4, k5⟩ := strm_part (m := m) (r := r) (f := fst bank) h.gen0 h.gen1 h.surele h.len 256 0 rfl (Nat.zero_le _) (fun t _ ht => by rw [hd]; exact h.secs t ht)
  rw [Nat.zero_mul, Nat.sub_zero, List.drop_zero] at k4
  have hk : sure ≤ k := by omega
  have hkl : ((encR l).take k).length = k := by rw [List.length_take]; omega
  obtain ⟨j, j1, j2, j3, j4⟩ := opn_enc gen l [] k (k + 1) hg (Nat.zero_le _) (by simpa using k3) (by simp)
  simp only [List.nil_append, List.length_nil, Nat.zero_add] at j2 j3 j4
  obtain ⟨pos, hpos⟩ : ∃ pos, (encR (l.take j)).length = pos := ⟨_, rfl⟩
  rw [hpos] at j2 j4
  have hpk : pos ≤ k := j2
  have hbp : (encR l).take pos = encR (l.take j) := by
    have e : encR l = encR (l.take j) ++ encR (l.drop j) := by rw [← encR_append, List.take_append_drop]
    rw [e, ← hpos, List.take_left]
  have hap : ((encR l).take k).take pos = encR (l.take j) := by rw [List.take_take, Nat.min_eq_left hpk, hbp]
  have hbl := h.len
  have hb1 := h.bankle
  have hsz := h.size
  have hns : nsec pos ≤ 256 := nsec_le (by omega)
  have hfb : fst bank ≤ 258 := by unfold fst; omega
  have hfb2 : 2 ≤ fst bank := by unfold fst; omega
  have hlaid := Dk.wipe_laid h.wf (s := fst bank + nsec pos) (t := fst bank + 256) h.hr (by omega) (by omega)
  have h0 := hlaid.un hu
  have hdat := Dk.wipe_dat h.wf (s := fst bank + nsec pos) (t := fst bank + 256) h.hr (by omega) (by omega) h0
  have hwk := m.wipe_keeps r (fst bank + nsec pos) (fst bank + 256)
  obtain ⟨P1, hP1⟩ : ∃ P1, m.wipe r (fst bank + nsec pos) (fst bank + 256) = P1 := ⟨_, rfl⟩
  rw [hP1] at hlaid h0 hdat hwk
  obtain ⟨o1, o2⟩ := hlaid.ok h0
  have hrP : r < P1.2.regs.length := by rw [hwk.1]; exact h.hr
  have ho : m.opens r = (if (if pos < k ∧ 0 < pos % 56 then P1.2.lay r bank gen (encR (l.take j)) pos else (0, P1.2)).1 ≠ 0 then ((if pos < k ∧ 0 < pos % 56 then P1.2.lay r bank gen (encR (l.take j)) pos else (0, P1.2)).1, none, (if pos < k ∧ 0 < pos % 56 then P1.2.lay r bank gen (encR (l.take j)) pos else (0, P1.2)).2)
      else (0, some (⟨gen, bank, encR (l.take j), pos⟩, places gen 0 (l.take j)), (if pos < k ∧ 0 < pos % 56 then P1.2.lay r bank gen (encR (l.take j)) pos else (0, P1.2)).2)) := by
    unfold Dk.opens
    simp only
    rw [hd, h.head, head_gen _ _ h.gen1, head_bank _ _ h.bankle, if_neg (by have := h.gen0; omega), k4, hkl, j4]
    simp only
    rw [hP1, if_neg (fun hh => hh h0), hap]
  have hlowT : ∀ t, t < nsec pos → m.dat r (fst bank + t) = secOf gen ((encR l).take k) t := fun t ht => by
    rw [← hd]
    exact k5 t (Nat.zero_le _) (by unfold nsec at ht ⊢; omega)
  have hmax : ∀ i, i ≤ l.length → (encR (l.take i)).length ≤ sure → i ≤ j := fun i hi hs => by
    rcases j3 with h1 | h1
    · omega
    · have := encR_take_mono l (i := j + 1) (j := i)
      omega
  have hlj : (encR (l.take j)).length = pos := hpos
  by_cases hc : pos < k ∧ 0 < pos % 56
  · rw [if_pos hc] at ho
    have hll := Dk.lay_laid hlaid.wf (bank := bank) (gen := gen) (fr := pos) (bs := encR (l.take j)) hrP hb1 (by omega) (by omega) (by rw [hwk.2.1]; exact hsz)
    have hl0 := hll.un (by rw [hlaid.armd]; exact hu)
    have hld := Dk.lay_dat hlaid.wf (bank := bank) (gen := gen) (fr := pos) (bs := encR (l.take j)) hrP hb1 (by omega) (by omega) (by rw [hwk.2.1]; exact hsz) hl0
    have hlo := Dk.lay_dat_out hlaid.wf (bank := bank) (gen := gen) (fr := pos) (bs := encR (l.take j)) hrP hb1 (by omega) (by omega) (by rw [hwk.2.1]; exact hsz) hl0
    have hlk := P1.2.lay_keeps r bank gen (encR (l.take j)) pos
    obtain ⟨P2, hP2⟩ : ∃ P2, P1.2.lay r bank gen (encR (l.take j)) pos = P2 := ⟨_, rfl⟩
    rw [hP2] at hll hl0 hld hlo hlk ho
    rw [if_neg (fun hh => hh hl0)] at ho
    have hsec1 : ∀ s, P1.2.sec r s = P1.2.dat r s := fun s => Dk.sec_nil o1 s
    refine ⟨j, P2.2, j1, by rw [hlj]; exact ho, ?_, hlaid.same.trans hll.same, (hll.armd.trans hlaid.armd).trans hu, by have := hlk.2.2; have := hwk.2.2; rw [hlj] at *; omega, hmax⟩
    refine ⟨hll.wf, by rw [hlk.1]; exact hrP, by rw [hlk.2.1, hwk.2.1]; exact hsz, (hll.ok hl0).1, h.gen0, h.gen1, hb1, by omega, Nat.le_refl _, ?_, fun t ht => .inl ?_⟩
    · rw [hlo 1 (by rw [hwk.2.1]; omega) (by omega), hsec1, hdat 1 (by omega), if_neg (by omega), hd, h.head]
    · rw [hld t ht, hlj]
      by_cases h1 : pos / 56 ≤ t ∧ t < nsec pos
      · rw [if_pos h1]
        unfold secOf
        rw [hlj, if_pos h1.2]
      · rw [if_neg h1, hsec1, hdat _ (by omega)]
        by_cases h2 : nsec pos ≤ t
        · rw [if_pos (by omega)]
          unfold secOf
          rw [hlj, if_neg (by omega)]
        · rw [if_neg (by omega), hd, hlowT t (by omega), secOf_take hpk k3 (by omega), hbp]
  · rw [if_neg hc] at ho
    rw [if_neg (show ¬ (((0, P1.2) : Nat × Dk).1 ≠ 0) from fun hh => hh rfl)] at ho
    refine ⟨j, P1.2, j1, by rw [hlj]; exact ho, ?_, hlaid.same, hlaid.armd.trans hu, by have := hwk.2.2; omega, hmax⟩
    refine ⟨hlaid.wf, hrP, by rw [hwk.2.1]; exact hsz, o1, h.gen0, h.gen1, hb1, by omega, Nat.le_refl _, ?_, fun t ht => .inl ?_⟩
    · rw [hdat 1 (by omega), if_neg (by omega), hd, h.head]
    · rw [hdat _ (by omega)]
      by_cases h2 : nsec pos ≤ t
      · rw [if_pos (by omega)]
        unfold secOf
        rw [hlj, if_neg (by omega)]
      · rw [if_neg (by omega), hd, hlowT t (by omega)]
        by_cases h3 : (t + 1) * 56 ≤ pos
        · rw [secOf_take hpk k3 h3, hbp]
        · have : pos = k := by
            have h4 : pos % 56 ≠ 0 := fun e => by unfold nsec at h2; omega
            omega
          rw [← this, hbp]
end Go.Proofs.Ytgkibjjcdcpkfaa
