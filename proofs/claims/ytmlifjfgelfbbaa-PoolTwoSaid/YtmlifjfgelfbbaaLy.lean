/-
  The package lane: lay: what it comes to: a contract, no statement.
-/
import Derived.Test.YtmlifjfgelfbbaaLw
namespace Go.Proofs.Ytmlifjfgelfbbaa
open Go Go.RowKit

/-- What stands in a sector of a bank. -/
def lpart (bs : List UInt8) (s : Nat) : List UInt8 := (bs.drop (s * 56)).take 56
def lsec (gen : Nat) (bs : List UInt8) (s : Nat) : List UInt8 := be 4 gen ++ be 1 (lpart bs s).length ++ [0, 0, 0] ++ lpart bs s
def nsec (n : Nat) : Nat := (n + 55) / 56
theorem lpart_len (bs : List UInt8) (s : Nat) : (lpart bs s).length ≤ 56 := by unfold lpart; rw [List.length_take]; omega
theorem lsec_len (gen : Nat) (bs : List UInt8) (s : Nat) : (lsec gen bs s).length = 8 + (lpart bs s).length := by
  unfold lsec
  simp only [List.length_append, be_len, List.length_cons, List.length_nil]
def Dk.lays (r f gen : Nat) (bs : List UInt8) : Nat → Nat → Dk → Nat × Dk
  | 0, _, m => (0, m)
  | n + 1, s, m => thenD (m.wr r (f + s) (lsec gen bs s)) (Dk.lays r f gen bs n (s + 1))
theorem Dk.lays_succ (r f gen : Nat) (bs : List UInt8) (n s : Nat) (m : Dk) : Dk.lays r f gen bs (n + 1) s m = thenD (m.wr r (f + s) (lsec gen bs s)) (Dk.lays r f gen bs n (s + 1)) := rfl
def fst (bank : Nat) : Nat := 2 + bank * 256
def Dk.lay (m : Dk) (r bank gen : Nat) (bs : List UInt8) (from' : Nat) : Nat × Dk := thenD (Dk.lays r (fst bank) gen bs (nsec bs.length - from' / 56) (from' / 56) m) fun m' => m'.bar r

set_option maxRecDepth 100000 in
set_option maxHeartbeats 4000000 in
theorem laneLay_any (w0 w : World) (R : HP) (p d r : Nat) (L : Ln) (vb : Value) (m : Dk) (bank gen : Nat) (a : Option Addr) (c : Nat) (bs : List UInt8) (fr : Nat) (hr : r < m.regs.length) (hbk : bank ≤ 1) (hgn : gen < 4294967296) (hbs : bs.length ≤ 14336) (hfr : fr ≤ 14336) (hwn : m.writes ≤ 900000000)
    (hA : RdIn w0 R (.slice a bs.length c) bs) (h : At w0 (cel p (L.cells d r vb) 84 * (dsk d m * R)) w) :
    Calls Try.prog 53 #[.pointer (some ⟨p, 0, none⟩), .int .i64 bank, .int .u64 gen, .slice a bs.length c, .int .i64 fr] w fun e w' => e = .returned (.int .i64 (m.lay r bank gen bs fr).1) ∧ At w0 (cel p (L.cells d r vb) 84 * (dsk d (m.lay r bank gen bs fr).2 * R)) w' := by
  obtain ⟨i0, hi, hz0, hz1, hz2⟩ := info_parts Try.info8
  obtain ⟨C, hC⟩ : ∃ C, L.cells d r vb = C := ⟨_, rfl⟩
  have hC0 : C[0]? = some (.pointer (some ⟨d, 0, none⟩)) := by rw [← hC]; rfl
  have hC1 : C[1]? = some (.int .i64 r) := by rw [← hC]; rfl
  rw [hC] at h ⊢
  have hf := laneFirst_any w bank hbk
  obtain ⟨f, hfe⟩ : ∃ f, fst bank = f := ⟨_, rfl⟩
  have hfl : f ≤ 258 := by rw [← hfe]; unfold fst; omega
  obtain ⟨S0, hS0⟩ : ∃ S0, fr / 56 = S0 := ⟨_, rfl⟩
  have hS0z : (fr : Int) / 56 = (S0 : Int) := by omega
  have hS0l : S0 ≤ 256 := by omega
  obtain ⟨N, hN⟩ : ∃ N, nsec bs.length = N := ⟨_, rfl⟩
  have hNl : N ≤ 256 := by rw [← hN]; unfold nsec; omega
  have hNs : ∀ s, s < N ↔ s * 56 < bs.length := fun s => by rw [← hN]; unfold nsec; omega
  unfold Dk.lay
  rw [hfe, hN, hS0]
  obtain ⟨res, hres⟩ : ∃ res, Dk.lays r f gen bs (N - S0) S0 m = res := ⟨_, rfl⟩
  rw [hres]
  have Hres := hide hres
  have Hh := hide h
  have HA := hide hA
  have HNs := hide hNs
  have Hi := hide hi
  have Hgn := hide hgn
  clear hgn hres h hA hC hf hN hNs hS0
  go_enter Try.func53, Try.ntmps53
  go_wp2_with fail
  go_loopw [11] (fun u wr => ∃ (i : Nat) (M : Dk), S0 ≤ i ∧ i ≤ max S0 N ∧ u = .int .i64 i ∧ Hid (Dk.lays r f gen bs (N - i) i M = res ∧ M.regs.length = m.regs.length ∧ M.size = m.size ∧ M.writes ≤ m.writes + (i - S0)) ∧ At w0 (cel p C 84 * (dsk d M * R)) wr) (fun u _ => N - (intOf u).toNat)
  case atStart => exact ⟨S0, m, Nat.le_refl _, by omega, rfl, hide ⟨Hres.out, rfl, rfl, by omega⟩, Hh.out⟩
  case round =>
    obtain ⟨i, M, hsi, hi2, rfl, HM, h5⟩ := hrel
    have hrM : r < M.regs.length := by rw [HM.out.2.1]; exact hr
    have hwM : M.writes ≤ 1000000000 := by have := HM.out.2.2.2; omega
    by_cases hil : i < N
    · have hq := (HNs.out i).1 hil
      have hrd := HA.out wr h5.r.r
      have hcl := hrd.len.2
      obtain ⟨e, he⟩ : ∃ e, min ((i + 1) * 56) bs.length = e := ⟨_, rfl⟩
      have hle1 : i * 56 ≤ e := by omega
      have hle2 : e ≤ bs.length := by omega
      have hcn : ¬ (c = i * 56) := by omega
      have hsrc := (hrd.drop (show i * 56 ≤ bs.length by omega)).take (show e - i * 56 ≤ bs.length - i * 56 by omega)
      have hpl : (lpart bs i).length = e - i * 56 := by unfold lpart; rw [List.length_take, List.length_drop]; omega
      have hsrc2 : ∀ w', At w0 R w' → Rd w' (.slice (a.map (·.add (i * 56))) (e - i * 56) (c - i * 56)) (bys (lpart bs i)) := fun w' hw' => by
        have h := ((HA.out w' hw').drop (show i * 56 ≤ bs.length by omega)).take (show e - i * 56 ≤ bs.length - i * 56 by omega)
        rw [if_neg hcn, bys_drop, bys_take, Nat.mul_one] at h
        have e2 : lpart bs i = (bs.drop (i * 56)).take (e - i * 56) := by
          unfold lpart
          rw [← hpl]
          unfold lpart
          rw [List.length_take]
          rcases Nat.le_total 56 (bs.drop (i * 56)).length with h1 | h1
          · rw [Nat.min_eq_left h1]
          · rw [Nat.min_eq_right h1, List.take_of_length_le h1, List.take_of_length_le (Nat.le_refl _)]
        rw [e2]
        exact h
      have Hsrc := hide hsrc2
      have Hpl := hide hpl
      have hi56 : (i : Int) * 56 < (bs.length : Int) := by omega
      have He := hide he
      have hec : e ≤ c := by omega
      have htn : ((i : Int) * 56).toNat = i * 56 := by omega
      have hw1 := IntWalk.i64_in ((i : Int) * 56) (by omega)
      have hw2 := IntWalk.i64_in ((i : Int) + 1) (by omega)
      have hw3 := IntWalk.i64_in (((i : Int) + 1) * 56) (by omega)
      clear hsrc hsrc2 hpl hrd he hcl hq
      go_upto_region 4 with fail
      refine wp_region_lit ?_
      refine wpList_value rfl (v := .slice a bs.length c) (by go_simp) ?_
      refine wpList_value rfl (v := .int .i64 i) (by go_simp) ?_
      refine wpList_value rfl (v := .int .i64 ((i : Int) * 56)) (by go_simp) ?_
      refine wpList_value rfl (v := .int .i64 i) (by go_simp) ?_
      refine wpList_value rfl (v := .int .i64 ((i : Int) + 1)) (by go_simp) ?_
      refine wpList_value rfl (v := .int .i64 (((i : Int) + 1) * 56)) (by go_simp) ?_
      refine wpList_value rfl (v := .slice a bs.length c) (by go_simp) ?_
      refine wpList_value rfl (v := .int .i64 bs.length) (by go_simp) ?_
      refine wpList_value rfl (v := .int .i64 e) (by
        rcases Nat.lt_or_ge bs.length ((i + 1) * 56) with hlt | hge
        · have hh : (bs.length : Int) < ((i : Int) + 1) * 56 := by omega
          obtain rfl : bs.length = e := by have := He.out; omega
          go_simp
        · have hh : ¬ ((bs.length : Int) < ((i : Int) + 1) * 56) := by omega
          have hee : (e : Int) = ((i : Int) + 1) * 56 := by have := He.out; omega
          rw [hee]
          go_simp) ?_
      refine wpList_value rfl (v := .slice (a.map (·.add (i * 56))) (e - i * 56) (c - i * 56)) (by
        go_simp
        intro hh
        exact absurd (hh (by omega)) (by omega)) ?_
      have Hcn := hide hcn
      obtain ⟨pl, hplen⟩ : ∃ pl, e - i * 56 = pl := ⟨_, rfl⟩
      have hpl56 : pl ≤ 56 := by have := He.out; omega
      have ht1 := packPut_m w0 wr _ (.slice none 0 0) [] 4 gen 4 (be 4 gen) rfl rfl (by decide) (by have := Hgn.out; omega) (by simp) h5 (Rd.nil wr)
      change Calls _ _ #[_, .int .i64 4, _] _ _ at ht1
      rw [hplen]
      have hwp := wrap_u64 (x := (pl : Int)) (by omega) (by omega)
      rw [hplen] at Hsrc Hpl
      have Hplen := hide hplen
      clear hw1 hw2 hw3 hi56 hle1 hle2 hec htn hcn hplen
      go_wp2_with fail
      refine ht1.mono ?_
      rintro e1 w1 ⟨a1, c1, rfl, h6⟩
      have hr6 := h6.rd
      have ht2 := packPut_m w0 w1 _ (.slice a1 4 c1) (be 4 gen) 1 pl 5 (be 4 gen ++ be 1 pl) (by rw [be_len]) rfl (by decide) (by omega) (by rw [be_len]; omega) h6 hr6
      change Calls _ _ #[_, .int .i64 1, _] _ _ at ht2
      clear ht1 h5 hr6
      go_wp2_with fail
      refine ht2.mono ?_
      rintro e2 w2 ⟨a2, c2, rfl, h7⟩
      have h8 := h7.pull2.r
      have h9 := (h8.alloc (.cells #[.int .u8 0, .int .u8 0, .int .u8 0] 5)).pull2
      clear ht2 h6 h7 h8
      go_wp2_with (at_builtin; go_loud (refine wpList_append_rdm rfl _ _ _ rfl 5 i0 _ 1 Try.underlying32 Hi.out hz0 hz1 hz2 rfl rfl rfl h9 (Rd.new w2 [.int .u8 0, .int .u8 0, .int .u8 0] 5 rfl rfl) (bys_one [0, 0, 0]) (by unfold maxLen; simp) (by simp) 8 (bys (be 4 gen ++ be 1 pl ++ [0, 0, 0])) rfl (by rw [bys_append]; rfl) ?_))
      intro a3 c3 w3 h10
      have hs10 := Hsrc.out w3 h10.r.r.r.r
      have hbl : (bys (lpart bs i)).length = pl := by rw [bys_len, Hpl.out]
      have Hbl := hide hbl
      have hsl : (bys (lsec gen bs i)).length = 8 + pl := by rw [bys_len, lsec_len, Hpl.out]
      clear h9 hbl
      go_wp2_with (at_builtin; go_loud (refine wpList_append_rdm rfl _ _ _ rfl 5 i0 _ 1 Try.underlying32 Hi.out hz0 hz1 hz2 rfl rfl rfl h10 hs10 (bys_one _) (by rw [Hbl.out]; unfold maxLen; omega) (by rw [Hbl.out]; omega) (lsec gen bs i).length (bys (lsec gen bs i)) (by rw [Hbl.out, lsec_len, Hpl.out]) (by unfold lsec; rw [Hpl.out]; simp only [bys_append, List.append_assoc]) ?_))
      intro a4 c4 w4 h11
      have h12 := h11.drew.cast (show _ = dsk d M * (row 5 1 (.slice a4 (lsec gen bs i).length c4) (lsec gen bs i).length (bys (lsec gen bs i)) * (cel p C 84 * (R * pt w2.heap.size (.cells #[.int .u8 0, .int .u8 0, .int .u8 0] 5)))) by ac_rfl)
      have hw := diskWr_any w0 w4.drew _ d M r (f + i) a4 c4 (lsec gen bs i) (by rw [lsec_len, Hpl.out]; omega) (fun w' hw' => hw'.rd) hrM hwM h12
      have hfi := laneFirst_any w4.drew bank hbk
      have q0 : w4.drew.cell? ⟨p, 0, none⟩ = some (.pointer (some ⟨d, 0, none⟩)) := At.cell h12.pull3 hC0
      have q1 : w4.drew.cell? ⟨p, 1, none⟩ = some (.int .i64 r) := At.cell h12.pull3 hC1
      change Calls _ _ _ _ (fun e w' => e = .returned (.int .i64 (fst bank : Nat)) ∧ w4.drew = w') at hfi
      rw [hfe] at hfi
      rw [Int.natCast_add] at hw
      obtain ⟨W, hW⟩ : ∃ W, M.wr r (f + i) (lsec gen bs i) = W := ⟨_, rfl⟩
      rw [hW] at hw
      have hwf := IntWalk.i64_in ((f : Int) + (i : Int)) (by omega)
      have HW := hide hW
      obtain ⟨LS, hLS⟩ : ∃ LS, lsec gen bs i = LS := ⟨_, rfl⟩
      rw [hLS] at hw
      clear h10 h11 hs10 hsl hW
      go_wp2_with fail
      rw [hLS]
      go_region_held3 (fun w' => w'.cell? ⟨p, 0, none⟩ = some (.pointer (some ⟨d, 0, none⟩)) ∧ w'.cell? ⟨p, 1, none⟩ = some (.int .i64 r)) (first | exact ⟨q0, q1⟩ | exact ⟨At.cell h13.pull3 hC0, At.cell h13.pull3 hC1⟩) (first | ((with_reducible refine hfi.mono ?_); rintro e w5 ⟨rfl, rfl⟩) | ((with_reducible refine hw.mono ?_); rintro e w6 ⟨rfl, h13⟩))
      have h14 : At w0 (cel p C 84 * (dsk d W.2 * R)) w6 := (h13.cast (show _ = cel p C 84 * (dsk d W.2 * R) * (row 5 1 (.slice a4 LS.length c4) LS.length (bys LS) * pt w2.heap.size (.cells #[.int .u8 0, .int .u8 0, .int .u8 0] 5)) by ac_rfl)).l
      have hk := M.wr_keeps r (f + i) (lsec gen bs i)
      rw [HW.out] at hk
      have Hk := hide hk
      have hres2 : thenD W (Dk.lays r f gen bs (N - (i + 1)) (i + 1)) = res := by
        rw [← HM.out.1, show N - i = (N - (i + 1)) + 1 by omega, Dk.lays_succ, HW.out]
      clear hw hfi h13 h12 q0 q1 hwf hk hwp
      by_cases he0 : W.1 = 0
      · rw [thenD_0 he0] at hres2
        have Hres2 := hide hres2
        have he0z : (W.1 : Int) = 0 := by omega
        rw [he0z]
        clear hres2 he0z
        go_wp2_with fail
        go_roundw
        case rel => exact ⟨i + 1, W.2, by omega, by omega, by go_num, hide ⟨Hres2.out, Hk.out.1.trans HM.out.2.1, Hk.out.2.1.trans HM.out.2.2.1, by have := HM.out.2.2.2; have := Hk.out.2.2; omega⟩, h14⟩
        case measure => simp [intOf]; omega
      · rw [thenD_e he0] at hres2
        subst hres2
        have hne : ¬ ((W.1 : Int) = 0) := by omega
        clear Hk Hres HM Hh
        go_wp2_with fail
        go_ret
        rw [thenD_e he0]
        exact ⟨rfl, h14⟩
    · have hr2 : res = (0, M) := by
        rw [← HM.out.1, show N - i = 0 by omega]; rfl
      subst hr2
      have hni : ¬ (i * 56 < bs.length) := fun h => hil ((HNs.out i).2 h)
      have hniz : ¬ ((i : Int) * 56 < (bs.length : Int)) := by omega
      have h6 := h5.pull2.drew
      have hb := diskBar_any w0 wr.drew _ d M r hrM hwM h6
      have q0 : wr.drew.cell? ⟨p, 0, none⟩ = some (.pointer (some ⟨d, 0, none⟩)) := At.cell h6.pull2 hC0
      have q1 : wr.drew.cell? ⟨p, 1, none⟩ = some (.int .i64 r) := At.cell h6.pull2 hC1
      obtain ⟨W, hW⟩ : ∃ W, M.bar r = W := ⟨_, rfl⟩
      rw [hW] at hb
      have HW := hide hW
      clear Hh Hres HM hW hni
      go_wp2_with fail
      go_region_held3 (fun w' => w'.cell? ⟨p, 0, none⟩ = some (.pointer (some ⟨d, 0, none⟩)) ∧ w'.cell? ⟨p, 1, none⟩ = some (.int .i64 r)) (first | exact ⟨q0, q1⟩ | exact ⟨At.cell h13.pull2 hC0, At.cell h13.pull2 hC1⟩) (first | ((with_reducible refine hb.mono ?_); rintro e w6 ⟨rfl, h13⟩))
      all_goals
        go_wp2_with fail
        go_ret
        rw [thenD_0 (show ((0, M) : Nat × Dk).1 = 0 from rfl), show (M.bar r) = W from HW.out]
        exact ⟨rfl, h13.pull2⟩
end Go.Proofs.Ytmlifjfgelfbbaa
