/-
  record.say: what it comes to, in terms of blocks: a contract, no statement.
-/
import Derived.Test.YtmlifjfgelfbbaaRc
import Derived.Test.YtmlifjfgelfbbaaRR
import Derived.Deep.RegionHeld3
import Derived.Deep.RegionLaw
namespace Go.Proofs.Ytmlifjfgelfbbaa
open Go Go.RowKit

/-- The first i numbers of eight bytes, and the reader behind them. -/
def sayN (s : Rs) : Nat → List Nat × Rs
  | 0 => ([], s)
  | i + 1 => ((sayN s i).1 ++ [num ((sayN s i).2.take 8).1], ((sayN s i).2.take 8).2)
theorem sayN_len (s : Rs) : ∀ i, (sayN s i).1.length = i ∧ (sayN s i).2.bs.length ≤ s.bs.length
  | 0 => ⟨rfl, Nat.le_refl _⟩
  | i + 1 => by
    obtain ⟨h1, h2⟩ := sayN_len s i
    have h3 := ((sayN s i).2.take_len 8).2
    refine ⟨by rw [sayN]; simp [h1], ?_⟩
    rw [sayN]
    show ((sayN s i).2.take 8).2.bs.length ≤ _
    omega
def tx (l : List UInt8) : ByteArray := ⟨l.toArray⟩
/-- What a frame's body says. -/
def sayP (bs : List UInt8) : Rec × Bool :=
  let s0 : Rs := ⟨bs, false⟩
  let s1 := (s0.take 1).2
  let s2 := (s1.take 1).2
  let s3 := (s2.take 1).2
  let s4 := (s3.take 1).2
  let s5 := s4.text.2
  let s6 := s5.text.2
  let s7 := (s6.take 2).2
  let s8 := (s7.take (num (s6.take 2).1)).2
  let s9 := (s8.take 1).2
  let d := sayN s9 (num (s8.take 1).1)
  (⟨num (s0.take 1).1, num (s1.take 1).1, num (s2.take 1).1, num (s3.take 1).1, tx s4.text.1, tx s5.text.1, tx (s7.take (num (s6.take 2).1)).1, d.1⟩, !d.2.bad && ((d.2.bs.length : Int) == 0))
theorem text_len (s : Rs) : s.text.2.bs.length ≤ s.bs.length := by
  have h1 := (s.take_len 1).2
  have h2 := ((s.take 1).2.take_len (num (s.take 1).1)).2
  show ((s.take 1).2.take (num (s.take 1).1)).2.bs.length ≤ _
  omega

theorem lit1 : ((1 : Nat) : Int) = 1 := rfl
theorem lit2 : ((2 : Nat) : Int) = 2 := rfl
theorem lit4 : ((4 : Nat) : Int) = 4 := rfl
theorem lit8 : ((8 : Nat) : Int) = 8 := rfl
theorem Try.info64 : (Try.prog.info? 37).map (fun i => (i.zero, i.size, i.bytes)) = some (some (.int .u64 0), 1, 8) := by kernel_rfl

set_option maxRecDepth 100000 in
set_option maxHeartbeats 4000000 in
theorem recSay_any (w0 w : World) (A : HP) (a : Option Addr) (c : Nat) (bs : List UInt8) (hm : bs.length ≤ 1000000000) (hA : RdIn w0 A (.slice a bs.length c) bs) (h : At w0 A w) :
    Calls Try.prog 61 #[.slice a bs.length c] w fun e w' => ∃ a1 c1, e = .returned (.tuple #[.agg ((sayP bs).1.cells (.slice a1 (sayP bs).1.dirty.length c1)).toArray, .bool (sayP bs).2]) ∧
      At w0 (row 37 1 (.slice a1 (sayP bs).1.dirty.length c1) (sayP bs).1.dirty.length (nus (sayP bs).1.dirty) * A) w' := by
  obtain ⟨i0, hi, hz0, hz1, hz2⟩ := info_parts Try.info64
  obtain ⟨T, hT⟩ : ∃ T, sayP bs = T := ⟨_, rfl⟩
  rw [hT]
  unfold sayP at hT
  simp only at hT
  obtain ⟨s0, hs0⟩ : ∃ s : Rs, (⟨bs, false⟩ : Rs) = s := ⟨_, rfl⟩
  rw [hs0] at hT
  have hb0 : s0.bs.length = bs.length := by rw [← hs0]
  have l1 := (s0.take_len 1).2
  have m1 := s0.take_num 1
  obtain ⟨s1, hs1⟩ : ∃ s : Rs, (s0.take 1).2 = s := ⟨_, rfl⟩
  rw [hs1] at hT l1
  have l2 := (s1.take_len 1).2
  have m2 := s1.take_num 1
  obtain ⟨s2, hs2⟩ : ∃ s : Rs, (s1.take 1).2 = s := ⟨_, rfl⟩
  rw [hs2] at hT l2
  have l3 := (s2.take_len 1).2
  have m3 := s2.take_num 1
  obtain ⟨s3, hs3⟩ : ∃ s : Rs, (s2.take 1).2 = s := ⟨_, rfl⟩
  rw [hs3] at hT l3
  have l4 := (s3.take_len 1).2
  have m4 := s3.take_num 1
  obtain ⟨s4, hs4⟩ : ∃ s : Rs, (s3.take 1).2 = s := ⟨_, rfl⟩
  rw [hs4] at hT l4
  have l5 := text_len s4
  obtain ⟨s5, hs5⟩ : ∃ s : Rs, s4.text.2 = s := ⟨_, rfl⟩
  rw [hs5] at hT l5
  have l6 := text_len s5
  obtain ⟨s6, hs6⟩ : ∃ s : Rs, s5.text.2 = s := ⟨_, rfl⟩
  rw [hs6] at hT l6
  have l7 := (s6.take_len 2).2
  have m7 := s6.take_num 2
  obtain ⟨s7, hs7⟩ : ∃ s : Rs, (s6.take 2).2 = s := ⟨_, rfl⟩
  rw [hs7] at hT l7
  have l8 := (s7.take_len (num (s6.take 2).1)).2
  obtain ⟨s8, hs8⟩ : ∃ s : Rs, (s7.take (num (s6.take 2).1)).2 = s := ⟨_, rfl⟩
  rw [hs8] at hT l8
  have l9 := (s8.take_len 1).2
  have m9 := s8.take_num 1
  obtain ⟨s9, hs9⟩ : ∃ s : Rs, (s8.take 1).2 = s := ⟨_, rfl⟩
  rw [hs9] at hT l9
  have n1 := fun w b a c F => packNum_any w0 w A F b a c 1 s0 (by decide) (by decide) (by omega)
  have n2 := fun w b a c F => packNum_any w0 w A F b a c 1 s1 (by decide) (by decide) (by omega)
  have n3 := fun w b a c F => packNum_any w0 w A F b a c 1 s2 (by decide) (by decide) (by omega)
  have n4 := fun w b a c F => packNum_any w0 w A F b a c 1 s3 (by decide) (by decide) (by omega)
  have n5 := fun w b a c F => packRText_any w0 w A F b a c s4 (by omega)
  have n6 := fun w b a c F => packRText_any w0 w A F b a c s5 (by omega)
  have n7 := fun w b a c F => packNum_any w0 w A F b a c 2 s6 (by decide) (by decide) (by omega)
  have n8 := fun w b a c F => packTake_any w0 w A F b a c (num (s6.take 2).1) s7 (by omega)
  have n9 := fun w b a c F => packNum_any w0 w A F b a c 1 s8 (by decide) (by decide) (by omega)
  rw [hs1] at n1
  rw [hs2] at n2
  rw [hs3] at n3
  rw [hs4] at n4
  rw [hs5] at n5
  rw [hs6] at n6
  rw [hs7] at n7
  rw [hs8] at n8
  rw [hs9] at n9
  clear hs1 hs2 hs3 hs4 hs5 hs6 hs7 hs8 hs9
  simp only [Nat.pow_one] at m1 m2 m3 m4 m9
  generalize num (s0.take 1).1 = x1 at *
  generalize num (s1.take 1).1 = x2 at *
  generalize num (s2.take 1).1 = x3 at *
  generalize num (s3.take 1).1 = x4 at *
  generalize s4.text.1 = x5 at *
  generalize s5.text.1 = x6 at *
  generalize num (s6.take 2).1 = x7 at *
  generalize (s7.take x7).1 = x8 at *
  generalize num (s8.take 1).1 = x9 at *
  simp only [lit1, lit2] at n1 n2 n3 n4 n7 n9
  have hd := sayN_len s9 x9
  generalize hD : sayN s9 x9 = D at hT
  have HD := hide hD
  have HT := hide hT
  have M7 := hide m7
  clear hT hD m7
  have H0 := hide hs0
  clear hs0
  obtain ⟨RB, hRB⟩ : ∃ N, w.heap.size = N := ⟨_, rfl⟩
  have h1 := h.alloc' hRB (.cells #[.int .i64 0, .int .i64 0, .int .i64 0, .int .i64 0, .string ⟨#[]⟩, .string ⟨#[]⟩, .string ⟨#[]⟩, .slice none 0 0] 52)
  have hnew := packNew_any w0 _ _ (.slice a bs.length c) h1 ⟨_, _, _, rfl⟩
  have HRB := hide hRB
  have HA := hide hA
  clear hRB h1 hA
  go_enter Try.func61, Try.ntmps61
  go_wp2_with fail
  rw [HRB.out]
  refine hnew.mono ?_
  rintro e w1 ⟨b, rfl, h2⟩
  clear hnew HRB
  have hr0 := HA.out
  have h3 : At w0 (rdr b a c s0 * (cel RB #[.int .i64 0, .int .i64 0, .int .i64 0, .int .i64 0, .string ⟨#[]⟩, .string ⟨#[]⟩, .string ⟨#[]⟩, .slice none 0 0] 52 * A)) w1 := by rw [← H0.out]; exact h2
  have hr1 : RdIn w0 A (.slice a s0.bs.length c) s0.bs := by rw [← H0.out]; exact hr0
  have k1 := n1 _ _ _ _ _ hr1 h3
  clear n1 h2 h3 hr0 hr1 HA
  go_wp2_with fail
  refine k1.mono ?_
  rintro e w2 ⟨a2, c2, rfl, hr2, h4⟩
  have k2 := n2 _ _ _ _ _ hr2 h4
  clear k1 hr2 h4 n2
  go_wp2_with fail
  refine k2.mono ?_
  rintro e w3 ⟨a3, c3, rfl, hr3, h5⟩
  have k3 := n3 _ _ _ _ _ hr3 h5
  clear k2 hr3 h5 n3
  go_wp2_with fail
  refine k3.mono ?_
  rintro e w4 ⟨a4, c4, rfl, hr4, h6⟩
  have k4 := n4 _ _ _ _ _ hr4 h6
  clear k3 hr4 h6 n4
  go_wp2_with fail
  refine k4.mono ?_
  rintro e w5 ⟨a5, c5, rfl, hr5, h7⟩
  clear k4
  obtain ⟨X, hX⟩ : ∃ N, w5.heap.size = N := ⟨_, rfl⟩
  have h8 := (h7.alloc' hX (.cells #[.int .i64 x1, .int .i64 x2, .int .i64 x3, .int .i64 x4, .string ⟨#[]⟩, .string ⟨#[]⟩, .string ⟨#[]⟩, .slice none 0 0] 52)).pull2
  have h9 := h8.cast (show _ = rdr b a5 c5 s4 * ((cel RB #[.int .i64 0, .int .i64 0, .int .i64 0, .int .i64 0, .string ⟨#[]⟩, .string ⟨#[]⟩, .string ⟨#[]⟩, .slice none 0 0] 52 * cel X #[.int .i64 x1, .int .i64 x2, .int .i64 x3, .int .i64 x4, .string ⟨#[]⟩, .string ⟨#[]⟩, .string ⟨#[]⟩, .slice none 0 0] 52) * A) by
    show _ * (cel X _ _ * _) = _
    ac_rfl)
  have k5 := n5 _ _ _ _ _ hr5 h9
  have HX := hide hX
  clear hr5 h7 h8 h9 n5 hX
  go_wp2_with fail
  rw [HX.out]
  clear HX
  refine k5.mono ?_
  rintro e w6 ⟨a6, c6, rfl, hr6, h10⟩
  have k6 := n6 _ _ _ _ _ hr6 h10
  unfold str
  clear k5 hr6 h10 n6
  go_wp2_with fail
  refine k6.mono ?_
  rintro e w7 ⟨a7, c7, rfl, hr7, h11⟩
  have h12 := h11.cast (show _ = cel X #[.int .i64 x1, .int .i64 x2, .int .i64 x3, .int .i64 x4, .string ⟨#[]⟩, .string ⟨#[]⟩, .string ⟨#[]⟩, .slice none 0 0] 52 * (rdr b a7 c7 s6 * (cel RB #[.int .i64 0, .int .i64 0, .int .i64 0, .int .i64 0, .string ⟨#[]⟩, .string ⟨#[]⟩, .string ⟨#[]⟩, .slice none 0 0] 52 * A)) by ac_rfl)
  have e4 := At.cell (i := 4) h12 rfl
  have e5 := At.cell (i := 5) h12 rfl
  have f4 := At.frz h12 4
  have f5 := At.frz h12 5
  have fl := At.lt h12
  unfold str
  clear k6 h11
  go_wp2_with fail
  have h13 := (h12.set' (d := #[.int .i64 x1, .int .i64 x2, .int .i64 x3, .int .i64 x4, .string (tx x5), .string ⟨#[]⟩, .string ⟨#[]⟩, .slice none 0 0]) 4 (.string (tx x5)) rfl).set' (d := #[.int .i64 x1, .int .i64 x2, .int .i64 x3, .int .i64 x4, .string (tx x5), .string (tx x6), .string ⟨#[]⟩, .slice none 0 0]) 5 (.string (tx x6)) rfl
  have h14 := h13.cast (show _ = rdr b a7 c7 s6 * ((cel RB #[.int .i64 0, .int .i64 0, .int .i64 0, .int .i64 0, .string ⟨#[]⟩, .string ⟨#[]⟩, .string ⟨#[]⟩, .slice none 0 0] 52 * cel X #[.int .i64 x1, .int .i64 x2, .int .i64 x3, .int .i64 x4, .string (tx x5), .string (tx x6), .string ⟨#[]⟩, .slice none 0 0] 52) * A) by ac_rfl)
  have k7 := n7 _ _ _ _ _ hr7 h14
  clear h12 h13 h14 hr7 n7 f4 f5 fl e4 e5
  refine k7.mono ?_
  rintro e w8 ⟨a8, c8, rfl, hr8, h15⟩
  have k8 := n8 _ _ _ _ _ hr8 h15
  clear k7 hr8 h15 n8
  have m7 := M7.out
  go_wp2_with fail
  refine k8.mono ?_
  rintro e w9 ⟨a9, c9, a10, c10, rfl, hr9, h16⟩
  have hcv := run_txt (P := Try.prog) 32 5 9 Try.underlying32 Try.underlying5 Try.underlying9 h16.rd
  have h17 := h16.r.cast (show _ = cel X #[.int .i64 x1, .int .i64 x2, .int .i64 x3, .int .i64 x4, .string (tx x5), .string (tx x6), .string ⟨#[]⟩, .slice none 0 0] 52 * (rdr b a10 c10 s8 * (cel RB #[.int .i64 0, .int .i64 0, .int .i64 0, .int .i64 0, .string ⟨#[]⟩, .string ⟨#[]⟩, .string ⟨#[]⟩, .slice none 0 0] 52 * A)) by ac_rfl)
  have e6 := At.cell (i := 6) h17 rfl
  have f6 := At.frz h17 6
  have fl := At.lt h17
  unfold str at hcv
  clear k8 h16 m7
  go_wp2_with fail
  have h18 := h17.set' (d := #[.int .i64 x1, .int .i64 x2, .int .i64 x3, .int .i64 x4, .string (tx x5), .string (tx x6), .string (tx x8), .slice none 0 0]) 6 (.string (tx x8)) rfl
  have h19 := h18.cast (show _ = rdr b a10 c10 s8 * ((cel RB #[.int .i64 0, .int .i64 0, .int .i64 0, .int .i64 0, .string ⟨#[]⟩, .string ⟨#[]⟩, .string ⟨#[]⟩, .slice none 0 0] 52 * cel X #[.int .i64 x1, .int .i64 x2, .int .i64 x3, .int .i64 x4, .string (tx x5), .string (tx x6), .string (tx x8), .slice none 0 0] 52) * A) by ac_rfl)
  have k9 := n9 _ _ _ _ _ hr9 h19
  clear h17 h18 h19 hr9 n9 f6 fl hcv e6
  refine k9.mono ?_
  rintro e w10 ⟨a11, c11, rfl, hr10, h20⟩
  clear k9
  go_wp2_with fail
  go_loopw [36] (fun u36 wr => ∃ (i : Nat) (ar : Option Addr) (cp : Nat) (aa : Option Addr) (cc : Nat), i ≤ x9 ∧ u36 = .int .u64 i ∧ RdIn w0 A (.slice aa (sayN s9 i).2.bs.length cc) (sayN s9 i).2.bs ∧
      At w0 (rdr b aa cc (sayN s9 i).2 * ((row 37 1 (.slice ar i cp) i (nus (sayN s9 i).1) * (cel RB #[.int .i64 0, .int .i64 0, .int .i64 0, .int .i64 0, .string ⟨#[]⟩, .string ⟨#[]⟩, .string ⟨#[]⟩, .slice none 0 0] 52 * cel X #[.int .i64 x1, .int .i64 x2, .int .i64 x3, .int .i64 x4, .string (tx x5), .string (tx x6), .string (tx x8), .slice ar i cp] 52)) * A)) wr) (fun u _ => x9 - (match u with | .int _ n => n.toNat | _ => 0))
  case atStart =>
    refine ⟨0, none, 0, a11, c11, Nat.zero_le _, rfl, hr10, ?_⟩
    rw [show row 37 1 (.slice none 0 0) 0 (nus (sayN s9 0).1) = 1 from row_nil _ _, HP.one_mul]
    exact h20
  case round =>
    obtain ⟨i, ar, cp, aa, cc, hi9, rfl, hrd, h21⟩ := hrel
    clear h20 hr10
    by_cases hil : i < x9
    · have hsl := sayN_len s9 i
      have HS := hide (show sayN s9 (i + 1) = ((sayN s9 i).1 ++ [num ((sayN s9 i).2.take 8).1], ((sayN s9 i).2.take 8).2) from rfl)
      obtain ⟨S2, hS2⟩ : ∃ S2, sayN s9 (i + 1) = S2 := ⟨_, rfl⟩
      have HS2 := hide hS2
      rw [hS2] at HS
      clear hS2
      have tl := ((sayN s9 i).2.take_len 8).2
      have k10 := packNum_any w0 _ A _ b aa cc 8 (sayN s9 i).2 (by decide) (by decide) (by omega) hrd h21.drew
      simp only [lit8] at k10
      generalize num ((sayN s9 i).2.take 8).1 = y at *
      generalize ((sayN s9 i).2.take 8).2 = Sn at *
      generalize (sayN s9 i).2 = Si at *
      generalize (sayN s9 i).1 = Li at *
      have h22 := h21.drew.cast (show _ = cel X #[.int .i64 x1, .int .i64 x2, .int .i64 x3, .int .i64 x4, .string (tx x5), .string (tx x6), .string (tx x8), .slice ar i cp] 52 * (rdr b aa cc Si * (row 37 1 (.slice ar i cp) i (nus Li) * (cel RB #[.int .i64 0, .int .i64 0, .int .i64 0, .int .i64 0, .string ⟨#[]⟩, .string ⟨#[]⟩, .string ⟨#[]⟩, .slice none 0 0] 52 * A))) by ac_rfl)
      have q7 := At.cell (i := 7) h22 rfl
      have hnl : (nus Li).length = i := by rw [nus_len]; exact hsl.1
      have Hnl := hide hnl
      clear hrd hsl hnl
      go_wp2_with fail
      go_region_law (first | (go_simp; go_at_call 48; (with_reducible refine k10.mono ?_); rintro e w11 ⟨a12, c12, rfl, hr11, h23⟩; have h24 := h23.cast (show _ = cel X #[.int .i64 x1, .int .i64 x2, .int .i64 x3, .int .i64 x4, .string (tx x5), .string (tx x6), .string (tx x8), .slice ar i cp] 52 * (row 37 1 (.slice ar i cp) i (nus Li) * (rdr b a12 c12 Sn * (cel RB #[.int .i64 0, .int .i64 0, .int .i64 0, .int .i64 0, .string ⟨#[]⟩, .string ⟨#[]⟩, .string ⟨#[]⟩, .slice none 0 0] 52 * A))) by ac_rfl); have h25 := (h24.alloc (.cells #[.int .u64 y] 37)).pull3; have u1 := At.cell (i := 7) h24 rfl; have u2 := At.cell (i := 7) h25.pull3 rfl) | ((refine step_append_rd rfl _ _ _ rfl 37 i0 _ 8 Try.underlying50 hi hz0 hz1 hz2 rfl rfl rfl h25 (Rd.new w11 [.int .u64 y] 37 rfl rfl) (one_cells1 rfl) (by unfold maxLen; simp; omega) (by simp; omega) (i + 1) (nus (Li ++ [y])) rfl (by simp [nus]) ?_); intro a13 c13 w12 h26; have u7 := At.cell (i := 7) h26.pull3 rfl; have u8 := At.frz h26.pull3 7; have u9 := At.lt h26.pull3))
      all_goals
        have h27 := (h26.pull3.set' (d := #[.int .i64 x1, .int .i64 x2, .int .i64 x3, .int .i64 x4, .string (tx x5), .string (tx x6), .string (tx x8), .slice a13 (i + 1) c13]) 7 (.slice a13 (i + 1) c13) rfl).pull3.r
        have h28 := h27.cast (show _ = rdr b a12 c12 Sn * ((row 37 1 (.slice a13 (i + 1) c13) (i + 1) (nus (Li ++ [y])) * (cel RB #[.int .i64 0, .int .i64 0, .int .i64 0, .int .i64 0, .string ⟨#[]⟩, .string ⟨#[]⟩, .string ⟨#[]⟩, .slice none 0 0] 52 * cel X #[.int .i64 x1, .int .i64 x2, .int .i64 x3, .int .i64 x4, .string (tx x5), .string (tx x6), .string (tx x8), .slice a13 (i + 1) c13] 52)) * A) by
          show cel X _ _ * (_ * _) = _
          ac_rfl)
        clear h21 h22 h23 h24 h25 h26 h27 q7 u1 u2 u7 u8 u9 k10
        go_wp2_with fail
        go_roundw
        case rel =>
          refine ⟨i + 1, a13, c13, a12, c12, by omega, by go_num, ?_⟩
          rw [show sayN s9 (i + 1) = (Li ++ [y], Sn) from HS2.out.trans HS.out]
          exact ⟨hr11, h28⟩
        case measure => simp; omega
    · obtain rfl : x9 = i := by omega
      rw [HD.out] at hrd h21
      have hdl : D.1.length = x9 := by rw [← HD.out]; exact hd.1
      clear hd HD
      obtain ⟨Ld, Sd⟩ := D
      obtain ⟨bsd, bad⟩ := Sd
      simp only at hdl hrd h21 HT
      have h22 := h21.cast (show _ = cel X #[.int .i64 x1, .int .i64 x2, .int .i64 x3, .int .i64 x4, .string (tx x5), .string (tx x6), .string (tx x8), .slice ar x9 cp] 52 * (rdr b aa cc ⟨bsd, bad⟩ * (row 37 1 (.slice ar x9 cp) x9 (nus Ld) * (cel RB #[.int .i64 0, .int .i64 0, .int .i64 0, .int .i64 0, .string ⟨#[]⟩, .string ⟨#[]⟩, .string ⟨#[]⟩, .slice none 0 0] 52 * A))) by ac_rfl)
      have h23 := h22.pull4
      have g0 := At.cell (i := 0) h22 rfl
      have g1 := At.cell (i := 1) h22 rfl
      have g2 := At.cell (i := 2) h22 rfl
      have g3 := At.cell (i := 3) h22 rfl
      have g4 := At.cell (i := 4) h22 rfl
      have g5 := At.cell (i := 5) h22 rfl
      have g6 := At.cell (i := 6) h22 rfl
      have g7 := At.cell (i := 7) h22 rfl
      have v0 := At.cell (i := 0) h23 rfl
      have f0 := At.frz h23 0
      have v1 := At.cell (i := 1) h23 rfl
      have f1 := At.frz h23 1
      have v2 := At.cell (i := 2) h23 rfl
      have f2 := At.frz h23 2
      have v3 := At.cell (i := 3) h23 rfl
      have f3 := At.frz h23 3
      have v4 := At.cell (i := 4) h23 rfl
      have f4 := At.frz h23 4
      have v5 := At.cell (i := 5) h23 rfl
      have f5 := At.frz h23 5
      have v6 := At.cell (i := 6) h23 rfl
      have f6 := At.frz h23 6
      have v7 := At.cell (i := 7) h23 rfl
      have f7 := At.frz h23 7
      have fl := At.lt h23
      have kb := (packBad_any w0 _ _ b _ bad h22.drew.pull2).mono (R' := fun e w' => e = .returned (.bool bad) ∧ w' = wr.drew) fun _ _ ⟨he, hw⟩ => ⟨he, hw.symm⟩
      have kr := (packRest_any w0 _ _ b aa bsd.length cc bad h22.drew.pull2).mono (R' := fun e w' => e = .returned (.int .i64 bsd.length) ∧ w' = wr.drew) fun _ _ ⟨he, hw⟩ => ⟨he, hw.symm⟩
      clear h21 hrd
      cases bad with
      | true =>
        go_wp2_with fail
        refine wp_region_mix_line 7 [7, 8, 9, 10] rfl (by kernel_rfl) ?_
        simp only [List.take_succ_cons, List.take_zero]
        still_step
        still_step
        still_call kb
        repeat still_step
        refine wpStill_nil ?_
        simp only [picks_cons, picks_nil, getD_zero, getD_succ]
        go_wp2_with fail
        refine ⟨by kernel_rfl, ?_⟩
        go_wp2_with fail
        have h24 := ((((((((h23.set' (d := #[.int .i64 x1, .int .i64 0, .int .i64 0, .int .i64 0, .string ⟨#[]⟩, .string ⟨#[]⟩, .string ⟨#[]⟩, .slice none 0 0]) 0 (.int .i64 x1) rfl).set' (d := #[.int .i64 x1, .int .i64 x2, .int .i64 0, .int .i64 0, .string ⟨#[]⟩, .string ⟨#[]⟩, .string ⟨#[]⟩, .slice none 0 0]) 1 (.int .i64 x2) rfl).set' (d := #[.int .i64 x1, .int .i64 x2, .int .i64 x3, .int .i64 0, .string ⟨#[]⟩, .string ⟨#[]⟩, .string ⟨#[]⟩, .slice none 0 0]) 2 (.int .i64 x3) rfl).set' (d := #[.int .i64 x1, .int .i64 x2, .int .i64 x3, .int .i64 x4, .string ⟨#[]⟩, .string ⟨#[]⟩, .string ⟨#[]⟩, .slice none 0 0]) 3 (.int .i64 x4) rfl).set' (d := #[.int .i64 x1, .int .i64 x2, .int .i64 x3, .int .i64 x4, .string (tx x5), .string ⟨#[]⟩, .string ⟨#[]⟩, .slice none 0 0]) 4 (.string (tx x5)) rfl).set' (d := #[.int .i64 x1, .int .i64 x2, .int .i64 x3, .int .i64 x4, .string (tx x5), .string (tx x6), .string ⟨#[]⟩, .slice none 0 0]) 5 (.string (tx x6)) rfl).set' (d := #[.int .i64 x1, .int .i64 x2, .int .i64 x3, .int .i64 x4, .string (tx x5), .string (tx x6), .string (tx x8), .slice none 0 0]) 6 (.string (tx x8)) rfl).set' (d := #[.int .i64 x1, .int .i64 x2, .int .i64 x3, .int .i64 x4, .string (tx x5), .string (tx x6), .string (tx x8), .slice ar x9 cp]) 7 (.slice ar x9 cp) rfl).drew
        have r0 := At.cell (i := 0) h24 rfl
        have r1 := At.cell (i := 1) h24 rfl
        have r2 := At.cell (i := 2) h24 rfl
        have r3 := At.cell (i := 3) h24 rfl
        have r4 := At.cell (i := 4) h24 rfl
        have r5 := At.cell (i := 5) h24 rfl
        have r6 := At.cell (i := 6) h24 rfl
        have r7 := At.cell (i := 7) h24 rfl
        have ht := HT.out
        subst ht
        refine bodyPost_ret (v := .tuple #[.agg #[.int .i64 x1, .int .i64 x2, .int .i64 x3, .int .i64 x4, .string (tx x5), .string (tx x6), .string (tx x8), .slice ar x9 cp], .bool false]) (by simp [results, Try.results61, go_sem, r0, r1, r2, r3, r4, r5, r6, r7]) rfl ?_
        refine ⟨ar, cp, ?_, ?_⟩
        · simp only [Rec.cells, hdl]
          rfl
        · simp only [hdl]
          exact h24.r.r.r
      | false =>
        go_wp2_with fail
        refine wp_region_mix_line 7 [7, 8, 9, 10] rfl (by kernel_rfl) ?_
        simp only [List.take_succ_cons, List.take_zero]
        still_step
        still_step
        still_call kb
        still_step
        still_step
        still_step
        still_call kr
        repeat still_step
        refine wpStill_nil ?_
        simp only [picks_cons, picks_nil, getD_zero, getD_succ]
        go_wp2_with fail
        refine ⟨by kernel_rfl, ?_⟩
        go_wp2_with fail
        have h24 := ((((((((h23.set' (d := #[.int .i64 x1, .int .i64 0, .int .i64 0, .int .i64 0, .string ⟨#[]⟩, .string ⟨#[]⟩, .string ⟨#[]⟩, .slice none 0 0]) 0 (.int .i64 x1) rfl).set' (d := #[.int .i64 x1, .int .i64 x2, .int .i64 0, .int .i64 0, .string ⟨#[]⟩, .string ⟨#[]⟩, .string ⟨#[]⟩, .slice none 0 0]) 1 (.int .i64 x2) rfl).set' (d := #[.int .i64 x1, .int .i64 x2, .int .i64 x3, .int .i64 0, .string ⟨#[]⟩, .string ⟨#[]⟩, .string ⟨#[]⟩, .slice none 0 0]) 2 (.int .i64 x3) rfl).set' (d := #[.int .i64 x1, .int .i64 x2, .int .i64 x3, .int .i64 x4, .string ⟨#[]⟩, .string ⟨#[]⟩, .string ⟨#[]⟩, .slice none 0 0]) 3 (.int .i64 x4) rfl).set' (d := #[.int .i64 x1, .int .i64 x2, .int .i64 x3, .int .i64 x4, .string (tx x5), .string ⟨#[]⟩, .string ⟨#[]⟩, .slice none 0 0]) 4 (.string (tx x5)) rfl).set' (d := #[.int .i64 x1, .int .i64 x2, .int .i64 x3, .int .i64 x4, .string (tx x5), .string (tx x6), .string ⟨#[]⟩, .slice none 0 0]) 5 (.string (tx x6)) rfl).set' (d := #[.int .i64 x1, .int .i64 x2, .int .i64 x3, .int .i64 x4, .string (tx x5), .string (tx x6), .string (tx x8), .slice none 0 0]) 6 (.string (tx x8)) rfl).set' (d := #[.int .i64 x1, .int .i64 x2, .int .i64 x3, .int .i64 x4, .string (tx x5), .string (tx x6), .string (tx x8), .slice ar x9 cp]) 7 (.slice ar x9 cp) rfl).drew
        have r0 := At.cell (i := 0) h24 rfl
        have r1 := At.cell (i := 1) h24 rfl
        have r2 := At.cell (i := 2) h24 rfl
        have r3 := At.cell (i := 3) h24 rfl
        have r4 := At.cell (i := 4) h24 rfl
        have r5 := At.cell (i := 5) h24 rfl
        have r6 := At.cell (i := 6) h24 rfl
        have r7 := At.cell (i := 7) h24 rfl
        have ht := HT.out
        subst ht
        refine bodyPost_ret (v := .tuple #[.agg #[.int .i64 x1, .int .i64 x2, .int .i64 x3, .int .i64 x4, .string (tx x5), .string (tx x6), .string (tx x8), .slice ar x9 cp], .bool ((bsd.length : Int) == 0)]) (by simp [results, Try.results61, go_sem, r0, r1, r2, r3, r4, r5, r6, r7]) rfl ?_
        refine ⟨ar, cp, ?_, ?_⟩
        · simp only [Rec.cells, hdl]
          rfl
        · simp only [hdl]
          exact h24.r.r.r
end Go.Proofs.Ytmlifjfgelfbbaa
