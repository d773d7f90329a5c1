/-
  The package lane: stream: what it comes to: a contract, no statement.
-/
import Derived.Test.YtmlifjfgelfbbaaLn
namespace Go.Proofs.Ytmlifjfgelfbbaa
open Go Go.RowKit

/-- A bank's bytes, as its sectors tell. -/
def strm (m : Dk) (r f gen : Nat) : Nat → Nat → List UInt8
  | 0, _ => []
  | n + 1, s => if num ((m.sec r (f + s)).take 4) = gen then
      (((m.sec r (f + s)).drop 8).take (min (num (((m.sec r (f + s)).drop 4).take 1)) 56)) ++ (if num (((m.sec r (f + s)).drop 4).take 1) < 56 then [] else strm m r f gen n (s + 1)) else []
theorem strm_succ (m : Dk) (r f gen n s : Nat) {x : List UInt8} (hx : m.sec r (f + s) = x) : strm m r f gen (n + 1) s = if num (x.take 4) = gen then
      ((x.drop 8).take (min (num ((x.drop 4).take 1)) 56)) ++ (if num ((x.drop 4).take 1) < 56 then [] else strm m r f gen n (s + 1)) else [] := by subst hx; rfl

set_option maxRecDepth 100000 in
set_option maxHeartbeats 8000000 in
theorem laneStream_any (w0 w : World) (R : HP) (p d r : Nat) (L : Ln) (vb : Value) (m : Dk) (hr : r < m.regs.length) (hL : L.bank ≤ 1) (hG : L.gen < 4294967296) (hsz : 514 ≤ m.size) (hwn : m.writes ≤ 1000000000)
    (h : At w0 (cel p (L.cells d r vb) 84 * (dsk d m * R)) w) :
    Calls Try.prog 49 #[.pointer (some ⟨p, 0, none⟩)] w fun e w' => ∃ a c, e = .returned (.tuple #[.slice a (strm m r (fst L.bank) L.gen 256 0).length c, .int .i64 0]) ∧
      At w0 (row 5 1 (.slice a (strm m r (fst L.bank) L.gen 256 0).length c) (strm m r (fst L.bank) L.gen 256 0).length (bys (strm m r (fst L.bank) L.gen 256 0)) * (cel p (L.cells d r vb) 84 * (dsk d m * R))) w' := by
  obtain ⟨i0, hi, hz0, hz1, hz2⟩ := info_parts Try.info8
  obtain ⟨res, hres⟩ : ∃ res, strm m r (fst L.bank) L.gen 256 0 = res := ⟨_, rfl⟩
  rw [hres]
  obtain ⟨C, hC⟩ : ∃ C, L.cells d r vb = C := ⟨_, rfl⟩
  have hC0 : C[0]? = some (.pointer (some ⟨d, 0, none⟩)) := by rw [← hC]; rfl
  have hC1 : C[1]? = some (.int .i64 r) := by rw [← hC]; rfl
  have hC2 : C[2]? = some (.int .u64 L.gen) := by rw [← hC]; rfl
  have hC3 : C[3]? = some (.int .i64 L.bank) := by rw [← hC]; rfl
  rw [hC] at h ⊢
  obtain ⟨f, hf⟩ : ∃ f, fst L.bank = f := ⟨_, rfl⟩
  have hfl : f ≤ 258 := by rw [← hf]; unfold fst; omega
  have hfi := fun w => laneFirst_any w L.bank hL
  change ∀ w, Calls _ _ _ _ (fun e w' => e = .returned (.int .i64 (fst L.bank : Nat)) ∧ w = w') at hfi
  rw [hf] at hres hfi
  have Hfi := hide hfi
  have HG := hide hG
  have Hr := hide hr
  have Hsz := hide hsz
  have Hw := hide hwn
  have Hi := hide hi
  have Hh := hide (h.row_nil 5 1)
  have Hres := hide hres
  obtain ⟨gen, hgen⟩ : ∃ gen, L.gen = gen := ⟨_, rfl⟩
  obtain ⟨bank, hbank⟩ : ∃ bank, L.bank = bank := ⟨_, rfl⟩
  rw [hgen] at hC2 Hres HG
  rw [hbank] at hC3 Hfi
  clear hi hres hC hf hfi hG hr hsz hwn h hL
  go_enter Try.func49, Try.ntmps49
  go_wp2_with fail
  go_loopw [4, 10] (fun u4 u10 wr => ∃ (i : Nat) (ar : Option Addr) (cp : Nat) (out : List UInt8), i ≤ 256 ∧ u10 = .int .i64 i ∧ u4 = .slice ar out.length cp ∧ out.length ≤ i * 56 ∧ Hid (out ++ strm m r f gen (256 - i) i = res) ∧ At w0 (row 5 1 (.slice ar out.length cp) out.length (bys out) * (cel p C 84 * (dsk d m * R))) wr) (fun _ u _ => 256 - (intOf u).toNat)
  case atStart => exact ⟨0, none, 0, [], Nat.zero_le _, rfl, rfl, Nat.zero_le _, hide Hres.out, Hh.out⟩
  case round =>
    obtain ⟨i, ar, cp, out, hi2, rfl, rfl, hol, Ho, h5⟩ := hrel
    by_cases hil : i < 256
    · have hilz : (i : Int) < 256 := by omega
      have h6 := h5.drew.cast (show _ = dsk d m * (cel p C 84 * (row 5 1 (.slice ar out.length cp) out.length (bys out) * R)) by ac_rfl)
      have hrd := diskRead_in w0 wr.drew _ d m r (f + i) Hr.out (by have := Hsz.out; omega) Hw.out h6
      rw [Int.natCast_add] at hrd
      have hxl := Dk.sec_len h6.dsk_open.1 Hr.out (show f + i < m.size by have := Hsz.out; omega)
      obtain ⟨x, hx⟩ : ∃ x, m.sec r (f + i) = x := ⟨_, rfl⟩
      rw [hx] at hrd hxl
      have Hx := hide hx
      have hwf := IntWalk.i64_in ((f : Int) + (i : Int)) (by omega)
      have hfi := Hfi.out wr.drew
      have q0 : wr.drew.cell? ⟨p, 0, none⟩ = some (.pointer (some ⟨d, 0, none⟩)) := At.cell h6.pull2 hC0
      have q1 : wr.drew.cell? ⟨p, 1, none⟩ = some (.int .i64 r) := At.cell h6.pull2 hC1
      have q3 : wr.drew.cell? ⟨p, 3, none⟩ = some (.int .i64 bank) := At.cell h6.pull2 hC3
      have Hxl := hide hxl
      clear h5 hx hxl
      go_wp2_with fail
      go_region_held3 (fun w' => w'.cell? ⟨p, 0, none⟩ = some (.pointer (some ⟨d, 0, none⟩)) ∧ w'.cell? ⟨p, 1, none⟩ = some (.int .i64 r) ∧ w'.cell? ⟨p, 3, none⟩ = some (.int .i64 bank)) (first | exact ⟨q0, q1, q3⟩ | exact ⟨At.cell h7.pull3 hC0, At.cell h7.pull3 hC1, At.cell h7.pull3 hC3⟩) (first | ((with_reducible refine hfi.mono ?_); rintro e w5 ⟨rfl, rfl⟩) | ((with_reducible refine hrd.mono ?_); rintro e w6 ⟨a6, c6, rfl, h7⟩))
      have hn := packNew_any w0 w6 _ (.slice a6 64 c6) h7 ⟨_, _, _, rfl⟩
      clear h6 hrd hfi q0 q1 q3 hwf
      go_wp2_with fail
      refine hn.mono ?_
      rintro e w7 ⟨B, rfl, h8⟩
      have h9 := h8.drew.cast (show _ = rdr B a6 c6 ⟨x, false⟩ * (1 * (row 5 1 (.slice a6 64 c6) 64 (bys x) * (dsk d m * (cel p C 84 * (row 5 1 (.slice ar out.length cp) out.length (bys out) * R))))) by unfold rdr; simp only [Hxl.out, HP.one_mul])
      have hnum := packNum_any w0 w7.drew _ 1 B a6 c6 4 ⟨x, false⟩ (by decide) (by decide) (by show x.length ≤ _; have := Hxl.out; omega) (fun w' h' => by show Rd w' (.slice a6 x.length c6) (bys x); rw [Hxl.out]; exact h'.rd) h9
      rw [show (⟨x, false⟩ : Rs).take 4 = (x.take 4, ⟨x.drop 4, false⟩) by
        unfold Rs.take Rs.fails
        rw [if_neg]
        have := Hxl.out
        simp
        omega] at hnum
      simp only [lit4] at hnum
      have q2 : w7.drew.cell? ⟨p, 2, none⟩ = some (.int .u64 gen) := At.cell (h9.r.r.pull3) hC2
      obtain ⟨g4, hg4⟩ : ∃ g4, num (x.take 4) = g4 := ⟨_, rfl⟩
      rw [hg4] at hnum
      have Hg4 := hide hg4
      clear hn h7 h8 hg4
      go_wp2_with fail
      go_region_held3 (fun w' => w'.cell? ⟨p, 2, none⟩ = some (.int .u64 gen)) (first | exact q2 | exact At.cell h10.r.r.pull3 hC2) (first | ((with_reducible refine hnum.mono ?_); rintro e w8 ⟨a8, c8, rfl, hrd8, h10⟩))
      clear hnum h9 q2
      by_cases hgg : g4 = gen
      · subst hgg
        have hnum2 := packNum_any w0 w8 _ 1 B a8 c8 1 ⟨x.drop 4, false⟩ (by decide) (by decide) (by show (x.drop 4).length ≤ _; rw [List.length_drop]; have := Hxl.out; omega) hrd8 h10
        rw [show (⟨x.drop 4, false⟩ : Rs).take 1 = ((x.drop 4).take 1, ⟨(x.drop 4).drop 1, false⟩) by
          unfold Rs.take Rs.fails
          rw [if_neg]
          have := Hxl.out
          simp
          omega] at hnum2
        simp only [lit1] at hnum2
        have hk := num_lt ((x.drop 4).take 1)
        have hk2 : ((x.drop 4).take 1).length ≤ 1 := by rw [List.length_take]; omega
        have hk3 : num ((x.drop 4).take 1) < 256 := Nat.lt_of_lt_of_le hk (Nat.le_trans (Nat.pow_le_pow_right (by decide) hk2) (by decide))
        obtain ⟨k, hke⟩ : ∃ k, num ((x.drop 4).take 1) = k := ⟨_, rfl⟩
        rw [hke] at hnum2 hk3
        have hstr := strm_succ m r f g4 (256 - (i + 1)) i Hx.out
        rw [if_pos Hg4.out, hke, show 256 - (i + 1) + 1 = 256 - i by omega] at hstr
        have Hstr := hide hstr
        have hwk := IntWalk.i64_in (k : Int) (by omega)
        clear hrd8 h10 hk hk2 hke hstr
        by_cases hk56 : k < 56
        · have hkz : (k : Int) < 56 := by omega
          have Hk56 := hide hk56
          go_wp2_with fail
          refine hnum2.mono ?_
          rintro e w9 ⟨a9, c9, rfl, hrd9, h14⟩
          clear hnum2 hrd9

          have h15 := h14.cast (show _ = row 5 1 (.slice ar out.length cp) out.length (bys out) * (row 5 1 (.slice a6 64 c6) 64 (bys x) * (cel p C 84 * (dsk d m * (R * rdr B a9 c9 ⟨(x.drop 4).drop 1, false⟩)))) by ac_rfl)
          have hsr := h15.pull2.rd
          have hc6 : 64 ≤ c6 := hsr.len.2
          have hsr2 := (hsr.drop (show 8 ≤ 64 by decide)).take (show k ≤ 64 - 8 by omega)
          rw [if_neg (show ¬ (c6 = 8) by omega), bys_drop, bys_take] at hsr2
          have hbl : (bys ((x.drop 8).take k)).length = k := by rw [bys_len, List.length_take, List.length_drop, Hxl.out]; omega
          have hc8 : ¬ (c6 = 8) := by omega
          have hle : 8 + k ≤ c6 := by omega
          have hwn := IntWalk.i64_in (8 + (k : Int)) (by omega)
          clear h14 hsr
          go_upto_region 11 with fail
          refine wp_region_lit ?_
          refine wpList_value rfl (v := .slice ar out.length cp) (by go_simp) ?_
          refine wpList_value rfl (v := .slice a6 64 c6) (by go_simp) ?_
          refine wpList_value rfl (v := .int .i64 k) (by go_simp) ?_
          refine wpList_value rfl (v := .int .i64 (8 + (k : Int))) (by go_simp) ?_
          refine wpList_value rfl (v := .slice (a6.map (·.add (8 * 1))) k (c6 - 8)) (by
            go_simp
            rw [if_pos ⟨by omega, by omega⟩, if_pos (by omega), show (8 + (k : Int)).toNat - 8 = k by omega]) ?_
          refine wpList_append_rdm rfl _ _ _ rfl 5 i0 _ 1 Try.underlying32 Hi.out hz0 hz1 hz2 rfl (by go_simp) (by go_simp) h15 hsr2 (bys_one _) (by rw [hbl]; unfold maxLen; omega) (by rw [hbl]; omega) (out.length + k) (bys (out ++ (x.drop 8).take k)) (by rw [hbl]) (by rw [bys_append]) ?_
          intro a16 c16 w16 h16
          have h17 := (h16.cast (show _ = row 5 1 (.slice a16 (out.length + k) c16) (out.length + k) (bys (out ++ (x.drop 8).take k)) * (cel p C 84 * (dsk d m * R)) * (row 5 1 (.slice a6 64 c6) 64 (bys x) * rdr B a9 c9 ⟨(x.drop 4).drop 1, false⟩) by ac_rfl)).l
          have hol2 : (out ++ (x.drop 8).take k).length = out.length + k := by rw [List.length_append, ← bys_len ((x.drop 8).take k), hbl]
          have Hol2 := hide hol2
          clear h15 hsr2 hbl hc8 hle hwn h16 hol2

          have hres : out ++ (x.drop 8).take k = res := by
            have := Ho.out
            rw [Hstr.out, if_pos Hk56.out, List.append_nil, Nat.min_eq_left (by have := Hk56.out; omega)] at this
            exact this
          clear Ho Hstr Hh Hres
          subst hres
          go_wp2_with fail
          go_ret2
          rw [Hol2.out]
          exact ⟨a16, c16, rfl, h17⟩
        · have hkz : ¬ ((k : Int) < 56) := by omega
          have Hk56 := hide hk56
          go_wp2_with fail
          refine hnum2.mono ?_
          rintro e w9 ⟨a9, c9, rfl, hrd9, h14⟩
          clear hnum2 hrd9

          have h15 := h14.cast (show _ = row 5 1 (.slice ar out.length cp) out.length (bys out) * (row 5 1 (.slice a6 64 c6) 64 (bys x) * (cel p C 84 * (dsk d m * (R * rdr B a9 c9 ⟨(x.drop 4).drop 1, false⟩)))) by ac_rfl)
          have hsr := h15.pull2.rd
          have hc6 : 64 ≤ c6 := hsr.len.2
          have hsr2 := (hsr.drop (show 8 ≤ 64 by decide)).take (show 56 ≤ 64 - 8 by omega)
          rw [if_neg (show ¬ (c6 = 8) by omega), bys_drop, bys_take] at hsr2
          have hbl : (bys ((x.drop 8).take 56)).length = 56 := by rw [bys_len, List.length_take, List.length_drop, Hxl.out]; omega
          have hc8 : ¬ (c6 = 8) := by omega
          have hle : 8 + 56 ≤ c6 := by omega
          have hwn := IntWalk.i64_in 64 (by omega)
          clear h14 hsr
          go_upto_region 11 with fail
          refine wp_region_lit ?_
          refine wpList_value rfl (v := .slice ar out.length cp) (by go_simp) ?_
          refine wpList_value rfl (v := .slice a6 64 c6) (by go_simp) ?_
          refine wpList_value rfl (v := .int .i64 56) (by
            go_simp
            intro hh
            omega) ?_
          refine wpList_value rfl (v := .int .i64 64) (by go_simp) ?_
          refine wpList_value rfl (v := .slice (a6.map (·.add (8 * 1))) 56 (c6 - 8)) (by
            go_simp
            intro hh
            exact absurd hh (by omega)) ?_
          refine wpList_append_rdm rfl _ _ _ rfl 5 i0 _ 1 Try.underlying32 Hi.out hz0 hz1 hz2 rfl (by go_simp) (by go_simp) h15 hsr2 (bys_one _) (by rw [hbl]; unfold maxLen; omega) (by rw [hbl]; omega) (out.length + 56) (bys (out ++ (x.drop 8).take 56)) (by rw [hbl]) (by rw [bys_append]) ?_
          intro a16 c16 w16 h16
          have h17 := (h16.cast (show _ = row 5 1 (.slice a16 (out.length + 56) c16) (out.length + 56) (bys (out ++ (x.drop 8).take 56)) * (cel p C 84 * (dsk d m * R)) * (row 5 1 (.slice a6 64 c6) 64 (bys x) * rdr B a9 c9 ⟨(x.drop 4).drop 1, false⟩) by ac_rfl)).l
          have hol2 : (out ++ (x.drop 8).take 56).length = out.length + 56 := by rw [List.length_append, ← bys_len ((x.drop 8).take 56), hbl]
          have Hol2 := hide hol2
          clear h15 hsr2 hbl hc8 hle hwn h16 hol2

          have hres : (out ++ (x.drop 8).take 56) ++ strm m r f g4 (256 - (i + 1)) (i + 1) = res := by
            have := Ho.out
            rw [Hstr.out, if_neg Hk56.out, Nat.min_eq_right (by have := Hk56.out; omega), ← List.append_assoc] at this
            exact this
          have Hres2 := hide hres
          clear Ho Hstr Hh Hres hres
          go_wp2_with fail
          go_roundw
          case rel => exact ⟨i + 1, a16, c16, out ++ (x.drop 8).take 56, by omega, by go_num, by rw [Hol2.out], by rw [Hol2.out]; omega, Hres2, by rw [Hol2.out]; exact h17⟩
          case measure => simp [intOf]; omega
      · have hne : ¬ ((g4 : Int) = (gen : Int)) := by omega
        have hres : out = res := by
          have := Ho.out
          rw [show 256 - i = (256 - (i + 1)) + 1 by omega, strm_succ m r f gen _ i Hx.out, if_neg (by rw [Hg4.out]; exact hgg), List.append_nil] at this
          exact this
        subst hres
        have h11 := (h10.cast (show _ = row 5 1 (.slice ar out.length cp) out.length (bys out) * (cel p C 84 * (dsk d m * R)) * (row 5 1 (.slice a6 64 c6) 64 (bys x) * (rdr B a8 c8 ⟨x.drop 4, false⟩ * 1)) by ac_rfl)).l
        clear hrd8 h10 Ho Hres Hh
        go_wp2_with fail
        go_ret2
        exact ⟨ar, cp, rfl, h11⟩
    · obtain rfl : i = 256 := by omega
      have hres : out = res := by
        have := Ho.out
        rw [Nat.sub_self] at this
        rw [← this]
        exact (List.append_nil _).symm
      subst hres
      clear Ho Hh Hres
      go_wp2_with fail
      go_ret2
      exact ⟨ar, cp, rfl, h5⟩
end Go.Proofs.Ytmlifjfgelfbbaa
