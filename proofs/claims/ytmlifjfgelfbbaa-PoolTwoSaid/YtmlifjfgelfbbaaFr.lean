/-
  (*Pool).read: a contract, no statement.
-/
import Derived.Test.YtmlifjfgelfbbaaFF
import Derived.Test.YtmlifjfgelfbbaaLU
import Derived.Deep.CutBlock
namespace Go.Proofs.Ytmlifjfgelfbbaa
open Go Go.RowKit

/-- The first sectors of a page. -/
def rdP (m : Dk) (r n : Nat) : Nat → List UInt8
  | 0 => []
  | i + 1 => rdP m r n i ++ m.sec r (pgAt n + i)
theorem rdP_page (m : Dk) (r n : Nat) : rdP m r n 4 = m.page r n := by
  simp [rdP, Dk.page]
theorem rdP_len {m : Dk} (hm : m.Wf) {r n : Nat} (hr : r < m.regs.length) (hn : pgAt n + 3 < m.size) : ∀ i, i ≤ 4 → (rdP m r n i).length = 64 * i
  | 0, _ => rfl
  | i + 1, hi => by
    rw [rdP, List.length_append, rdP_len hm hr hn i (by omega), m.sec_len hm hr (by omega)]
    omega

set_option maxRecDepth 100000 in
set_option maxHeartbeats 8000000 in
theorem poolRead_any (w0 w : World) (R : HP) (b : Nat) (P : PoS) (m : Dk) (n : Nat) (hr : P.r < m.regs.length) (hn : pgAt n + 3 < m.size) (hsz : m.size ≤ 65536) (hwn : m.writes ≤ 1000000000) (h : At w0 (poB b P * (dsk P.d m * R)) w) :
    Calls Try.prog 34 #[.pointer (some ⟨b, 0, none⟩), .int .i64 n] w fun e w' => ∃ a c, e = .returned (.tuple #[.slice a 256 c, .int .i64 0]) ∧ At w0 (row 5 1 (.slice a 256 c) 256 (bys (m.page P.r n)) * (poB b P * (dsk P.d m * R))) w' := by
  obtain ⟨i0, hi0, hz0, hz1, hz2⟩ := info_parts Try.info8
  have hwf := h.pull2.dsk_open.1
  have Hlen := hide (rdP_len hwf hr hn)
  have Hpg := hide (rdP_page m P.r n)
  have hpz : pgAt n = 514 + 4 * n := rfl
  rw [hpz] at hn
  go_enter Try.func34, Try.ntmps34
  go_wp2_with fail
  go_loopw [6, 10] (fun u6 u10 wr => ∃ (i : Nat) (ar : Option Addr) (cp : Nat), i ≤ 4 ∧ u10 = .int .i64 i ∧ u6 = .slice ar (64 * i) cp ∧ At w0 (row 5 1 (.slice ar (64 * i) cp) (64 * i) (bys (rdP m P.r n i)) * (poB b P * (dsk P.d m * R))) wr) (fun _ u _ => 4 - (intOf u).toNat)
  case atStart => exact ⟨0, none, 0, Nat.zero_le _, rfl, rfl, h.row_nil _ 1⟩
  case round =>
    obtain ⟨i, ar, cp, hi, rfl, rfl, h1⟩ := hrel
    clear h
    by_cases hil : i < 4
    · have hilz : (i : Int) < 4 := by omega
      obtain ⟨s, hs⟩ : ∃ s, 514 + 4 * n + i = s := ⟨_, rfl⟩
      have e3 : (514 : Int) + 4 * (n : Int) + (i : Int) = (s : Int) := by omega
      have g1 := IntWalk.i64_in (4 * (n : Int)) (by omega)
      have g2 := IntWalk.i64_in (514 + 4 * (n : Int)) (by omega)
      have g3 := IntWalk.i64_in (s : Int) (by omega)
      have h2 := h1.drew
      have hrd := diskRead_in w0 wr.drew _ P.d m P.r s hr (by omega) hwn (h2.cast (show _ = dsk P.d m * (row 5 1 (.slice ar (64 * i) cp) (64 * i) (bys (rdP m P.r n i)) * (poB b P * R)) by ac_rfl))
      have h3 := h1.cast (show _ = cel b P.cells 90 * (P.f0.hp * (P.f1.hp * P.f2.hp) * (row 5 1 (.slice ar (64 * i) cp) (64 * i) (bys (rdP m P.r n i)) * (dsk P.d m * R))) by unfold poB; ac_rfl)
      have c0 : wr.cell? ⟨b, 0, none⟩ = some (.pointer (some ⟨P.d, 0, none⟩)) := At.cell h3 rfl
      have c1 : wr.cell? ⟨b, 1, none⟩ = some (.int .i64 P.r) := At.cell h3 rfl
      have hsl : (m.sec P.r s).length = 64 := m.sec_len hwf hr (by omega)
      have Hsl := hide hsl
      have Hs := hide hs
      clear hsl
      clear h1 h3
      go_upto_region 5 with fail
      refine wp_region_line [0, 1, 2, 3, 4, 5, 6, 7, 8, 9, 10, 11, 12, 13, 14, 15, 16, 17, 18] rfl (by kernel_rfl) ?_
      simp only [picks_cons, picks_nil, getD_zero, getD_succ]
      go_wp2_with fail
      refine hrd.mono ?_
      rintro e w2 ⟨a2, c2, rfl, h4⟩
      have h5 := h4.cast (show _ = row 5 1 (.slice ar (64 * i) cp) (64 * i) (bys (rdP m P.r n i)) * (row 5 1 (.slice a2 64 c2) 64 (bys (m.sec P.r s)) * (poB b P * (dsk P.d m * R))) by ac_rfl)
      clear hrd h2 h4 c0 c1 g1 g2 g3 e3 hs
      go_wp2_with fail
      refine ⟨by kernel_rfl, ?_⟩
      go_wp2_with (at_builtin; go_loud (refine wpList_append_rdm rfl (.tmp 33) (.tmp 34) 32 rfl 5 i0 _ 1 Try.underlying32 hi0 hz0 hz1 hz2 rfl rfl rfl h5 h5.pull2.rd (bys_one _) (by unfold maxLen; rw [bys_len, Hsl.out]; omega) (by rw [bys_len, Hsl.out]; omega) (64 * (i + 1)) (bys (rdP m P.r n (i + 1))) (by rw [bys_len, Hsl.out]; omega) (by rw [rdP, bys_append, hpz, Hs.out]) ?_))
      intro a3 c3 w3 h6
      have h7 := (h6.cast (show _ = row 5 1 (.slice a3 (64 * (i + 1)) c3) (64 * (i + 1)) (bys (rdP m P.r n (i + 1))) * (poB b P * (dsk P.d m * R)) * row 5 1 (.slice a2 64 c2) 64 (bys (m.sec P.r s)) by ac_rfl)).l
      clear h5 h6
      go_wp2_with fail
      go_roundw
      case rel => exact ⟨i + 1, a3, c3, by omega, by go_num, rfl, h7⟩
      case measure => simp [intOf] <;> omega
    · obtain rfl : i = 4 := by omega
      go_wp2_with fail
      go_ret2
      refine ⟨ar, cp, rfl, ?_⟩
      rw [Hpg.out] at h1
      exact h1
end Go.Proofs.Ytmlifjfgelfbbaa
