/-
  LaneGens: the law's walk: whatever comes in, it returns true. A contract, no statement.
-/
import Derived.Test.YtgkibjjcdcpkfaaLx
namespace Go.Proofs.Ytgkibjjcdcpkfaa
open Go Go.RowKit

theorem and15 (x : Int) : 0 ≤ bits .and .i64 x 15 ∧ bits .and .i64 x 15 ≤ 15 := by
  have h : (BitVec.ofInt 64 x &&& BitVec.ofInt 64 15).toNat ≤ 15 := by
    rw [BitVec.toNat_and]
    exact Nat.and_le_right
  show 0 ≤ IntKind.i64.wrap ((BitVec.ofInt 64 x &&& BitVec.ofInt 64 15).toNat : Int) ∧ IntKind.i64.wrap ((BitVec.ofInt 64 x &&& BitVec.ofInt 64 15).toNat : Int) ≤ 15
  rw [IntWalk.i64_in _ (by omega)]
  omega
theorem places_one {gen pos : Nat} {x : Rec} : places gen pos [x] = [(gen * 1048576 + pos + 1, x)] := rfl

set_option maxRecDepth 100000 in
set_option maxHeartbeats 8000000 in
theorem gens_walk (W : World) (n0 : Int) :
    Calls Try.prog 4 #[.int .i64 n0] W fun e W' => e = .returned (.bool true) ∧ Below W.heap.size W W' := by
  have hfit := lawFit_any W W _ (At.startR W)
  obtain ⟨nn, hnn⟩ : ∃ nn : Nat, bits .and .i64 n0 15 = (nn : Int) := ⟨(bits .and .i64 n0 15).toNat, by have := and15 n0; omega⟩
  have hn15 : nn ≤ 15 := by have := and15 n0; omega
  obtain ⟨N, hN⟩ : ∃ N, nn + 1 = N := ⟨_, rfl⟩
  have hNz : (nn : Int) + 1 = (N : Int) := by omega
  have hN16 : N ≤ 16 := by omega
  have hw1 := IntWalk.i64_in (N : Int) (by omega)
  have hw2 := IntWalk.i64_in (nn : Int) (by omega)
  go_enter Try.func4, Try.ntmps4
  go_wp2_with fail
  refine hfit.mono ?_
  rintro e w1 ⟨rfl, h1⟩
  clear hfit
  have hnew := diskNew_any W w1 _ 1 538 (by decide) (by decide) (by decide) (by decide) h1
  change Calls _ _ #[.int .i64 1, .int .i64 538] _ _ at hnew
  clear h1
  go_wp2_with fail
  refine hnew.mono ?_
  rintro e w2 ⟨D, rfl, h2⟩
  clear hnew
  have hN := Dk.new_at 1 538 0 (by decide)
  have hln := laneNew_st W w2 _ D 0 (Dk.new 1 538) (Dk.new_wf (by decide) (by decide) (by decide)) (by decide) (by decide) hN.1 hN.2 (by decide) h2
  change Calls _ _ #[_, .int .i64 0] _ _ at hln
  have hn2 : (Dk.new 1 538).writes = 0 := rfl
  rw [hn2] at hln
  generalize Dk.new 1 538 = m0 at *
  clear h2 hN hn2
  go_wp2_with fail
  refine hln.mono ?_
  rintro e w3 ⟨P, L, m1, rfl, hs, hg, hb, hsame, hun, hwr, h3⟩
  have Hs := hide hs
  clear hln hnn hsame hb hs
  go_wp2_with fail
  go_loopw [6, 25] (fun u6 u25 wr => ∃ (i : Nat) (L : Ln) (m : Dk), i ≤ N ∧ u25 = .int .i64 i ∧ u6 = .int .u64 (if i = 0 then 0 else i * 1048576 + 12 : Nat) ∧ Hid (LSt m 0 L [recCheck] 1) ∧ L.gen = i + 1 ∧ Hid (m.armd 0 = false) ∧ m.writes ≤ 520 * (i + 1) ∧ At W (lan P D 0 L * (dsk D m * (old W * 1))) wr) (fun _ u _ => N - (intOf u).toNat)
  case atStart => exact ⟨0, L, m1, Nat.zero_le _, rfl, rfl, Hs, hg, hide hun, by omega, h3⟩
  case round =>
    obtain ⟨i, L2, m, hiN, rfl, rfl, Hs2, hg2, Hun, hwr2, h4⟩ := hrel
    clear h3 Hs hg hun hwr
    by_cases hil : i < N
    · obtain ⟨last, hlast⟩ : ∃ last, (if i = 0 then 0 else i * 1048576 + 12 : Nat) = last := ⟨_, rfl⟩
      have hlle : last < (i + 1) * 1048576 + 12 := by rw [← hlast]; split <;> omega
      rw [hlast]
      have hap := laneAppend_ok W wr _ P D 0 recEnd none 0 Hs2.out recEnd_good (by rw [encR_check]; unfold recEnd; rw [enc11]; decide) (fun w' _ => .inl ⟨rfl, rfl⟩) h4
      rw [hg2, encR_check] at hap
      simp only [Rec.cells, recEnd] at hap
      obtain ⟨p, hp⟩ : ∃ p, (i + 1) * 1048576 + 11 + 1 = p := ⟨_, rfl⟩
      rw [hp] at hap
      have hpl : last < p := by omega
      have hp64 : p < 18446744073709551616 := by omega
      have hps : (p : Int) / 1048576 = (i : Int) + 1 := by
        rw [← hp]
        omega
      have hpl2 : ¬ (p ≤ last) := by omega
      have hiz : (i : Int) < (N : Int) := by omega
      have hp12 : p = (i + 1) * 1048576 + 12 := by omega
      have Hp := hide hp12
      have Hl := hide hlle
      clear hlast hlle hp hp12
      go_wp2_with fail
      refine hap.mono ?_
      rintro e w4 ⟨L3, rfl, hs3, hg3, hb3, h5⟩
      clear hap h4
      have Hs3 := hide hs3
      clear hs3
      go_wp2_with fail
      have hrs : (recCheck :: [recEnd]) = [recCheck] ++ [recEnd] := rfl
      obtain ⟨N1, hN1⟩ : ∃ N1, w4.heap.size = N1 := ⟨_, rfl⟩
      have h6 := (h5.alloc' hN1 (.cells rvCheck.cs.toArray 44)).cast (show _ = lan P D 0 L3 * (dsk D m * (cel N1 rvCheck.cs.toArray 44 * (old W * 1))) by unfold cel; ac_rfl)
      have han := laneAnew_ok W _ (cel N1 rvCheck.cs.toArray 44 * (old W * 1)) P D 0 (some ⟨N1, 0, none⟩) 1 [rvCheck] Hs3.out Hun.out (by rw [hg3]; omega) (by decide) (by omega) (fun x hx => by rw [List.mem_singleton.1 hx]; exact recCheck_good) (by rw [encs_encR]; show (encR [recCheck]).length ≤ _; rw [encR_check]; decide) (recs_one rvCheck _ (fun w' _ => .inl ⟨rfl, rfl⟩) (fun d hd => by simp [rvCheck, recCheck] at hd)) h6
      change Calls _ _ #[_, .slice (some ⟨N1, 0, none⟩) 1 1] _ _ at han
      simp only [rvCheck, RecV.cs, recCheck, Rec.cells] at han
      rw [hN1]
      clear hrs hN1 h6 h5
      refine Calls.mono han ?_
      rintro e w5 ⟨L4, m2, rfl, hs4, hg4, hsame, hun4, hwr4, h7⟩
      have hs5 : LSt m2 0 L4 [recCheck] 1 := hs4
      have hlen := laneLen_st W w5 _ P D 0 hs5 encR_check h7
      change Calls _ _ _ _ (fun e w' => e = .returned (.int .i64 11) ∧ w5 = w') at hlen
      have Hs5 := hide hs5
      clear han hs4 hs5 hsame
      go_wp2_with fail
      refine hlen.mono ?_
      rintro e w6 ⟨rfl, rfl⟩
      clear hlen
      go_wp2_with fail
      go_roundw
      case rel =>
        refine ⟨i + 1, L4, m2, by omega, by go_num, ?_, Hs5, by omega, hide hun4, by omega, h7.pull3.r⟩
        rw [if_neg (by omega), Hp.out]
      case measure => simp [intOf]; omega
    · obtain rfl : i = N := by omega
      have hop := laneOpen_st W wr _ D 0 m Hs2.out Hun.out (by omega) h4.pull2
      change Calls _ _ #[_, .int .i64 0] _ _ at hop
      rw [hg2] at hop
      have hiz : ¬ ((i : Int) < (i : Int)) := by omega
      have hv1 := IntWalk.i64_in ((i : Int) + 1) (by omega)
      have hv2 := wrap_u64 (x := (i : Int) + 1) (by omega) (by omega)
      have hv3 := wrap_u64 (x := ((i : Int) + 1) * 1048576) (by omega) (by omega)
      have hv4 := wrap_u64 (x := ((i : Int) + 1) * 1048576 + 1) (by omega) (by omega)
      go_wp2_with fail
      refine hop.mono ?_
      rintro e w5 ⟨P2, a, c, es, m2, rfl, hel, hes, hs4, hsm, hun4, hwr4, h6⟩
      clear hop
      have hE := EntsIn.of_row rfl h6.r
      have hel1 : es.length = 1 := hel
      obtain ⟨g, o, hao, hcs⟩ := hE.at h6.r (i := 0) (by omega)
      have hpl : (es[0]'(by omega)).1 = (i + 1) * 1048576 + 1 := by
        have h9 : (es.map EntV.er)[0]? = some ((i + 1) * 1048576 + 0 + 1, recCheck) := by
          rw [hes]
          rfl
        rw [List.getElem?_map, List.getElem?_eq_getElem (by omega)] at h9
        simp only [Option.map_some, Option.some.injEq, EntV.er, Prod.mk.injEq] at h9
        omega
      have hc0 := hcs 0 (.int .u64 ((i + 1) * 1048576 + 1 : Nat)) (by
        rw [← hpl]
        rfl)
      subst hao
      rw [Nat.zero_mul, Nat.add_zero] at hc0
      have hfin := (h6.r.r.r.r.r).below
      rw [Int.natCast_add, Int.natCast_mul, Int.natCast_add] at hc0
      change w5.cell? ⟨g, o, none⟩ = some (.int .u64 (((i : Int) + 1) * 1048576 + 1)) at hc0
      rw [hel1]
      clear hE hcs h6 hes hs4 hsm h4 hpl
      go_wp2_with fail
      go_ret
      exact ⟨rfl, hfin⟩
end Go.Proofs.Ytgkibjjcdcpkfaa
