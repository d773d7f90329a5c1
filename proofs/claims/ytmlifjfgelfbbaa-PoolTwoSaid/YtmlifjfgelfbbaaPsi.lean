/-
  PoolSince: the law's walk: whatever comes in, it returns true. A contract, no statement.
-/
import Derived.Test.YtmlifjfgelfbbaaPz
import Derived.Deep.DeepCutAuto
namespace Go.Proofs.Ytmlifjfgelfbbaa
open Go Go.RowKit

def recUpd : Rec := ⟨3, 0, 0, 0, ⟨#[]⟩, ⟨#[]⟩, ⟨#[]⟩, []⟩
theorem recUpd_good : Good recUpd := ⟨by simp [Rec.right, recUpd, cellB], fun d hd => by simp [recUpd] at hd⟩
theorem recUpd_len : recUpd.enc.length = 11 := enc11

set_option maxRecDepth 100000 in
set_option maxHeartbeats 16000000 in
theorem since_walk (W : World) (a : Option Addr) (n cap : Nat) (z : Nat → Int) (hn : n ≤ 9223372036854775807) (_hz : ∀ i, -9223372036854775808 ≤ z i ∧ z i ≤ 9223372036854775807) (hA : ∀ i, i < n → ∃ b o, a = some ⟨b, o, none⟩ ∧ W.cell? ⟨b, o + i, none⟩ = some (.int .i64 (z i))) :
    Calls Try.prog 4 #[.slice a n cap] W fun e W' => e = .returned (.bool true) ∧ Below W.heap.size W W' := by
  have hfit := poolFit_any W W _ (At.startR W)
  have HA := hide hA
  have Hz := hide _hz
  clear hA _hz
  go_enter Try.func4, Try.ntmps4
  go_wp2_with fail
  refine hfit.mono ?_
  rintro e w1 ⟨rfl, h1⟩
  clear hfit
  by_cases hbig : 60 < n
  · have hbel := h1.below
    have hbz : 60 < (n : Int) := by omega
    clear hbig
    go_wp2_with fail
    go_ret
    exact ⟨rfl, hbel⟩
  have hbz : ¬ 60 < (n : Int) := by omega
  have hnew := diskNew_any W w1 _ 1 538 (by decide) (by decide) (by decide) (by decide) h1
  change Calls _ _ #[.int .i64 1, .int .i64 538] _ _ at hnew
  clear h1
  go_wp2_with fail
  refine hnew.mono ?_
  rintro e w2 ⟨D, rfl, h2⟩
  clear hnew
  have hN := Dk.new_at 1 538 0 (by decide)
  have hbk := Dk.new_blank (n := 1) (size := 538) (r := 0) (by decide) (by decide)
  have hln := laneNew_pg W w2 _ D 0 (Dk.new 1 538) (Dk.new_wf (by decide) (by decide) (by decide)) (by decide) (by decide) hN.1 hN.2 (by decide) h2
  change Calls _ _ #[_, .int .i64 0] _ _ at hln
  have hn1 : (Dk.new 1 538).regs.length = 1 := rfl
  have hn2 : (Dk.new 1 538).writes = 0 := rfl
  have hn3 : (Dk.new 1 538).size = 538 := rfl
  have hw0 := hN.1
  rw [hn2] at hln
  generalize Dk.new 1 538 = m0 at *
  clear h2 hN
  go_wp2_with fail
  refine hln.mono ?_
  rintro e w3 ⟨P, L, m1, rfl, hs, hg, hb, hsame, hun, hwr, hps, h3⟩
  clear hln
  have hsz1 : m1.size = 538 := hsame.size.trans hn3
  have hrg1 : m1.regs.length = 1 := hsame.regs.trans hn1
  have hpg : ∀ q, q < 6 → m1.page 0 q = zs 256 := fun q hq => (hps.page hw0 hs.rest.wts (by rw [hn3]; unfold pgAt; omega)).trans (hbk q hq)
  have hpn := poolNew_any W w3 _ D 0 P h3
  change Calls _ _ #[_, .int .i64 0, _] _ _ at hpn
  have Hs := hide hs
  have Hpg := hide hpg
  clear h3 hs hsame hps hbk hw0 hn1 hn2 hn3 hpg hb
  go_wp2_with fail
  refine hpn.mono ?_
  rintro e w4 ⟨b, rfl, h4⟩
  clear hpn
  obtain ⟨SB, hSB⟩ : ∃ N, w4.heap.size = N := ⟨_, rfl⟩
  have h5 := (h4.alloc' hSB (.cells (sarr fun _ => 0) 46)).cast (show _ = poB b (PoS.new D 0 P) * (lan P D 0 L * (dsk D m1 * (cel SB (sarr fun _ => 0) 46 * (old W * 1)))) by unfold cel; ac_rfl)
  have hS0 : SInv D P (PoS.new D 0 P) (fun _ => 0) := by
    refine ⟨⟨rfl, rfl, rfl⟩, ?_, ?_, ?_, ?_, fun _ _ _ => rfl⟩
    · intro i hi p hp
      rcases three hi with rfl | rfl | rfl <;> cases hp
    · intro i k hi hk p q hp
      rcases three hi with rfl | rfl | rfl <;> cases hp
    · intro i hi _
      rcases three hi with rfl | rfl | rfl <;> rfl
    · intro i hi p hp
      rcases three hi with rfl | rfl | rfl <;> cases hp
  have HS0 := hide hS0
  clear hS0 h4
  go_wp2_with fail
  go_loopw [33] (fun u33 wr => ∃ (i : Nat) (P1 : PoS) (S : Nat → Nat) (L1 : Ln) (m : Dk) (all : List Rec) (k : Nat), i ≤ n ∧ u33 = .int .i64 i ∧ Hid (SInv D P P1 S) ∧ Hid (LSt m 0 L1 all k) ∧ Hid ((encR all).length ≤ 11 + 11 * i) ∧ Hid (L1.gen = 1) ∧ Hid (m.armd 0 = false) ∧ Hid (m.writes ≤ 520 + 260 * i ∧ m.size = 538 ∧ m.regs.length = 1) ∧ Hid (Away P1 m) ∧
    At W (poB b P1 * (lan P D 0 L1 * (dsk D m * (cel SB (sarr S) 46 * (old W * 1))))) wr) (fun u _ => n - (intOf u).toNat)
  case atStart => exact ⟨0, PoS.new D 0 P, fun _ => 0, L, m1, [recCheck], 1, Nat.zero_le _, rfl, HS0, Hs, hide (by rw [encR_check]; decide), hide hg, hide hun, hide ⟨by omega, hsz1, hrg1⟩, hide (fun q hq _ => Hpg.out q hq), h5⟩
  case round =>
    obtain ⟨i, P1, S, L1, m, all, k, hin, rfl, HS, HL, Hlen, Hgen, Hun, Hm, Haw, h6⟩ := hrel
    clear h5 hg hun hwr hsz1 hrg1 Hs Hpg HS0
    by_cases hil : i < n
    · have hilz : (i : Int) < (n : Int) := by omega
      have hi60 : i < 60 := by omega
      obtain ⟨b0, o0, ha, hc⟩ := HA.out i hil
      subst ha
      have hcell := At.old_cell (h6.cast (show _ = old W * (1 * (poB b P1 * (lan P D 0 L1 * (dsk D m * cel SB (sarr S) 46)))) by ac_rfl)) hc
      have hzb := Hz.out i
      obtain ⟨zi, hzi⟩ : ∃ zi, z i = zi := ⟨_, rfl⟩
      rw [hzi] at hcell hzb
      clear hc hzi
      obtain ⟨k1, hk1⟩ : ∃ k, (zi / 2).tmod 3 = k := ⟨_, rfl⟩
      obtain ⟨k2, hk2⟩ : ∃ k, (k1 + 3).tmod 3 = k := ⟨_, rfl⟩
      have b1 := tmod_in (zi / 2) 3 (by decide)
      have b2 := tmod_up (zi / 2) 3 (by decide)
      change -3 < (zi / 2).tmod 3 ∧ (zi / 2).tmod 3 < 3 at b1
      change 0 ≤ ((zi / 2).tmod 3 + 3).tmod 3 ∧ ((zi / 2).tmod 3 + 3).tmod 3 < 3 at b2
      rw [hk1] at b1 b2
      rw [hk2] at b2
      obtain ⟨q, hq⟩ : ∃ q : Nat, k2 = (q : Int) := ⟨k2.toNat, by omega⟩
      rw [hq] at hk2 b2
      have hq3 : q < 3 := by omega
      have v0 := IntWalk.i64_in (zi / 2) (by omega)
      have v1 := IntWalk.i64_in k1 (by omega)
      have v2 := IntWalk.i64_in (k1 + 3) (by omega)
      have v3 := IntWalk.i64_in (q : Int) (by omega)
      obtain ⟨hm1, hm2, hm3⟩ := Hm.out
      have hgt := HS.out.get W wr (lan P D 0 L1 * (cel SB (sarr S) 46 * (old W * 1))) b q m hq3 Haw.out hm3 hm2 (by omega) (h6.cast (by ac_rfl))
      clear b1 b2 hq
      go_wp2_with fail
      refine hgt.mono ?_
      rintro e w5 ⟨kp, P2, j, rfl, hS2, hf2, haw2, h7⟩
      have HS2 := hide hS2
      have Hf2 := hide hf2
      have Haw2 := hide haw2
      clear hgt h6 hS2 hf2 haw2 HS Haw hcell v0 v1 v2 v3
      have h8 := h7.cast (show _ = poB b P2 * (lan P D 0 L1 * (dsk D m * (cel SB (sarr S) 46 * (old W * 1)))) by ac_rfl)
      clear h7
      go_upto_if 52 with fail
      go_cut [] (fun wd => ∃ (P3 : PoS) (S3 : Nat → Nat) (L3 : Ln) (m3 : Dk) (all3 : List Rec) (k3 : Nat), Hid (SInv D P P3 S3) ∧ Hid (LSt m3 0 L3 all3 k3) ∧ Hid ((encR all3).length ≤ 11 + 11 * (i + 1)) ∧ Hid (L3.gen = 1) ∧ Hid (m3.armd 0 = false) ∧ Hid (m3.writes ≤ 520 + 260 * (i + 1) ∧ m3.size = 538 ∧ m3.regs.length = 1) ∧ Hid (Away P3 m3) ∧
        At W (poB b P3 * (lan P D 0 L3 * (dsk D m3 * (cel SB (sarr S3) 46 * (old W * 1))))) wd)
      case first =>
        obtain ⟨j3, hjh⟩ := PoS.find_some Hf2.out
        obtain ⟨pp, hpp, hpn, _⟩ := Fr.has_pg hjh
        by_cases hev : bits .and .i64 zi 1 = 0
        · have hll := Hlen.out
          have hap := laneAppend_ok W w5 (poB b P2 * (dsk D m * (cel SB (sarr S) 46 * (old W * 1)))) P D 0 recUpd none 0 HL.out recUpd_good (by rw [recUpd_len]; omega) (fun _ _ => .inl ⟨rfl, rfl⟩) (h8.cast (by ac_rfl))
          obtain ⟨pl, hpl⟩ : ∃ pl, L1.gen * 1048576 + (encR all).length + 1 = pl := ⟨_, rfl⟩
          have hg1 := Hgen.out
          have hpl2 : pl < 2 ^ 64 := by rw [hg1] at hpl; omega
          have hpl0 : 0 < pl := by omega
          rw [hpl] at hap
          simp only [Rec.cells, recUpd] at hap
          have Hpl := hide hpl
          clear hpl hg1 hll hjh
          go_wp2_with fail
          refine hap.mono ?_
          rintro e w6 ⟨L3, rfl, hst3, hgn3, _, h9⟩
          clear hap h8
          have hth := poolTouch_any W w6 (lan P D 0 L3 * (dsk D m * (cel SB (sarr S) 46 * (old W * 1)))) b P2 q pl (h9.cast (by ac_rfl))
          have Hst3 := hide hst3
          clear hst3
          go_wp2_with fail
          refine hth.mono ?_
          rintro e w7 ⟨rfl, h10⟩
          clear hth h9
          have hfin : ∃ (P3 : PoS), P2.touch q pl = P3 ∧ SInv D P P3 (upd S q (if S q = 0 then pl else S q)) ∧ Away P3 m := by
            refine ⟨_, rfl, HS2.out.touch Hf2.out hpl2, fun n hn hfn => Haw2.out n hn ?_⟩
            have e : P2.touch q pl = P2.setFr j ((P2.fr j).touch pl) := by
              unfold PoS.touch
              rw [Hf2.out]
              rcases three j3 with rfl | rfl | rfl <;> rfl
            rw [e] at hfn
            exact PoS.find_keep (f := (P2.fr j).touch pl) (p' := { pp with mark := pl }) j3 hpp (by unfold Fr.touch; rw [hpp]; rfl) rfl hfn
          obtain ⟨P3, hP3, hS3, hA3⟩ := hfin
          rw [hP3] at h10
          have HS3 := hide hS3
          have HA3 := hide hA3
          have hlen3 : (encR (all ++ [recUpd])).length ≤ 11 + 11 * (i + 1) := by
            rw [encR_append, List.length_append]
            have h1 : (encR [recUpd]).length = 11 := by simp [encR, recUpd_len]
            have := Hlen.out
            omega
          have Hlen3 := hide hlen3
          clear hP3 hS3 hA3 hlen3
          have s0 : w7.cell? ⟨SB, q, none⟩ = some (.int .u64 (S q)) := At.cell (h10.cast (show _ = cel SB (sarr S) 46 * (poB b P3 * (lan P D 0 L3 * (dsk D m * (old W * 1)))) by ac_rfl)) (sarr_get S hq3)
          have h11 := h10.cast (show _ = cel SB (sarr S) 46 * (poB b P3 * (lan P D 0 L3 * (dsk D m * (old W * 1)))) by ac_rfl)
          have s1 := At.frz h11 q
          have s2 := At.lt h11
          clear h10
          by_cases hs0 : S q = 0
          · have hsz : (S q : Int) = 0 := by omega
            have h12 := h11.set q (.int .u64 pl)
            rw [sarr_set S hq3] at h12
            go_wp2_with fail
            go_meet
            refine ⟨P3, _, L3, m, _, k, HS3, Hst3, Hlen3, hide (hgn3.trans Hgen.out), Hun, hide (by have := Hm.out; omega), HA3, ?_⟩
            rw [if_pos hs0]
            exact h12.cast (by ac_rfl)
          · have hsz : ¬ (S q : Int) = 0 := by omega
            go_wp2_with fail
            go_meet
            refine ⟨P3, _, L3, m, _, k, HS3, Hst3, Hlen3, hide (hgn3.trans Hgen.out), Hun, hide (by have := Hm.out; omega), HA3, ?_⟩
            rw [if_neg hs0]
            have hup : upd S q (S q) = S := by
              funext c
              unfold upd
              split
              · rename_i h; rw [h]
              · rfl
            rw [hup]
            exact h11.cast (by ac_rfl)
        · obtain ⟨d1, d2, d3⟩ := HS2.out.base
          have hfl := poolFlush_any W w5 (cel SB (sarr S) 46 * (old W * 1)) b P2 q (L := L1) (m := m) (by rw [d2]; exact HL.out) (by rw [d2]; exact Hun.out) (by have := Hm.out; omega) (by omega) (by omega) HS2.out.Pages (h8.cast (by rw [d1, d2, d3]))
          rw [d1, d2, d3] at hfl
          have hSf := HS2.out.flushed Hf2.out
          have hfe : P2.flushed q = P2.setFr j { P2.fr j with since := 0 } := by unfold PoS.flushed; rw [Hf2.out]
          have Hfe := hide hfe
          have HSf := hide hSf
          clear hfe hSf hjh
          go_wp2_with fail
          refine hfl.mono ?_
          rintro e w6 ⟨L3, m3, rfl, hrel, h9⟩
          clear hfl h8
          have hst : (∃ all3 k3, LSt m3 0 L3 all3 k3 ∧ (encR all3).length ≤ 11 + 11 * (i + 1)) ∧ L3.gen = 1 ∧ m3.armd 0 = false ∧ (m3.writes ≤ 520 + 260 * (i + 1) ∧ m3.size = 538 ∧ m3.regs.length = 1) ∧ Away (P2.flushed q) m3 := by
            have hl := Hlen.out
            have hk : ∀ n : Nat, (P2.flushed q).find n = none → P2.find n = none := fun n hfn => by
              rw [Hfe.out] at hfn
              exact PoS.find_keep (f := { P2.fr j with since := 0 }) (p' := pp) j3 hpp hpp rfl hfn
            rcases hrel with ⟨_, rfl, rfl⟩ | ⟨_, i4, p4, hi4, hp4, hw4⟩
            · exact ⟨⟨all, k, HL.out, by omega⟩, Hgen.out, Hun.out, by omega, fun n hn hfn => Haw2.out n hn (hk n hfn)⟩
            · rw [d2] at hw4
              refine ⟨⟨all, _, hw4.st, by omega⟩, hw4.gen.trans Hgen.out, hw4.armd, ⟨by have := hw4.writes; omega, hw4.same.size.trans hm2, hw4.same.regs.trans hm3⟩, fun n hn hfn => ?_⟩
              have h0 := hk n hfn
              obtain ⟨hi43, _⟩ := PoS.find_some hi4
              have hne := PoS.find_iff.1 h0 i4 hi43 p4 hp4
              rw [hw4.other n (fun he => hne he.symm) (by rw [hm2]; unfold pgAt; omega)]
              exact Haw2.out n hn h0
          obtain ⟨⟨all3, k3, t1, t2⟩, t3, t4, t5, t6⟩ := hst
          have T1 := hide t1
          have T2 := hide t2
          have T3 := hide t3
          have T4 := hide t4
          have T5 := hide t5
          have T6 := hide t6
          clear t1 t2 t3 t4 t5 t6 hrel
          have h10 := h9.cast (show _ = cel SB (sarr S) 46 * (poB b (P2.flushed q) * (lan P D 0 L3 * (dsk D m3 * (old W * 1)))) by ac_rfl)
          have s0 : w6.cell? ⟨SB, q, none⟩ = some (.int .u64 (S q)) := At.cell h10 (sarr_get S hq3)
          have s1 := At.frz h10 q
          have s2 := At.lt h10
          have h11 := h10.set q (.int .u64 0)
          rw [show Value.int .u64 0 = .int .u64 ((0 : Nat) : Int) from rfl, sarr_set S hq3] at h11
          clear h9
          go_wp2_with fail
          go_meet
          exact ⟨_, _, L3, m3, all3, k3, HSf, T1, T2, T3, T4, T5, T6, h11.cast (by ac_rfl)⟩
      case rest =>
        obtain ⟨P3, S3, L3, m3, all3, k3, HS3, HL3, Hlen3, Hgen3, Hun3, Hm3, Haw3, h9⟩ := hcut
        have hdy := poolDirty_any W wc (lan P D 0 L3 * (dsk D m3 * (cel SB (sarr S3) 46 * (old W * 1)))) b P3 HS3.out.nums h9
        clear h8
        go_wp2_with fail
        refine hdy.mono ?_
        rintro e w6 ⟨g, rfl, h10⟩
        clear hdy h9
        have hcells : ∀ c, c < 3 → (nus (P3.dirtyTo 3))[c]? = some (.int .u64 (S3 c)) := fun c hc => by
          unfold nus
          rw [List.getElem?_map, HS3.out.dirty hc]
          rfl
        have Hcells := hide hcells
        clear hcells
        obtain ⟨g', cq, q1, -, hcell1⟩ := h10.row_ptr (by decide)
        cases q1
        have Hd := hide (fun c hc => hcell1 c _ (Hcells.out c hc))
        have h11 := h10.cast (show _ = cel SB (sarr S3) 46 * (poB b P3 * (lan P D 0 L3 * (dsk D m3 * (old W * 1))) * row 37 1 (.slice (some ⟨g, 0, none⟩) 6 6) 6 (nus (P3.dirtyTo 3))) by ac_rfl)
        have Hs3 := hide (fun c hc => At.cell h11 (sarr_get S3 (n := c) hc))
        have h12 := (h11.cast (show _ = poB b P3 * (lan P D 0 L3 * (dsk D m3 * (cel SB (sarr S3) 46 * (old W * 1)))) * row 37 1 (.slice (some ⟨g, 0, none⟩) 6 6) 6 (nus (P3.dirtyTo 3)) by ac_rfl)).l
        clear hcell1 Hcells h10 h11
        go_wp2_with fail
        go_loopw [81] (fun u81 wy => ∃ c : Nat, c ≤ 3 ∧ u81 = .int .i64 c ∧ wy = w6) (fun u _ => 3 - (intOf u).toNat)
        case atStart => exact ⟨0, Nat.zero_le _, rfl, rfl⟩
        case round =>
          obtain ⟨c, hc3, rfl, rfl⟩ := hrel
          by_cases hcl : c < 3
          · have hclz : (c : Int) < 3 := by omega
            have y1 := Hd.out c hcl
            have y2 := Hs3.out c hcl
            go_wp2_with fail
            go_roundw
            case rel => exact ⟨c + 1, by omega, by go_num, trivial⟩
            case measure => simp [intOf] <;> omega
          · obtain rfl : c = 3 := by omega
            go_wp2_with fail
            go_roundw
            case rel => exact ⟨i + 1, P3, S3, L3, m3, all3, k3, by omega, by go_num, HS3, HL3, Hlen3, Hgen3, Hun3, Hm3, Haw3, h12⟩
            case measure => simp [intOf] <;> omega
    · have hbel := (h6.cast (show _ = old W * (1 * (poB b P1 * (lan P D 0 L1 * (dsk D m * cel SB (sarr S) 46)))) by ac_rfl)).below
      obtain rfl : i = n := by omega
      go_wp2_with fail
      go_ret
      exact ⟨rfl, hbel⟩
end Go.Proofs.Ytmlifjfgelfbbaa
