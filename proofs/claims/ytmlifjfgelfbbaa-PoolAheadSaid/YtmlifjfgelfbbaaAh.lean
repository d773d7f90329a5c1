/-
  PoolAhead: the law's walk: whatever comes in, it returns true. A contract, no statement.
-/
import Derived.Test.YtmlifjfgelfbbaaAe
import Derived.Test.YtmlifjfgelfbbaaKt
import Derived.Test.YtmlifjfgelfbbaaOc
import Derived.Test.YtmlifjfgelfbbaaGt
namespace Go.Proofs.Ytmlifjfgelfbbaa
open Go Go.RowKit

theorem and3x (x : Int) : 0 ≤ bits .and .i64 x 3 ∧ bits .and .i64 x 3 ≤ 3 := by
  have h : (BitVec.ofInt 64 x &&& BitVec.ofInt 64 3).toNat ≤ 3 := by
    rw [BitVec.toNat_and]
    exact Nat.and_le_right
  show 0 ≤ IntKind.i64.wrap ((BitVec.ofInt 64 x &&& BitVec.ofInt 64 3).toNat : Int) ∧ IntKind.i64.wrap ((BitVec.ofInt 64 x &&& BitVec.ofInt 64 3).toNat : Int) ≤ 3
  rw [IntWalk.i64_in _ (by omega)]
  omega
theorem Try.zeroCall8 (w : World) : (zeroValue 65).run Try.prog w = .ok (.agg #[.int .i64 0, .int .i64 0, .int .i64 0, .int .i64 0, .string ⟨#[]⟩, .string ⟨#[]⟩]) w := by kernel_rfl
theorem C8.one (c : C8) : c.cells.toArray.all (·.oneCell') = true := by
  simp [C8.cells, Value.oneCell']
/-- A page at hand is marked with a place. -/
theorem KInv.touched {D l : Nat} {P : PoS} {m : Dk} {C : Nat → Pg} {n i pl : Nat} (h : KInv D l P m C) (hf : P.find n = some i) (hpl : pl ≠ 0) : KInv D l (P.touch n pl) m (updP C n { C n with mark := pl }) := by
  obtain ⟨hi, hpg, _, hnum⟩ := h.at_hand hf
  rw [PoS.touch_eq hf]
  refine (h.change hf ((P.fr i).touch pl) { C n with mark := pl } (by unfold Fr.touch; rw [hpg]; rfl) hnum ?_).1
  show (if (P.fr i).since = 0 then pl else (P.fr i).since) ≠ 0
  split
  · exact hpl
  · assumption

set_option maxRecDepth 100000 in
set_option maxHeartbeats 16000000 in
theorem ahead_walk (W : World) (a : Option Addr) (n cap : Nat) (z : Nat → C8) (mask : Nat) (hn : n ≤ 9223372036854775807) (hz : Cs8 W a n z) (hmk : mask < 18446744073709551616) :
    Calls Try.prog 6 #[.slice a n cap, .int .u64 mask] W fun e W' => e = .returned (.bool true) ∧ Below W.heap.size W W' := by
  have h0 : At W (old W * 1) W := At.startR W
  have hfit := poolFit_any W W _ h0
  have Hz := hide hz
  clear hz
  obtain ⟨Bd, hBd⟩ : ∃ Bd, (fun W' => Below W.heap.size W W') = Bd := ⟨_, rfl⟩
  have HBd : ∀ w', At W (old W * 1) w' → Bd w' := fun w' h' => by rw [← hBd]; exact h'.below
  have hgoal : (fun (e : Ending) W' => e = .returned (.bool true) ∧ Below W.heap.size W W') = fun e W' => e = .returned (.bool true) ∧ Bd W' := by rw [← hBd]
  rw [hgoal]
  have Hbd := hide HBd
  clear HBd hgoal hBd
  go_enter Try.func6, Try.ntmps6
  go_wp2_with fail
  refine hfit.mono ?_
  rintro e w2 ⟨rfl, h1⟩
  clear hfit h0
  by_cases hn60 : 60 < n
  · have hb := Hbd.out w2 h1
    have hnz : 60 < (n : Int) := by omega
    go_wp2_with fail
    go_ret
    exact ⟨rfl, hb⟩
  have hnz : ¬ 60 < (n : Int) := by omega
  have hnew := diskNew_any W w2 _ 1 538 (by decide) (by decide) (by decide) (by decide) h1
  change Calls _ _ #[.int .i64 1, .int .i64 538] _ _ at hnew
  clear h1
  go_wp2_with fail
  refine hnew.mono ?_
  rintro e w4 ⟨D, rfl, h3⟩
  clear hnew
  have hN := Dk.new_at 1 538 0 (by decide)
  have hbk := Dk.new_blank (n := 1) (size := 538) (r := 0) (by decide) (by decide)
  have hln := laneNew_pg W w4 _ D 0 (Dk.new 1 538) (Dk.new_wf (by decide) (by decide) (by decide)) (by decide) (by decide) hN.1 hN.2 (by decide) h3
  change Calls _ _ #[_, .int .i64 0] _ _ at hln
  have hn1 : (Dk.new 1 538).regs.length = 1 := rfl
  have hn2 : (Dk.new 1 538).writes = 0 := rfl
  have hn3 : (Dk.new 1 538).size = 538 := rfl
  have hw0 := hN.1
  rw [hn2] at hln
  generalize Dk.new 1 538 = m0 at *
  clear h3 hN
  go_wp2_with fail
  refine hln.mono ?_
  rintro e w5 ⟨P, L, m1, rfl, hs, hg, hb, hsame, hun, hwr, hps, h4⟩
  clear hln
  have hpg : ∀ c, c < 6 → m1.page 0 c = zs 256 := fun c hc => (hps.page hw0 hs.rest.wts (by rw [hn3]; unfold pgAt; omega)).trans (hbk c hc)
  have hld : LdOk m1 L [recCheck] 1 520 := ⟨hs, hun, by omega, hsame.size.trans hn3, hsame.regs.trans hn1⟩
  have HI := hide (C0_inv (D := D) (l := P) hpg)
  have HD := hide (DOk.blank hpg 1 [recCheck] 1)
  have Hld := hide hld
  have Hg := hide hg
  have hpn := poolNew_any W w5 _ D 0 P h4
  change Calls _ _ #[_, .int .i64 0, _] _ _ at hpn
  clear h4 hs hsame hps hbk hw0 hn1 hn2 hn3 hpg hg hb hun hwr hld
  go_wp2_with fail
  refine hpn.mono ?_
  rintro e w6 ⟨b, rfl, h5⟩
  clear hpn
  go_wp2_with fail
  go_loopw [40] (fun u40 wr => ∃ (c : Nat) (P4 : PoS) (L4 : Ln) (m4 : Dk) (all : List Rec) (k4 : Nat) (C : Nat → Pg), c ≤ n ∧ u40 = .int .i64 c ∧ Hid (KInv D P P4 m4 C) ∧ Hid (LdOk m4 L4 all k4 (520 + 520 * c)) ∧ Hid (L4.gen = 1) ∧ Hid (MOk C 1 all) ∧ Hid (DOk m4 1 all k4) ∧ Hid ((encR all).length = 11 + 11 * c) ∧
    At W (poB b P4 * (lan P D 0 L4 * (dsk D m4 * (old W * 1)))) wr) (fun u _ => n - (intOf u).toNat)
  case atStart => exact ⟨0, _, L, m1, _, 1, _, Nat.zero_le _, rfl, HI, Hld, Hg, hide (MOk.blank 1 _), HD, hide encR_check, h5⟩
  case round =>
    obtain ⟨c, P4, L4, m4, all4, k4, C4, hcn, rfl, HG4, Hld4, Hg4, HM4, HD4, Hlen4, h13⟩ := hrel
    clear h5
    by_cases hcl : c < n
    · have hclz : (c : Int) < (n : Int) := by omega
      obtain ⟨g, o, rfl, hc⟩ := Hz.out c hcl
      have hcs : ∀ j u, (z c).cells[j]? = some u → wr.cell? ⟨g, o + c * 6 + j, none⟩ = some u := fun j u hu => At.old_cell (h13.cast (show _ = old W * (1 * (poB b P4 * (lan P D 0 L4 * dsk D m4))) by ac_rfl)) (hc j u hu)
      obtain ⟨cl, hcl2⟩ : ∃ cl, z c = cl := ⟨_, rfl⟩
      rw [hcl2] at hcs
      clear hc hcl2
      obtain ⟨X, hX⟩ : ∃ X, wr.heap.size = X := ⟨_, rfl⟩
      have h14 := h13.alloc' hX (.cells #[.int .i64 0, .int .i64 0, .int .i64 0, .int .i64 0, .string ⟨#[]⟩, .string ⟨#[]⟩] 65)
      go_upto_region 10 with fail
      refine wp_region_lit ?_
      refine wpList_move_at rfl (.tmp 40) rfl rfl ?_
      refine wpList_value rfl (v := .pointer (some ⟨g, o + c * 6, none⟩)) (by go_simp) ?_
      refine wpList_load_agg rfl (.tmp 43) 65 rfl _ Try.underlying65 rfl (ys := cl.cells) (by kernel_rfl) (g := g) (off := o + c * 6) (by go_simp) hcs ?_
      refine wpList_alloc_at rfl _ rfl (Try.zeroCall8 wr) ?_
      try rw [hX]
      refine wpList_value rfl (v := .int .i64 c) (by go_simp) ?_
      refine wpList_store_at rfl (.tmp 10) (.tmp 44) _ rfl (g := X) (c := #[.int .i64 0, .int .i64 0, .int .i64 0, .int .i64 0, .string ⟨#[]⟩, .string ⟨#[]⟩]) (ys := cl.cells) (by go_simp) (by go_simp) (by kernel_rfl) rfl cl.one h14 ?_
      intro w5 h15
      have x1 : w5.cell? ⟨X, 1, none⟩ = some (.int .i64 cl.p) := At.cell h15 rfl
      have x2 : w5.cell? ⟨X, 2, none⟩ = some (.int .i64 cl.s) := At.cell h15 rfl
      clear h13 h14 hcs hX
      obtain ⟨k1, hk1⟩ : ∃ k, cl.p.tmod 6 = k := ⟨_, rfl⟩
      obtain ⟨k2, hk2⟩ : ∃ k, (k1 + 6).tmod 6 = k := ⟨_, rfl⟩
      have b1 := tmod_in cl.p 6 (by decide)
      have b2 := tmod_up cl.p 6 (by decide)
      change -6 < cl.p.tmod 6 ∧ cl.p.tmod 6 < 6 at b1
      change 0 ≤ (cl.p.tmod 6 + 6).tmod 6 ∧ (cl.p.tmod 6 + 6).tmod 6 < 6 at b2
      rw [hk1] at b1 b2
      rw [hk2] at b2
      obtain ⟨q, hq⟩ : ∃ q : Nat, k2 = (q : Int) := ⟨k2.toNat, by omega⟩
      rw [hq] at hk2 b2
      have hq6 : q < 6 := by omega
      have v1 := IntWalk.i64_in k1 (by omega)
      have v2 := IntWalk.i64_in (k1 + 6) (by omega)
      have v3 := IntWalk.i64_in (q : Int) (by omega)
      have hll := Hlen4.out
      have hgt := HG4.out.get2 W w5 (cel X cl.cells.toArray 65 * (old W * 1)) b q (HM4.out.good (by omega) (by decide)) Hld4.out (by rw [Hg4.out]; exact HM4.out) (by rw [Hg4.out]; exact HD4.out) (by omega) hq6 (h15.cast (by ac_rfl))
      rw [Hg4.out] at hgt
      clear h15 hll b1 b2 hq
      go_wp2_with fail
      refine hgt.mono ?_
      rintro e w7 ⟨P1, i, L1, m2, kx, rfl, hI1, hf1, hld1, hgn1, hd1, h16⟩
      clear hgt
      have hll := Hlen4.out
      have hap := laneAppend_ok W w7 (poB b P1 * (dsk D m2 * (cel X cl.cells.toArray 65 * (old W * 1)))) P D 0 (recUpdN q) none 0 hld1.st (recUpdN_good hq6) (by rw [recUpdN_len]; omega) (fun _ _ => .inl ⟨rfl, rfl⟩) (h16.cast (by ac_rfl))
      rw [hgn1] at hap
      obtain ⟨pl, hpl⟩ : ∃ pl, 1 * 1048576 + (encR all4).length + 1 = pl := ⟨_, rfl⟩
      rw [hpl] at hap
      have hM5 := HM4.out.touch hq6 (recUpdN q) hpl.symm (by rw [recUpdN_len]; decide)
      have hG5 := hI1.touched hf1 (pl := pl) (by omega)
      have hD5 := hd1.grow (l := [recUpdN q]) hld1.st.kle
      have hlen5 : (encR (all4 ++ [recUpdN q])).length = 11 + 11 * (c + 1) := by rw [encR_snoc, recUpdN_len]; omega
      have hldx := fun L2 (h : LSt m2 0 L2 (all4 ++ [recUpdN q]) kx) => (⟨h, hld1.armd, hld1.writes, hld1.size, hld1.regs⟩ : LdOk m2 L2 (all4 ++ [recUpdN q]) kx (520 + 520 * c + 260))
      obtain ⟨all5, hall5⟩ : ∃ l, all4 ++ [recUpdN q] = l := ⟨_, rfl⟩
      obtain ⟨C5, hC5⟩ : ∃ C5, updP C4 q { C4 q with mark := pl } = C5 := ⟨_, rfl⟩
      rw [hall5] at hap hM5 hD5 hlen5 hldx
      rw [hC5] at hM5 hG5
      simp only [Rec.cells, recUpdN] at hap
      have HM5 := hide hM5
      have HG5 := hide hG5
      have HD5 := hide hD5
      have Hlen5 := hide hlen5
      have Hldx := hide hldx
      clear hM5 hG5 hD5 hlen5 hldx hall5 hC5 hpl hll hI1 hf1 hld1 hgn1 hd1 h16 HG4 HM4 HD4 Hlen4 Hld4 Hg4 hk1 hk2 v1 v2
      go_wp2_with fail
      refine hap.mono ?_
      rintro e w10 ⟨L2, rfl, hst2, hgn2, _, h17⟩
      clear hap
      have Hld5 := hide (Hldx.out L2 hst2)
      have Hg5 := hide hgn2
      have hth := poolTouch_any W w10 (lan P D 0 L2 * (dsk D m2 * (cel X cl.cells.toArray 65 * (old W * 1)))) b P1 q pl (h17.cast (by ac_rfl))
      obtain ⟨P2, hP2⟩ : ∃ P2, P1.touch q pl = P2 := ⟨_, rfl⟩
      rw [hP2] at hth HG5
      clear hst2 hgn2 h17 hP2 Hldx v3
      go_wp2_with fail
      refine hth.mono ?_
      rintro e w11 ⟨rfl, h18⟩
      clear hth
      have y2 : w11.cell? ⟨X, 2, none⟩ = some (.int .i64 cl.s) := At.cell (h18.cast (show _ = cel X cl.cells.toArray 65 * (poB b P2 * (lan P D 0 L2 * (dsk D m2 * (old W * 1)))) by ac_rfl)) rfl
      obtain ⟨md, hmd⟩ : ∃ md, (c : Int).tmod 5 = md := ⟨_, rfl⟩
      have hmb := tmod_in (c : Int) 5 (by decide)
      change -5 < (c : Int).tmod 5 ∧ (c : Int).tmod 5 < 5 at hmb
      rw [hmd] at hmb
      have v4 := IntWalk.i64_in md (by omega)
      obtain ⟨sl, hsl⟩ : ∃ sl, bits .and .i64 cl.s 3 = sl := ⟨_, rfl⟩
      clear hmb
      by_cases hm4 : md = 4
      · have hfl := HG5.out.flush W w11 (cel X cl.cells.toArray 65 * (old W * 1)) b sl (HM5.out.good (by have := Hlen5.out; omega) (by decide)) Hld5.out (by rw [Hg5.out]; exact HM5.out) (by rw [Hg5.out]; exact HD5.out) (by omega) (h18.cast (by ac_rfl))
        rw [Hg5.out] at hfl
        clear h18
        go_wp2_with fail
        refine hfl.mono ?_
        rintro e w12 ⟨P3, L3, m3, k3, rfl, hI3, hld3, hgn3, hd3, h19⟩
        have h20 := (h19.cast (show _ = poB b P3 * (lan P D 0 L3 * (dsk D m3 * (old W * 1))) * cel X cl.cells.toArray 65 by ac_rfl)).l
        have HI3 := hide hI3
        have HL3 : Hid (LdOk m3 L3 all5 k3 (520 + 520 * (c + 1))) := hide ⟨hld3.st, hld3.armd, by have := hld3.writes; omega, hld3.size, hld3.regs⟩
        have Hg3 := hide hgn3
        have Hd3 := hide hd3
        clear hfl h19 hI3 hld3 hgn3 hd3 y2
        go_wp2_with fail
        go_roundw
        case rel => exact ⟨c + 1, P3, L3, m3, all5, k3, C5, by omega, by go_num, HI3, HL3, Hg3, HM5, Hd3, Hlen5, h20⟩
        case measure => simp [intOf] <;> omega
      · have h20 := (h18.cast (show _ = poB b P2 * (lan P D 0 L2 * (dsk D m2 * (old W * 1))) * cel X cl.cells.toArray 65 by ac_rfl)).l
        have hld3 := Hld5.out
        have HL3 : Hid (LdOk m2 L2 all5 kx (520 + 520 * (c + 1))) := hide ⟨hld3.st, hld3.armd, by have := hld3.writes; omega, hld3.size, hld3.regs⟩
        clear h18 y2 hld3
        go_wp2_with fail
        go_roundw
        case rel => exact ⟨c + 1, P2, L2, m2, all5, kx, C5, by omega, by go_num, HG5, HL3, Hg5, HM5, HD5, Hlen5, h20⟩
        case measure => simp [intOf] <;> omega
    · obtain rfl : c = n := by omega
      have hld := Hld4.out
      obtain ⟨hcs, hcu⟩ := hld.st.crashed mask
      obtain ⟨_, hcr, hcz, hcw, _⟩ := Dk.crash_at (mask := mask) hld.st.rest.wf
      have hdc := HD4.out.crash (mask := mask) hld.st.rest.wf hld.st.rest.wts hld.size (by rw [hld.regs]; decide)
      have hwn := hld.writes
      have hcr := diskCrash_any W wr (poB b P4 * (lan P D 0 L4 * (old W * 1))) D m4 mask hmk (by omega) (h13.cast (by ac_rfl))
      obtain ⟨m5, hm5⟩ : ∃ m5, m4.crash mask = m5 := ⟨_, rfl⟩
      rw [hm5] at hcs hcu hcz hcw hdc hcr
      have hop := fun w' (h : At W (dsk D m5 * (poB b P4 * (lan P D 0 L4 * (old W * 1)))) w') => laneOpen_pg W w' _ D 0 m5 hcs hcu (by omega) h
      have Hop := hide hop
      have Hdc := hide hdc
      have hsz5 : m5.size = 538 := hcz.trans hld.size
      have hw5 := hcs.rest.wts
      have Hm5 := hide hw5
      have hk5 := hcs.rest.len
      clear h13 hop hdc hcs hcu hw5 hm5 HD4 HG4 HM4
      go_wp2_with fail
      refine hcr.mono ?_
      rintro e w15 ⟨rfl, h14⟩
      clear hcr
      have hop := Hop.out w15 h14
      change Calls _ _ #[_, .int .i64 0] _ _ at hop
      clear h14 Hop
      go_wp2_with fail
      refine hop.mono ?_
      rintro e w16 ⟨P6, a6, n6, c6, L6, F6, m6, rfl, hst6, hg6, _, hsm6, hps6, hun6, hwr6, h15⟩
      clear hop
      have htl := encR_take_le all4 k4
      have hll := Hlen4.out
      have hap := laneAppend_ok W w16 _ P6 D 0 recEnd none 0 hst6 recEnd_good (by unfold recEnd; rw [enc11]; omega) (fun _ _ => .inl ⟨rfl, rfl⟩) h15
      rw [hg6, Hg4.out] at hap
      obtain ⟨top, htop⟩ : ∃ top, 1 * 1048576 + (encR (all4.take k4)).length + 1 = top := ⟨_, rfl⟩
      rw [htop] at hap
      simp only [Rec.cells, recEnd] at hap
      have hd6 := Hdc.out.opened hsz5 Hm5.out hst6.rest.wts hps6
      have hmk6 := fun c (hc : c < 6) => hd6.marks hc (by decide) (by omega)
      rw [htop] at hmk6
      have Hmk6 := hide hmk6
      have hr6 : 0 < m6.regs.length := hst6.rest.hr
      have hsz6 : m6.size = 538 := hsm6.size.trans hsz5
      clear hmk6 hd6 htop hsm6 hps6 hst6 h15 hll htl
      go_wp2_with fail
      refine hap.mono ?_
      rintro e w17 ⟨L7, rfl, _, _, _, h16⟩
      clear hap
      obtain ⟨Z, hZ⟩ : ∃ Z : HP, lan P6 D 0 L7 * (F6 * (poB b P4 * (lan P D 0 L4 * (old W * 1)))) = Z := ⟨_, rfl⟩
      have h17 : At W (dsk D m6 * Z) w17 := by rw [← hZ]; exact h16.cast (by ac_rfl)
      have hbd : ∀ w', At W (dsk D m6 * Z) w' → Bd w' := fun w' h' => Hbd.out w' (by rw [← hZ] at h'; exact (h'.cast (show _ = old W * 1 * (lan P6 D 0 L7 * (F6 * (poB b P4 * (lan P D 0 L4 * dsk D m6)))) by ac_rfl)).l)
      have Hbd2 := hide hbd
      clear h16 hZ hbd
      go_wp2_with fail
      go_loopw [99] (fun u99 wr => ∃ i : Nat, i ≤ 6 ∧ u99 = .int .i64 i ∧ At W (dsk D m6 * Z) wr) (fun u _ => 6 - (intOf u).toNat)
      case atStart => exact ⟨0, by decide, rfl, h17⟩
      case round =>
        obtain ⟨i, hi6, rfl, h18⟩ := hrel
        clear h17
        by_cases hil : i < 6
        · have hilz : (i : Int) < 6 := by omega
          have hkp := poolKept_any W wr _ D m6 i hr6 hil (by omega) (by omega) (by omega) h18
          obtain ⟨hok, hmk⟩ := Hmk6.out i hil
          obtain ⟨pg, hpg⟩ : ∃ pg, decPg (m6.page 0 i) 0 i = pg := ⟨_, rfl⟩
          have hpm : pg.mark < top := by
            rw [← hpg]
            unfold decPg
            rw [hok, if_pos rfl]
            exact hmk
          have hDs : pg.slots.length = 200 := by
            rw [← hpg]
            unfold decPg
            rw [hok, if_pos rfl]
            exact (Pg.dec_wf (by rw [← rdP_page, rdP_len h18.dsk_open.1 hr6 (by unfold pgAt; omega) 4 (by decide)]) (by decide) (by omega)).slots
          rw [hok, hpg] at hkp
          have hpmz : ¬ (top : Int) ≤ (pg.mark : Int) := by omega
          clear hok hmk hpg hpm
          go_wp2_with fail
          refine hkp.mono ?_
          rintro e w18 ⟨rfl, h19⟩
          clear hkp h18
          have hX := h19.alloc (.cells pg0.cells.toArray 41)
          go_wp2_with (first | refine wpList_alloc_at rfl 41 rfl (Try.zeroPage _) ?_ | refine Try.wpList_storePg rfl (.tmp 22) (.tmp 106) rfl (q := pg0) (q' := pg) (zs_len 200) hDs rfl rfl hX ?_)
          intro w20 h20
          have c0 : w20.cell? ⟨w18.heap.size, 0, none⟩ = some (.int .u64 pg.mark) := At.cell h20 rfl
          have h21 := h20.r
          clear h19 hX h20
          go_wp2_with fail
          go_roundw
          case rel => exact ⟨i + 1, by omega, by go_num, h21⟩
          case measure => simp [intOf] <;> omega
        · obtain rfl : i = 6 := by omega
          have hb := Hbd2.out wr h18
          go_wp2_with fail
          go_ret
          exact ⟨rfl, hb⟩
end Go.Proofs.Ytmlifjfgelfbbaa
