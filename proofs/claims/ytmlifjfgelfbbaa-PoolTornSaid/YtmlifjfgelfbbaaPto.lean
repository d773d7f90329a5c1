/-
  PoolTorn: the law's walk: whatever comes in, it returns true. A contract, no statement.
-/
import Derived.Test.YtmlifjfgelfbbaaGt
import Derived.LaidEqlPtr
namespace Go.Proofs.Ytmlifjfgelfbbaa
open Go Go.RowKit

theorem and15 (x : Int) : 0 ≤ bits .and .i64 x 15 ∧ bits .and .i64 x 15 ≤ 15 := by
  have h : (BitVec.ofInt 64 x &&& BitVec.ofInt 64 15).toNat ≤ 15 := by
    rw [BitVec.toNat_and]
    exact Nat.and_le_right
  show 0 ≤ IntKind.i64.wrap ((BitVec.ofInt 64 x &&& BitVec.ofInt 64 15).toNat : Int) ∧ IntKind.i64.wrap ((BitVec.ofInt 64 x &&& BitVec.ofInt 64 15).toNat : Int) ≤ 15
  rw [IntWalk.i64_in _ (by omega)]
  omega
theorem or1 (x : Int) : ∃ y : UInt8, bits .or .u8 x 1 = (y.toNat : Int) ∧ y ≠ 0 := by
  obtain ⟨v, hv⟩ : ∃ v, (BitVec.ofInt 8 x ||| BitVec.ofInt 8 1).toNat = v := ⟨_, rfl⟩
  have h1 : v < 256 := by rw [← hv]; exact (BitVec.ofInt 8 x ||| BitVec.ofInt 8 1).isLt
  have h2 : 1 ≤ v := by
    rw [← hv, BitVec.toNat_or]
    exact Nat.right_le_or
  have h3 : (UInt8.ofNat v).toNat = v := u8n h1
  refine ⟨UInt8.ofNat v, ?_, fun h => ?_⟩
  · show IntKind.u8.wrap ((BitVec.ofInt 8 x ||| BitVec.ofInt 8 1).toNat : Int) = _
    rw [hv, h3]
    simp only [IntKind.wrap, IntKind.signed, IntKind.bits]
    simp
    omega
  · have := congrArg UInt8.toNat h
    rw [h3] at this
    simp at this
    omega
/-- A page of which one sector was turned is torn. -/
theorem torn_pure {m : Dk} (hm : m.Wf) (hr : 0 < m.regs.length) (hsz : m.size = 538) {q : Nat} (hq : q < 6) {y : UInt8} (hy : y ≠ 0) (hp : m.page 0 q = zs 256) : decOk ((m.write 0 (pgAt q + 2) [y]).page 0 q) 0 q = false := by
  have lA := m.sec_len hm hr (show pgAt q < m.size by unfold pgAt; omega)
  have lB := m.sec_len hm hr (show pgAt q + 1 < m.size by unfold pgAt; omega)
  have e : (m.write 0 (pgAt q + 2) [y]).page 0 q = m.sec 0 (pgAt q) ++ m.sec 0 (pgAt q + 1) ++ pad [y] ++ m.sec 0 (pgAt q + 3) := by
    unfold Dk.page
    rw [Dk.write_sec hr, Dk.write_sec hr, Dk.write_sec hr, Dk.write_sec hr, if_neg (by omega), if_neg (by omega), if_pos rfl, if_neg (by omega)]
  rw [e]
  unfold Dk.page at hp
  generalize m.sec 0 (pgAt q) = A at *
  generalize m.sec 0 (pgAt q + 1) = B at *
  generalize m.sec 0 (pgAt q + 2) = C at *
  generalize m.sec 0 (pgAt q + 3) = E at *
  have h8 : ∀ X : List UInt8, (A ++ B ++ X ++ E).take 8 = A.take 8 := fun X => by
    rw [List.append_assoc, List.append_assoc, List.take_append_of_le_length (by omega)]
  have h0 : num ((A ++ B ++ pad [y] ++ E).take 8) = 0 := by
    rw [h8, ← h8 C, hp]
    decide
  refine decOk_enc ?_
  have hd : (Pg.dec (A ++ B ++ pad [y] ++ E) 0 q).enc = zs 256 := by
    unfold Pg.dec Pg.enc
    rw [h0]
    rfl
  rw [hd]
  intro hh
  have h2 := congrArg (fun l : List UInt8 => l[128]?) hh
  have hA2 : (A ++ B).length = 128 := by rw [List.length_append, lA, lB]
  have h3 : (A ++ B ++ pad [y] ++ E)[128]? = some y := by
    rw [List.append_assoc, List.getElem?_append_right (by omega), hA2]
    rfl
  simp only [h3] at h2
  have h4 : (zs 256)[128]? = some 0 := by decide
  rw [h4] at h2
  simp only [Option.some.injEq] at h2
  exact hy h2.symm
theorem Try.buildPut (n : Nat) (w : World) : (Instr.build 41 #[(2, .int .i64 n), (0, .int .u64 5)]).run Try.prog w = .ok (.agg (Pg.mk 5 0 n (zs 200)).cells.toArray) w := by kernel_rfl
set_option maxRecDepth 100000 in
set_option maxHeartbeats 16000000 in
theorem torn_walk (W : World) (n0 x0 c0 : Int) :
    Calls Try.prog 3 #[.int .i64 n0, .int .u8 x0, .int .i64 c0] W fun e W' => e = .returned (.bool true) ∧ Below W.heap.size W W' := by
  have hfit := poolFit_any W W _ (At.startR W)
  obtain ⟨k1, hk1⟩ : ∃ k, n0.tmod 6 = k := ⟨_, rfl⟩
  obtain ⟨k2, hk2⟩ : ∃ k, (k1 + 6).tmod 6 = k := ⟨_, rfl⟩
  have b1 := tmod_in n0 6 (by decide)
  have b2 := tmod_up n0 6 (by decide)
  change -6 < n0.tmod 6 ∧ n0.tmod 6 < 6 at b1
  change 0 ≤ (n0.tmod 6 + 6).tmod 6 ∧ (n0.tmod 6 + 6).tmod 6 < 6 at b2
  rw [hk1] at b1 b2
  rw [hk2] at b2
  obtain ⟨q, hq⟩ : ∃ q : Nat, k2 = (q : Int) := ⟨k2.toNat, by omega⟩
  rw [hq] at hk2 b2
  have hq6 : q < 6 := by omega
  have v1 := IntWalk.i64_in k1 (by omega)
  have v2 := IntWalk.i64_in (k1 + 6) (by omega)
  have v3 := IntWalk.i64_in (q : Int) (by omega)
  go_enter Try.func3, Try.ntmps3
  go_wp2_with fail
  refine hfit.mono ?_
  rintro e w1 ⟨rfl, h1⟩
  clear hfit
  have hnew := diskNew_any W w1 _ 1 538 (by decide) (by decide) (by decide) (by decide) h1
  change Calls _ _ #[.int .i64 1, .int .i64 538] _ _ at hnew
  clear h1
  go_wp2_with fail
  refine hnew.mono ?_
  rintro e w2 ⟨D, rfl, h2⟩
  clear hnew
  have hN := Dk.new_at 1 538 0 (by decide)
  have hbk := Dk.new_blank (n := 1) (size := 538) (r := 0) (by decide) (by decide)
  have hln := laneNew_pg W w2 _ D 0 (Dk.new 1 538) (Dk.new_wf (by decide) (by decide) (by decide)) (by decide) (by decide) hN.1 hN.2 (by decide) h2
  change Calls _ _ #[_, .int .i64 0] _ _ at hln
  have hn1 : (Dk.new 1 538).regs.length = 1 := rfl
  have hn2 : (Dk.new 1 538).writes = 0 := rfl
  have hn3 : (Dk.new 1 538).size = 538 := rfl
  have hw0 := hN.1
  rw [hn2] at hln
  generalize Dk.new 1 538 = m0 at *
  clear h2 hN
  go_wp2_with fail
  refine hln.mono ?_
  rintro e w3 ⟨P, L, m1, rfl, hs, hg, hb, hsame, hun, hwr, hps, h3⟩
  clear hln
  have hpg : m1.page 0 q = zs 256 := (hps.page hw0 hs.rest.wts (by rw [hn3]; unfold pgAt; omega)).trans (hbk q hq6)
  have hsz1 : m1.size = 538 := hsame.size.trans hn3
  have hrg1 : m1.regs.length = 1 := hsame.regs.trans hn1
  have hpn := poolNew_any W w3 _ D 0 P h3
  change Calls _ _ #[_, .int .i64 0, _] _ _ at hpn
  have Hs := hide hs
  have Hpg := hide hpg
  clear h3 hs hsame hps hbk hw0 hn1 hn2 hn3 hpg hg hb
  go_wp2_with fail
  refine hpn.mono ?_
  rintro e w4 ⟨b, rfl, h4⟩
  clear hpn
  have g1 := IntWalk.i64_in (4 * (q : Int)) (by omega)
  have g2 := IntWalk.i64_in (514 + 4 * (q : Int)) (by omega)
  have g3 := IntWalk.i64_in (514 + 4 * (q : Int) + 2) (by omega)
  obtain ⟨s, hs2⟩ : ∃ s, 514 + 4 * q + 2 = s := ⟨_, rfl⟩
  have e3 : (514 : Int) + 4 * (q : Int) + 2 = (s : Int) := by omega
  obtain ⟨y, hy, hy0⟩ := or1 x0
  have h5 : At W (row 5 1 (.slice (some ⟨w4.heap.size, 0, none⟩) 1 1) 1 (bys [y]) * (poB b (PoS.new D 0 P) * (lan P D 0 L * (dsk D m1 * (old W * 1))))) (w4.alloc (.cells #[.int .u8 (y.toNat : Int)] 5)) :=
    At.row_new (xs := [.int .u8 (y.toNat : Int)]) (m := 1) (h4.alloc (.cells #[.int .u8 (y.toNat : Int)] 5)) rfl (by simp [maxLen])
  have hdw := diskWr_any W _ (row 5 1 (.slice (some ⟨w4.heap.size, 0, none⟩) 1 1) 1 (bys [y]) * (poB b (PoS.new D 0 P) * (lan P D 0 L * (old W * 1)))) D m1 0 s (some ⟨w4.heap.size, 0, none⟩) 1 [y] (show 1 ≤ 64 by decide) (fun w' h' => h'.rd) (by rw [hrg1]; exact Nat.zero_lt_one) (by omega) (h5.cast (by ac_rfl))
  change Calls _ _ #[_, .int .i64 0, _, .slice _ 1 1] _ _ at hdw
  have hwr2 : m1.wr 0 s [y] = (0, m1.write 0 s [y]) := by
    unfold Dk.wr
    rw [if_neg (by omega), Dk.down_un hun]
    rfl
  rw [hwr2] at hdw
  have hto := torn_pure Hs.out.rest.wf (by rw [hrg1]; exact Nat.zero_lt_one) hsz1 hq6 hy0 Hpg.out
  rw [show pgAt q + 2 = s by rw [← hs2]; rfl] at hto
  obtain ⟨m2, hm2⟩ : ∃ m2, m1.write 0 s [y] = m2 := ⟨_, rfl⟩
  rw [hm2] at hto hdw
  have hs3 : m2.size = 538 := by rw [← hm2]; exact hsz1
  have hr3 : m2.regs.length = 1 := by rw [← hm2]; exact (Dk.write_same (m := m1) (r := 0) (s := s) (x := [y])).regs.trans hrg1
  have hw3 : m2.writes ≤ 600 := by
    have := (m1.wr_keeps 0 s [y]).2.2
    rw [hwr2, hm2] at this
    show m2.writes ≤ 600
    simp only at this
    omega
  have Hto := hide hto
  clear hwr2 hto hm2 hun hwr hsz1 hrg1 h4
  go_wp2_with fail
  refine hdw.mono ?_
  rintro e w5 ⟨rfl, h6⟩
  clear hdw h5 hy g1 g2 g3 e3 hs2
  have h7 := h6.cast (show _ = poB b (PoS.new D 0 P) * (dsk D m2 * (lan P D 0 L * (row 5 1 (.slice (some ⟨w4.heap.size, 0, none⟩) 1 1) 1 (bys [y]) * (old W * 1)))) by ac_rfl)
  have hgt := poolGet_new W w5 _ b (PoS.new D 0 P) m2 q 0 (by rw [hr3]; exact Nat.zero_lt_one) (show (0 : Nat) < 65536 by decide) hq6 (by omega) (by omega) (by omega) rfl rfl h7
  change Calls _ _ #[_, _] _ (gotB b 0 (PoS.new D 0 P) (m2.page 0 q) q W _) at hgt
  clear h6 h7
  go_wp2_with fail
  refine hgt.mono ?_
  rintro e w6 (⟨hyes, _⟩ | ⟨_, rfl, h8⟩)
  case inl => exact absurd (Hto.out.symm.trans hyes) (by decide)
  clear hgt
  have hb1 := poolGet_bad w6 b (-1) (.inl (by decide))
  have hb2 := poolGet_bad w6 b 6 (.inr (by decide))
  go_wp2_with fail
  refine hb1.mono ?_
  rintro e w' ⟨rfl, rfl⟩
  go_wp2_with fail
  refine hb2.mono ?_
  rintro e w' ⟨rfl, rfl⟩
  clear hb1 hb2
  have hpt := poolPut_free W w6 _ b (PoS.new D 0 P) 0 ⟨5, 0, q, zs 200⟩ rfl rfl h8
  clear h8
  go_upto_region 11 with fail
  refine wp_region_lit ?_
  refine wpList_move_at rfl (.tmp 10) rfl rfl ?_
  refine wpList_move_at rfl (.tmp 0) rfl rfl ?_
  refine wpList_build2_at rfl 41 2 0 (.tmp 63) (.const (.int .u64 5)) rfl (v := .int .i64 q) (v2 := .int .u64 5) rfl rfl (Try.buildPut q _) ?_
  simp only [Act.put, List.setIfInBounds_toArray, List.set_cons_succ, List.set_cons_zero]
  generalize hxc : (Pg.mk 5 0 q (zs 200)).cells.toArray = xc at hpt ⊢
  go_wp2_with fail
  refine hpt.mono ?_
  rintro e w7 ⟨k, rfl, h9⟩
  clear hpt
  obtain ⟨P1, hP1⟩ : ∃ P1 : PoS, P1 = ⟨D, 0, P, ⟨k, some ⟨5, 0, q, zs 200⟩, 0, true⟩, Fr.none', Fr.none', 0⟩ := ⟨_, rfl⟩
  have e1 : (PoS.new D 0 P).setFr 0 ⟨k, some ⟨5, 0, q, zs 200⟩, ((PoS.new D 0 P).fr 0).since, true⟩ = P1 := by rw [hP1]; rfl
  rw [e1] at h9
  have hh : ∀ c : Int, P1.find c = if (q : Int) == c then some 0 else none := fun c => by rw [hP1]; rfl
  have e2 : P1.find q = some 0 := by rw [hh]; simp
  have e3 : P1.setFr 0 { P1.fr 0 with again := true } = P1 := by rw [hP1]; rfl
  have e4 : (P1.fr 0).blk = k := by rw [hP1]; rfl
  obtain ⟨cc, hcc⟩ : ∃ cc, bits .and .i64 c0 15 = cc := ⟨_, rfl⟩
  have hc15 := and15 c0
  rw [hcc] at hc15
  have v4 := IntWalk.i64_in (cc + 20) (by omega)
  have e5 : P1.touch (cc + 20) 7 = P1 := by
    unfold PoS.touch
    rw [hh, if_neg (by simp; omega)]
  have e6 : P1.clean q = true := by unfold PoS.clean; rw [e2, hP1]; rfl
  have hgf := poolGet_found W w7 _ b P1 q 0 hq6 e2 h9
  rw [e3, e4] at hgf
  have H9 : ∀ w', At W (poB b P1 * (dsk D m2 * (lan P D 0 L * (row 5 1 (.slice (some ⟨w4.heap.size, 0, none⟩) 1 1) 1 (bys [y]) * (old W * 1))))) w' → w'.cell? ⟨k, 0, none⟩ = some (.int .u64 5) := fun w' h' => by
    rw [hP1] at h'
    have h2 := h'.cast (show _ = pgB k ⟨5, 0, q, zs 200⟩ * (cel b (PoS.mk D 0 P ⟨k, some ⟨5, 0, q, zs 200⟩, 0, true⟩ Fr.none' Fr.none' 0).cells 90 * (1 * 1 * (dsk D m2 * (lan P D 0 L * (row 5 1 (.slice (some ⟨w4.heap.size, 0, none⟩) 1 1) 1 (bys [y]) * (old W * 1)))))) by
      unfold poB
      show cel b _ _ * (pgB k _ * (1 * 1)) * _ = _
      ac_rfl)
    exact At.cell h2 rfl
  have Hh9 := hide H9
  have E5 := hide e5
  have E6 := hide e6
  clear e1 e2 e3 e4 e5 e6 hh hP1 H9 h9
  go_wp2_with fail
  refine hgf.mono ?_
  rintro e w8 ⟨rfl, h10⟩
  clear hgf
  have hth := poolTouch_any W w8 _ b P1 (cc + 20) 7 h10
  rw [E5.out] at hth
  change Calls _ _ #[_, _, .int .u64 7] _ _ at hth
  clear h10
  go_wp2_with fail
  refine hth.mono ?_
  rintro e w9 ⟨rfl, h11⟩
  clear hth
  have hcl := poolClean_any W w9 _ b P1 q h11
  rw [E6.out] at hcl
  have ck := Hh9.out w9 h11
  obtain ⟨ip, hip⟩ : ∃ ip, Try.prog.info? 41 = some ip := by
    cases hq : Try.prog.info? 41 with
    | none => have := Try.sizePage; rw [hq] at this; cases this
    | some ip => exact ⟨ip, rfl⟩
  have hpe := run_eql_ptr_same (P := Try.prog) (w := w9) ⟨k, 0, none⟩ Try.underlying33 hip
  have hbel := (h11.cast (show _ = old W * (1 * (poB b P1 * (dsk D m2 * (lan P D 0 L * row 5 1 (.slice (some ⟨w4.heap.size, 0, none⟩) 1 1) 1 (bys [y]))))) by ac_rfl)).below
  clear h11
  go_wp2_with fail
  refine hcl.mono ?_
  rintro e w' ⟨rfl, rfl⟩
  go_wp2_with fail
  go_ret
  exact ⟨rfl, hbel⟩
end Go.Proofs.Ytmlifjfgelfbbaa
