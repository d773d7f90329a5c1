/-
  PoolTwo: the law's walk: whatever comes in, it returns true. A contract, no statement.
-/
import Derived.Test.YtmlifjfgelfbbaaTw
import Derived.Test.YtmlifjfgelfbbaaKt
import Derived.Test.YtmlifjfgelfbbaaPre3
import Derived.Deep.RegionHeld3
namespace Go.Proofs.Ytmlifjfgelfbbaa
open Go Go.RowKit

section
variable {P : Program} {ops : Array Oper} {S : World → Prop} {i : Nat} {r : List Nat} {a : Act} {o : Oper}
theorem lv_call_d {R : Act → World → Prop} {w : World} (d : Nat) (f : FuncId) (args : Array Value) (ho : ops[i]? = some o) (hg : Region.wanted o (yielded ops a.tmps) = true) (hd : o.dst = some d) (hr : (execOp a.eval o).run P w = .ok (.enter f args) w)
    (h : Calls P f args w fun e w' => ∃ v, e = .returned v ∧ S w' ∧ LV P ops S R r { a with tmps := a.tmps.setIfInBounds d v } w') : LV P ops S R (i :: r) a w :=
  lv_call f args ho hg hr (h.mono fun e w' ⟨v, h1, h2, h3⟩ => ⟨v, h1, h2, by unfold Act.put; rw [hd]; exact h3⟩)
theorem hx_read_d {Rr : Act → Prop} (v : Value) (d : Nat) (ho : ops[i]? = some o) (hg : Region.wanted o (yielded ops a.tmps) = true) (hd : o.dst = some d) (hr : ∀ w, S w → (execOp a.eval o).run P w = .ok (.value v) w) (h : wpHX P ops S Rr r { a with tmps := a.tmps.setIfInBounds d v }) : wpHX P ops S Rr (i :: r) a :=
  hx_read v ho hg hr (by unfold Act.put; rw [hd]; exact h)
theorem hx_call_d {Rr : Act → Prop} (v : Value) (d : Nat) (f : FuncId) (args : Array Value) (ho : ops[i]? = some o) (hg : Region.wanted o (yielded ops a.tmps) = true) (hd : o.dst = some d) (hr : ∀ w, (execOp a.eval o).run P w = .ok (.enter f args) w)
    (hc : ∀ w, S w → Calls P f args w fun e w' => e = .returned v ∧ w = w') (h : wpHX P ops S Rr r { a with tmps := a.tmps.setIfInBounds d v }) : wpHX P ops S Rr (i :: r) a :=
  hx_call v f args ho hg hr hc (by unfold Act.put; rw [hd]; exact h)
end
/-- A page of another region is as it was. -/
theorem Same.page {m m' : Dk} {r r' n : Nat} (h : Same m m' r) (hne : r' ≠ r) (hr : r' < m.regs.length) (hw : m.wts r' = []) (hn : pgAt n + 3 < m.size) : m'.page r' n = m.page r' n := by
  have e : ∀ j, j < 4 → m'.sec r' (pgAt n + j) = m.sec r' (pgAt n + j) := fun j hj => by
    rw [Dk.sec_nil hw, Dk.sec_nil ((h.wts r' hne).trans hw)]
    exact h.dat _ _ hne hr (by omega)
  have e0 := e 0 (by decide)
  rw [Nat.add_zero] at e0
  unfold Dk.page
  rw [e0, e 1 (by decide), e 2 (by decide), e 3 (by decide)]
theorem right_facts {t : Int} {k v : ByteArray} (h : rightR t k v = true) : ∃ tn : Nat, t = (tn : Int) ∧ tn < 4 ∧ k.size ≤ 15 ∧ v.size ≤ 21 := by
  unfold rightR at h
  rw [decide_eq_true_eq] at h
  exact ⟨t.toNat, by omega, by omega, h.2.2.1, h.2.2.2⟩

set_option maxRecDepth 100000 in
set_option maxHeartbeats 16000000 in
theorem poolTwo_walk (W : World) (t1 : Int) (k1 v1 : ByteArray) (t2 : Int) (k2 v2 : ByteArray) (n0 : Int) (hk1 : k1.size ≤ 140737488355328) (hv1 : v1.size ≤ 140737488355328) (hk2 : k2.size ≤ 140737488355328) (hv2 : v2.size ≤ 140737488355328) :
    Calls Try.prog 7 #[.agg #[.int .i64 t1, .string k1, .string v1], .agg #[.int .i64 t2, .string k2, .string v2], .int .i64 n0] W fun e W' => e = .returned (.bool true) ∧ Below W.heap.size W W' := by
  obtain ⟨X, hX⟩ : ∃ N, W.heap.size = N := ⟨_, rfl⟩
  obtain ⟨Y, hY⟩ : ∃ N, X + 1 = N := ⟨_, rfl⟩
  obtain ⟨Z, hZ⟩ : ∃ N, Y + 1 = N := ⟨_, rfl⟩
  have h0 := (((At.startR W).alloc' hX (.cells #[.int .i64 t1, .string k1, .string v1] 57)).alloc' (show _ = Y by simp [hX, hY]) (.cells #[.int .i64 t2, .string k2, .string v2] 57)).alloc' (show _ = Z by simp [hX, hY, hZ]) (.cells #[.int .i64 n0] 3)
  have hfit := poolFit_any W _ _ h0
  obtain ⟨Bd, hBd⟩ : ∃ Bd, (fun W' => Below W.heap.size W W') = Bd := ⟨_, rfl⟩
  have HBd : ∀ w', At W (old W * 1) w' → Bd w' := fun w' h' => by rw [← hBd]; exact h'.below
  have hgoal : (fun (e : Ending) W' => e = .returned (.bool true) ∧ Below W.heap.size W W') = fun e W' => e = .returned (.bool true) ∧ Bd W' := by rw [← hBd]
  rw [hgoal]
  have Hbd := hide HBd
  clear HBd hgoal hBd
  go_enter Try.func7, Try.ntmps7
  go_upto_region 1 with fail
  have h0 : At W (cel X #[.int .i64 t1, .string k1, .string v1] 57 * (cel Y #[.int .i64 t2, .string k2, .string v2] 57 * (cel Z #[.int .i64 n0] 3 * (old W * 1)))) _ := h0.cast (show _ = cel X #[.int .i64 t1, .string k1, .string v1] 57 * (cel Y #[.int .i64 t2, .string k2, .string v2] 57 * (cel Z #[.int .i64 n0] 3 * (old W * 1))) by show cel Z _ _ * (cel Y _ _ * (cel X _ _ * _)) = _; ac_rfl)
  replace hfit := poolFit_any W _ _ h0
  generalize hw1 : World.alloc _ _ = w1 at h0 hfit ⊢
  clear hw1 hX hY hZ
  go_wp2_with fail
  refine hfit.mono ?_
  rintro e w2 ⟨rfl, h1⟩
  clear hfit
  obtain ⟨F, hF⟩ : ∃ F : HP, cel X #[.int .i64 t1, .string k1, .string v1] 57 * (cel Y #[.int .i64 t2, .string k2, .string v2] 57 * (old W * 1)) = F := ⟨_, rfl⟩
  have HF : ∀ w', At W F w' → (w'.cell? ⟨X, 0, none⟩ = some (.int .i64 t1) ∧ w'.cell? ⟨X, 1, none⟩ = some (.string k1) ∧ w'.cell? ⟨X, 2, none⟩ = some (.string v1)) ∧ (w'.cell? ⟨Y, 0, none⟩ = some (.int .i64 t2) ∧ w'.cell? ⟨Y, 1, none⟩ = some (.string k2) ∧ w'.cell? ⟨Y, 2, none⟩ = some (.string v2)) ∧ Bd w' := fun w' h' => by
    rw [← hF] at h'
    exact ⟨⟨At.cell h' rfl, At.cell h' rfl, At.cell h' rfl⟩, ⟨At.cell h'.pull2 rfl, At.cell h'.pull2 rfl, At.cell h'.pull2 rfl⟩, Hbd.out w' h'.r.r⟩
  have h2 : At W (cel Z #[.int .i64 n0] 3 * F) w2 := h1.cast (by rw [← hF]; ac_rfl)
  have HFh := hide HF
  clear h1 h0 hF HF Hbd
  obtain ⟨⟨x0, x1, x2⟩, ⟨y0, y1, y2⟩, hb⟩ := HFh.out _ h2.r
  have g1 := IntWalk.i64_in ((k1.size : Int) + (v1.size : Int)) (by omega)
  have g2 := IntWalk.i64_in ((k1.size : Int) + (v1.size : Int) + (k2.size : Int)) (by omega)
  have g3 := IntWalk.i64_in ((k1.size : Int) + (v1.size : Int) + (k2.size : Int) + (v2.size : Int)) (by omega)
  by_cases hbig : 200 < (k1.size : Int) + (v1.size : Int) + (k2.size : Int) + (v2.size : Int)
  · go_wp2_with fail
    go_ret
    exact ⟨rfl, hb⟩
  have hrt := rowRight_any W w2 _ t1 k1 v1 h2
  obtain ⟨rr, hrr⟩ : ∃ rr, rightR t1 k1 v1 = rr := ⟨_, rfl⟩
  rw [hrr] at hrt
  have Hrr := hide hrr
  clear hrr
  cases rr with
  | false =>
    clear hb
    go_wp2_with fail
    refine hrt.mono ?_
    rintro e w3 ⟨rfl, h3⟩
    have hb := (HFh.out _ h3.r).2.2
    clear hrt
    go_wp2_with fail
    go_ret
    exact ⟨rfl, hb⟩
  | true =>
    clear hb
    go_wp2_with fail
    refine hrt.mono ?_
    rintro e w3 ⟨rfl, h3⟩
    clear hrt x0 x1 x2 y0 y1 y2 h2
    obtain ⟨⟨x0, x1, x2⟩, ⟨y0, y1, y2⟩, hb⟩ := HFh.out _ h3.r
    have hrt := rowRight_any W w3 _ t2 k2 v2 h3
    obtain ⟨rr, hrr⟩ : ∃ rr, rightR t2 k2 v2 = rr := ⟨_, rfl⟩
    rw [hrr] at hrt
    have Hrr2 := hide hrr
    clear hrr hb
    cases rr with
    | false =>
      go_wp2_with fail
      refine hrt.mono ?_
      rintro e w4 ⟨rfl, h4⟩
      have hb := (HFh.out _ h4.r).2.2
      clear hrt
      go_wp2_with fail
      go_ret
      exact ⟨rfl, hb⟩
    | true =>
      go_wp2_with fail
      refine hrt.mono ?_
      rintro e w4 ⟨rfl, h4⟩
      clear hrt x0 x1 x2 y0 y1 y2 h3 g1 g2 g3 hbig
      obtain ⟨r1, rfl, a1, a2, a3⟩ := right_facts Hrr.out
      obtain ⟨r2, rfl, b1, b2, b3⟩ := right_facts Hrr2.out
      clear Hrr Hrr2 hk1 hk2 hv1 hv2
      obtain ⟨k3, hk3⟩ : ∃ k, n0.tmod 6 = k := ⟨_, rfl⟩
      obtain ⟨k4, hk4⟩ : ∃ k, (k3 + 6).tmod 6 = k := ⟨_, rfl⟩
      have c1 := tmod_in n0 6 (by decide)
      have c2 := tmod_up n0 6 (by decide)
      change -6 < n0.tmod 6 ∧ n0.tmod 6 < 6 at c1
      change 0 ≤ (n0.tmod 6 + 6).tmod 6 ∧ (n0.tmod 6 + 6).tmod 6 < 6 at c2
      rw [hk3] at c1 c2
      rw [hk4] at c2
      obtain ⟨q, hq⟩ : ∃ q : Nat, k4 = (q : Int) := ⟨k4.toNat, by omega⟩
      rw [hq] at hk4 c2
      have hq6 : q < 6 := by omega
      have v3 := IntWalk.i64_in k3 (by omega)
      have v4 := IntWalk.i64_in (k3 + 6) (by omega)
      have v5 := IntWalk.i64_in (q : Int) (by omega)
      have s0 : w4.cell? ⟨Z, 0, none⟩ = some (.int .i64 n0) := At.cell h4 rfl
      have s1 := At.frz h4 0
      have s2 := At.lt h4
      have h5 := h4.set' (d := #[.int .i64 q]) 0 (.int .i64 q) rfl
      clear c1 c2 hq h4
      have hnew := fun w' (h : At W (cel Z #[.int .i64 q] 3 * F) w') => diskNew_any W w' _ 2 538 (by decide) (by decide) (by decide) (by decide) h
      have hnew := hnew _ h5
      change Calls _ _ #[.int .i64 2, .int .i64 538] _ _ at hnew
      go_wp2_with fail
      refine hnew.mono ?_
      rintro e w6 ⟨D, rfl, h6⟩
      clear hnew h5 s0 s1 s2 v3 v4 v5 hk3 hk4
      obtain ⟨T, hT⟩ : ∃ T, w6.heap.size = T := ⟨_, rfl⟩
      have h7 := h6.alloc' hT (.cells #[.pointer (some ⟨D, 0, none⟩)] 23)
      have hmf : ∀ (fn : Fn) (first cap : Array Value) (w : World), (Instr.makeFunc fn first cap).run Try.prog w = .ok (.func fn first cap) w := fun _ _ _ _ => rfl
      go_upto_region 8 with fail
      generalize hw7 : w6.alloc _ = w7 at h7 ⊢
      clear hw7 hT h6 hmf
      have hN0 := Dk.new_at 2 538 0 (by decide)
      have hN1 := Dk.new_at 2 538 1 (by decide)
      have hB0 : (Dk.new 2 538).page 0 q = zs 256 := Dk.new_blank (n := 2) (size := 538) (r := 0) (by decide) (by decide) q hq6
      have hB1 : (Dk.new 2 538).page 1 q = zs 256 := Dk.new_blank (n := 2) (size := 538) (r := 1) (by decide) (by decide) q hq6
      have hnw := Dk.new_wf (n := 2) (size := 538) (by decide) (by decide) (by decide)
      have hn1 : (Dk.new 2 538).regs.length = 2 := rfl
      have hn2 : (Dk.new 2 538).writes = 0 := rfl
      have hn3 : (Dk.new 2 538).size = 538 := rfl
      generalize Dk.new 2 538 = m0 at *
      have h8 : At W (cel T #[.pointer (some ⟨D, 0, none⟩)] 23 * (cel Z #[.int .i64 q] 3 * (dsk D m0 * F))) w7 := h7.cast (show _ = cel T #[.pointer (some ⟨D, 0, none⟩)] 23 * (cel Z #[.int .i64 q] 3 * (dsk D m0 * F)) by show cel T _ _ * (dsk D m0 * (cel Z _ _ * F)) = _; ac_rfl)
      have hp1 := twoPut_any W w7 F T Z D q 0 r1 k1 v1 m0 a1 a2 a3 hnw (by omega) (by decide) hq6 hn3 hN0.1 hN0.2 hB0 (by omega) h8
      obtain ⟨⟨x0, x1, x2⟩, -, -⟩ := HFh.out _ h8.r.r.r
      have Hb1 := hide hB1
      have Hn1 := hide hN1
      change Calls _ _ #[.int .i64 0, _, _, _] _ _ at hp1
      clear h7 h8 hB0 hB1 hN0 hN1 hnw
      go_wp2_with fail
      refine hp1.mono ?_
      rintro e w8 ⟨m1, L1, all1, kk1, pl1, rfl, hsm1, hst1, hun1, hwr1, hpl1, hpl1', hpg1, h9⟩
      clear hp1 x0 x1 x2
      have hm1 : m1.page 1 q = zs 256 := (hsm1.page (by decide) (by omega) Hn1.out.1 (by rw [hn3]; unfold pgAt; omega)).trans Hb1.out
      have hp2 := twoPut_any W w8 F T Z D q 1 r2 k2 v2 m1 b1 b2 b3 hst1.rest.wf (by rw [hsm1.regs]; omega) (by decide) hq6 (hsm1.size.trans hn3) ((hsm1.wts 1 (by decide)).trans Hn1.out.1) ((hsm1.armd 1 (by decide)).trans Hn1.out.2) hm1 (by omega) h9
      obtain ⟨-, ⟨y0, y1, y2⟩, -⟩ := HFh.out _ h9.r.r.r
      change Calls _ _ #[.int .i64 1, _, _, _] _ _ at hp2
      have hz1 : m1.size = 538 := hsm1.size.trans hn3
      have hg1 : m1.regs.length = 2 := hsm1.regs.trans hn1
      have hw01 : m1.wts 0 = [] := hst1.rest.wts
      have Hpg1 := hide hpg1
      have Hw01 := hide hw01
      clear hsm1 hst1 hun1 hm1 h9 hn1 hn3 hpg1 hw01
      go_wp2_with fail
      refine hp2.mono ?_
      rintro e w9 ⟨m2, L2, all2, kk2, pl2, rfl, hsm2, hst2, hun2, hwr2, hpl2, hpl2', hpg2, h10⟩
      clear hp2 y0 y1 y2
      obtain ⟨E1, hE1⟩ : ∃ EB, rowEnc r1 k1.data.toList v1.data.toList = EB := ⟨_, rfl⟩
      have hE1l : E1.length = 40 := by rw [← hE1]; exact rowEnc_len (by rw [Array.length_toList]; exact a2) (by rw [Array.length_toList]; exact a3)
      have hE1r : rowSt E1 = 0 := by rw [← hE1]; exact (rowEnc_tells a1 (by rw [Array.length_toList]; exact a2) (by rw [Array.length_toList]; exact a3)).2.2.2.2
      obtain ⟨E2, hE2⟩ : ∃ EB, rowEnc r2 k2.data.toList v2.data.toList = EB := ⟨_, rfl⟩
      have hE2l : E2.length = 40 := by rw [← hE2]; exact rowEnc_len (by rw [Array.length_toList]; exact b2) (by rw [Array.length_toList]; exact b3)
      have hE2r : rowSt E2 = 0 := by rw [← hE2]; exact (rowEnc_tells b1 (by rw [Array.length_toList]; exact b2) (by rw [Array.length_toList]; exact b3)).2.2.2.2
      rw [hE2] at hpg2
      obtain ⟨wf1, dc1, ok1, sl1⟩ := twoPg_dec (r := 0) (n := q) hE1l hE1r hpl1 hpl1' (by decide) hq6
      obtain ⟨wf2, dc2, ok2, sl2⟩ := twoPg_dec (r := 1) (n := q) hE2l hE2r hpl2 hpl2' (by decide) hq6
      have hpg0 : m2.page 0 q = (twoPg pl1 0 q E1).enc := (hsm2.page (by decide) (by omega) Hw01.out (by rw [hz1]; unfold pgAt; omega)).trans (by rw [Hpg1.out, hE1])
      obtain ⟨p1, hp1⟩ : ∃ p, twoPg pl1 0 q E1 = p := ⟨_, rfl⟩
      obtain ⟨p2, hp2⟩ : ∃ p, twoPg pl2 1 q E2 = p := ⟨_, rfl⟩
      have ht2 : p2.tenant = 1 := by rw [← hp2]; rfl
      rw [hp1] at hpg0 wf1 dc1 ok1 sl1
      rw [hp2] at hpg2 wf2 dc2 ok2 sl2
      have hz2 : m2.size = 538 := hsm2.size.trans hz1
      have hg2 : m2.regs.length = 2 := hsm2.regs.trans hg1
      have hkp := poolKept_any W w9 _ D m2 q (by omega) hq6 (by omega) (by omega) (by omega) (h10.cast (show _ = dsk D m2 * (cel T #[.pointer (some ⟨D, 0, none⟩)] 23 * (cel Z #[.int .i64 q] 3 * F)) by ac_rfl))
      rw [hpg0, ok1, show decPg p1.enc 0 q = p1 by unfold decPg; rw [ok1, if_pos rfl, dc1]] at hkp
      have tc : w9.cell? ⟨T, 0, none⟩ = some (.pointer (some ⟨D, 0, none⟩)) := At.cell h10 rfl
      have zc : w9.cell? ⟨Z, 0, none⟩ = some (.int .i64 q) := At.cell h10.r rfl
      have HE1 := hide hE1
      have HE2 := hide hE2
      have Hsl1 := hide sl1
      have Hsl2 := hide sl2
      have Hok2 := hide ok2
      have Hdc2 := hide dc2
      have Hst2 := hide hst2
      have Hun2 := hide hun2
      have Hpg2 := hide hpg2
      have Ht2 := hide ht2
      have hs1 : p1.slots.length = 200 := wf1.slots
      have hs2 : p2.slots.length = 200 := wf2.slots
      clear Hpg1 Hw01 Hb1 Hn1 hpl1 hpl1' hpl2 hpl2' hE1 hE2 sl1 sl2 ok1 ok2 dc1 dc2 wf1 wf2 hp1 hp2 hpg0 hpg2 hsm2 hst2 hun2 h10 ht2
      go_wp2_with fail
      refine hkp.mono ?_
      rintro e w10 ⟨rfl, h11⟩
      clear hkp tc zc
      obtain ⟨V, hV⟩ : ∃ V, w10.heap.size = V := ⟨_, rfl⟩
      have hX := h11.alloc' hV (.cells pg0.cells.toArray 41)
      go_wp2_with (first | refine wpList_alloc_at rfl 41 rfl (Try.zeroPage _) ?_ | (try rw [hV]); refine Try.wpList_storePg rfl (.tmp 9) (.tmp 64) rfl (q := pg0) (q' := p1) (zs_len 200) hs1 rfl rfl hX ?_)
      intro w12 h12
      clear h11 hX
      obtain ⟨G, hG⟩ : ∃ G : HP, pgB V p1 * (cel T #[.pointer (some ⟨D, 0, none⟩)] 23 * (cel Z #[.int .i64 q] 3 * F)) = G := ⟨_, rfl⟩
      have HG : ∀ w', At W G w' → w'.cell? ⟨T, 0, none⟩ = some (.pointer (some ⟨D, 0, none⟩)) ∧ w'.cell? ⟨Z, 0, none⟩ = some (.int .i64 q) ∧ At W (pgB V p1 * F) w' := fun w' h' => by
        rw [← hG] at h'
        exact ⟨At.cell h'.r rfl, At.cell h'.r.r rfl, (h'.cast (show _ = pgB V p1 * F * (cel T #[.pointer (some ⟨D, 0, none⟩)] 23 * cel Z #[.int .i64 q] 3) by ac_rfl)).l⟩
      have HGh := hide HG
      have h13 : At W (dsk D m2 * G) w12 := by rw [← hG]; exact h12.cast (by ac_rfl)
      clear hG HG h12 hV
      have hop := laneOpen_pg W w12 _ D 1 m2 Hst2.out Hun2.out (by omega) h13
      obtain ⟨tc, zc, -⟩ := HGh.out _ h13.r
      change Calls _ _ #[_, .int .i64 1] _ _ at hop
      clear h13
      go_wp2_with fail
      refine hop.mono ?_
      rintro e w13 ⟨P, a9, n9, c9, L9, F9, m3, rfl, hst3, -, -, hsm3, hps3, hun3, hwr3, h14⟩
      clear hop tc zc
      have hz3 : m3.size = 538 := hsm3.size.trans hz2
      have hpg3 : m3.page 1 q = p2.enc := (hps3.page Hst2.out.rest.wts hst3.rest.wts (by rw [hz2]; unfold pgAt; omega)).trans Hpg2.out
      have hr3 := hst3.rest.hr
      have hpn := poolNew_any W w13.drew _ D 1 P h14.drew
      change Calls _ _ #[_, .int .i64 1, _] _ _ at hpn
      have hgt := fun b w' (h : At W (poB b (PoS.new D 1 P) * (lan P D 1 L9 * (F9 * (dsk D m3 * G)))) w') => poolGet_new W w' (lan P D 1 L9 * (F9 * G)) b (PoS.new D 1 P) m3 q 0 hr3 (show (1 : Nat) < 65536 by decide) hq6 (by omega) (by omega) (by omega) rfl rfl (h.cast (show _ = poB b (PoS.new D 1 P) * (dsk D m3 * (lan P D 1 L9 * (F9 * G))) by ac_rfl))
      have hgt2 : ∀ b w' (h : At W (poB b (PoS.new D 1 P) * (lan P D 1 L9 * (F9 * (dsk D m3 * G)))) w'), Calls Try.prog 13 #[.pointer (some ⟨b, 0, none⟩), .int .i64 q] w' fun e w'' => ∃ k, e = .returned (.tuple #[.pointer (some ⟨k, 0, none⟩), .int .i64 0]) ∧ At W (pgB k p2 * G) w'' := fun b w' h => by
        refine (hgt b w' h).mono ?_
        intro e w'' hx
        unfold gotB at hx
        rw [show (PoS.new D 1 P).r = 1 from rfl, hpg3, Hok2.out, Hdc2.out] at hx
        rcases hx with ⟨_, k, he, hA⟩ | ⟨hno, _⟩
        · refine ⟨k, he, ?_⟩
          rw [show (PoS.new D 1 P).setFr 0 ⟨k, some p2, ((PoS.new D 1 P).fr 0).since, true⟩ = onePo D 1 P k p2 0 from rfl, onePo_box] at hA
          exact (hA.cast (show _ = pgB k p2 * G * (cel b (onePo D 1 P k p2 0).cells 90 * (dsk D m3 * (lan P D 1 L9 * F9))) by show _ * (dsk D m3 * (lan P D 1 L9 * (F9 * G))) = _; ac_rfl)).l
        · cases hno
      have hk1 : ∀ w', At W (lan P D 1 L9 * (F9 * (dsk D m3 * G))) w' → w'.cell? ⟨T, 0, none⟩ = some (.pointer (some ⟨D, 0, none⟩)) ∧ w'.cell? ⟨Z, 0, none⟩ = some (.int .i64 q) := fun w' h' => ⟨(HGh.out w' h'.r.r.r).1, (HGh.out w' h'.r.r.r).2.1⟩
      have hk2 := hk1 _ h14.drew
      clear hgt hst3 hsm3 hps3 hun3 hpg3 h14
      go_upto_region 12 with fail
      go_region_held3 (fun w' => w'.cell? ⟨T, 0, none⟩ = some (.pointer (some ⟨D, 0, none⟩)) ∧ w'.cell? ⟨Z, 0, none⟩ = some (.int .i64 q)) (first | exact hk2 | exact hk1 _ h15.r | exact ⟨(HGh.out _ h16.r).1, (HGh.out _ h16.r).2.1⟩) (first | ((with_reducible refine hpn.mono ?_); rintro e w15 ⟨b15, rfl, h15⟩) | ((with_reducible refine (hgt2 _ _ h15).mono ?_); rintro e w16 ⟨k16, rfl, h16⟩))
      obtain ⟨S1, hS1⟩ : ∃ s : ByteArray, ⟨E1.toArray⟩ = s := ⟨_, rfl⟩
      obtain ⟨S2, hS2⟩ : ∃ s : ByteArray, ⟨E2.toArray⟩ = s := ⟨_, rfl⟩
      have HS1 := hide hS1
      have HS2 := hide hS2
      have hx : ∀ w', At W (pgB k16 p2 * G) w' → At W (pgB V p1 * F) w' := fun w' h' => (HGh.out w' h'.r).2.2
      have hsl1 : ∀ w', At W (pgB k16 p2 * G) w' → Calls Try.prog 23 #[.pointer (some ⟨V, 0, none⟩), .int .i64 0] w' fun e w'' => e = .returned (.string S1) ∧ w' = w'' := fun w' h' => by
        have := pageSlot_any W w' _ V p1 0 hs1 (by decide) (hx w' h')
        rw [Hsl1.out] at this
        unfold str at this
        rw [HS1.out] at this
        exact this
      have hsl2 : ∀ w', At W (pgB k16 p2 * G) w' → Calls Try.prog 23 #[.pointer (some ⟨k16, 0, none⟩), .int .i64 0] w' fun e w'' => e = .returned (.string S2) ∧ w' = w'' := fun w' h' => by
        have := pageSlot_any W w' _ k16 p2 0 hs2 (by decide) h'
        rw [Hsl2.out] at this
        unfold str at this
        rw [HS2.out] at this
        exact this
      have hxf : ∀ w', At W (pgB k16 p2 * G) w' → (w'.cell? ⟨X, 0, none⟩ = some (.int .i64 r1) ∧ w'.cell? ⟨X, 1, none⟩ = some (.string k1) ∧ w'.cell? ⟨X, 2, none⟩ = some (.string v1)) ∧ (w'.cell? ⟨Y, 0, none⟩ = some (.int .i64 r2) ∧ w'.cell? ⟨Y, 1, none⟩ = some (.string k2) ∧ w'.cell? ⟨Y, 2, none⟩ = some (.string v2)) ∧ Bd w' := fun w' h' => HFh.out w' (hx w' h').r
      have Hxf := hide hxf
      have Hsc1 := hide hsl1
      have Hsc2 := hide hsl2
      have Hcv := hide (fun l v ws (h : Rd ws v (bys l)) => run_txt (P := Try.prog) 32 5 9 Try.underlying32 Try.underlying5 Try.underlying9 (w := ws) (l := l) (v := v) h)
      clear hS1 hS2 hx hsl1 hsl2 hxf hk1 hk2 hpn hgt2 h0
      go_upto_region 13 with fail
      refine wp_region_seq [0, 1] [2] [3, 4, 5] [6, 7, 8, 9, 10, 11, 12] [13, 14] [15, 16, 17] [18, 19, 20, 21, 22, 23, 24, 25, 26, 27] (fun ws => At W (pgB k16 p2 * G) ws) rfl (by kernel_rfl) h16.drew ?_
      refine lv_read_d (.bool true) 80 rfl (by kernel_rfl) rfl (by go_simp) ?_
      refine lv_read_d (.bool true) 81 rfl (by kernel_rfl) rfl (by go_simp) ?_
      refine hx_call_d (.string S1) 82 23 #[.pointer (some ⟨V, 0, none⟩), .int .i64 0] rfl (by kernel_rfl) rfl (fun ws => by go_simp) (fun ws hws => Hsc1.out ws hws) ?_
      simp only [List.setIfInBounds_toArray, List.set_cons_succ, List.set_cons_zero]
      obtain ⟨⟨x0, x1, x2⟩, -, -⟩ := Hxf.out _ h16.drew
      refine lv_read_d (.agg #[.int .i64 r1, .string k1, .string v1]) 83 rfl (by kernel_rfl) rfl (by go_simp) ?_
      clear x0 x1 x2
      refine lv_call_d 84 22 #[.agg #[.int .i64 r1, .string k1, .string v1]] rfl (by kernel_rfl) rfl (by go_simp) ?_
      refine (rowEncode_any W w16.drew _ r1 k1 v1 a1 a2 a3 h16.drew).mono ?_
      rintro e w17 ⟨a17, c17, rfl, h17⟩
      rw [HE1.out] at h17
      refine ⟨_, rfl, h17.r, ?_⟩
      simp only [List.setIfInBounds_toArray, List.set_cons_succ, List.set_cons_zero]
      have e17 := Hcv.out _ _ _ h17.rd
      unfold str at e17
      rw [HS1.out] at e17
      refine lv_read_d (.string S1) 85 rfl (by kernel_rfl) rfl (by go_simp) ?_
      clear e17 h16
      have h18 := h17.r
      clear h17
      refine lv_read_d (.bool true) 86 rfl (by kernel_rfl) rfl (by go_simp) ?_
      refine lv_read_d (.bool true) 87 rfl (by kernel_rfl) rfl (by go_simp) ?_
      refine lv_read_d (.bool true) 88 rfl (by kernel_rfl) rfl (by go_simp) ?_
      simp only [List.setIfInBounds_toArray, List.set_cons_succ, List.set_cons_zero]
      refine lv_read_d (.int .i64 0) 89 rfl (by kernel_rfl) rfl (by go_simp) ?_
      refine lv_read_d (.bool true) 90 rfl (by kernel_rfl) rfl (by go_simp) ?_
      refine lv_read_d (.bool true) 91 rfl (by kernel_rfl) rfl (by go_simp) ?_
      refine lv_read_d (.bool true) 92 rfl (by kernel_rfl) rfl (by go_simp) ?_
      simp only [List.setIfInBounds_toArray, List.set_cons_succ, List.set_cons_zero]
      refine hx_read_d (.pointer (some ⟨k16, 0, none⟩)) 93 rfl (by kernel_rfl) rfl (fun ws hws => exec_move rfl rfl) ?_
      refine hx_call_d (.string S2) 94 23 #[.pointer (some ⟨k16, 0, none⟩), .int .i64 0] rfl (by kernel_rfl) rfl (fun ws => by go_simp) (fun ws hws => Hsc2.out ws hws) ?_
      simp only [List.setIfInBounds_toArray, List.set_cons_succ, List.set_cons_zero]
      obtain ⟨-, ⟨y0, y1, y2⟩, -⟩ := Hxf.out _ h18
      refine lv_read_d (.agg #[.int .i64 r2, .string k2, .string v2]) 95 rfl (by kernel_rfl) rfl (by go_simp) ?_
      clear y0 y1 y2
      refine lv_call_d 96 22 #[.agg #[.int .i64 r2, .string k2, .string v2]] rfl (by kernel_rfl) rfl (by go_simp) ?_
      refine (rowEncode_any W w17 _ r2 k2 v2 b1 b2 b3 h18).mono ?_
      rintro e w19 ⟨a19, c19, rfl, h19⟩
      rw [HE2.out] at h19
      refine ⟨_, rfl, h19.r, ?_⟩
      simp only [List.setIfInBounds_toArray, List.set_cons_succ, List.set_cons_zero]
      have e19 := Hcv.out _ _ _ h19.rd
      unfold str at e19
      rw [HS2.out] at e19
      refine lv_read_d (.string S2) 97 rfl (by kernel_rfl) rfl (by go_simp) ?_
      clear e19 h18
      have h20 := h19.r
      have c0 : w19.cell? ⟨k16, 1, none⟩ = some (.int .i64 1) := by
        rw [show (Value.int .i64 1) = .int .i64 (p2.tenant : Int) by rw [Ht2.out]; rfl]
        exact At.cell h20 rfl
      have hb := (Hxf.out _ h20).2.2
      clear h19 h20
      refine lv_read_d (.bool true) 98 rfl (by kernel_rfl) rfl (by go_simp) ?_
      refine lv_read_d (.bool true) 99 rfl (by kernel_rfl) rfl (by go_simp) ?_
      refine lv_read_d (.bool true) 100 rfl (by kernel_rfl) rfl (by go_simp) ?_
      simp only [List.setIfInBounds_toArray, List.set_cons_succ, List.set_cons_zero]
      refine lv_read_d (.pointer (some ⟨k16, 0, none⟩)) 101 rfl (by kernel_rfl) rfl (by go_simp) ?_
      refine lv_read_d (.pointer (some ⟨k16, 0, none⟩)) 102 rfl (by kernel_rfl) rfl (by go_simp) ?_
      refine lv_read_d (.pointer (some ⟨k16, 1, none⟩)) 103 rfl (by kernel_rfl) rfl (by go_simp) ?_
      refine lv_read_d (.int .i64 1) 104 rfl (by kernel_rfl) rfl (by go_simp) ?_
      simp only [List.setIfInBounds_toArray, List.set_cons_succ, List.set_cons_zero]
      refine lv_read_d (.bool true) 105 rfl (by kernel_rfl) rfl (by go_simp) ?_
      refine lv_read_d (.bool true) 106 rfl (by kernel_rfl) rfl (by go_simp) ?_
      refine lv_read_d (.bool true) 6 rfl (by kernel_rfl) rfl (by go_simp) ?_
      simp only [List.setIfInBounds_toArray, List.set_cons_succ, List.set_cons_zero]
      refine lv_end ?_
      go_wp2_with fail
      go_ret
      exact ⟨rfl, hb⟩
end Go.Proofs.Ytmlifjfgelfbbaa
