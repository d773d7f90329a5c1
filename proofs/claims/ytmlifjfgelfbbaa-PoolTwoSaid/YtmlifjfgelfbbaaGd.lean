/-
  row.Decode: a contract, no statement.
-/
import Derived.Test.YtmlifjfgelfbbaaRe
import Derived.Test.YtmlifjfgelfbbaaRt
import Derived.Test.YtmlifjfgelfbbaaPre
import Derived.Test.YtmlifjfgelfbbaaEE
import Derived.RegionTactic
import Derived.BigRegion
import Derived.Deep.OwnRows
import Derived.Deep.RegionHeld3
import Derived.Deep.RegionWith
import Derived.Deep.DeepCutAuto
namespace Go.Proofs.Ytmlifjfgelfbbaa
open Go Go.RowKit

theorem made_zs : madeCells #[Value.int .u8 0] 40 = (bys (zs 40)).toArray := by
  apply Array.ext'
  have h := made_flat #[Value.int .u8 0] 40 (by decide)
  rw [zeros_flat 40] at h
  exact h

set_option maxRecDepth 100000 in
set_option maxHeartbeats 4000000 in
theorem rowDecode_any (w0 w : World) (A : HP) (a : Option Addr) (c : Nat) (bs : List UInt8) (hm : bs.length = 40) (hA : RdIn w0 A (.slice a 40 c) bs) (h : At w0 A w) :
    Calls Try.prog 42 #[.slice a 40 c] w fun e w' => ∃ (t : Nat) (k s : List UInt8), e = .returned (.tuple #[.agg #[.int .i64 t, str k, str s], .int .i64 (rowSt bs)]) ∧ (rowSt bs = 0 → t = rowT bs ∧ k = rowK bs ∧ s = rowV bs) ∧ At w0 A w' := by
  obtain ⟨g, o, rfl, hc⟩ := (hA w h).get (by decide)
  obtain ⟨RB, hRB⟩ : ∃ N, w.heap.size = N := ⟨_, rfl⟩
  have h1 := h.alloc' hRB (.cells #[.int .i64 0, .string ⟨#[]⟩, .string ⟨#[]⟩] 57)
  have HA := hide hA
  clear hA
  have hmk : ∀ ws, (Instr.makeSlice 32 (.int .i64 40) (.int .i64 40)).run Try.prog ws = .ok (.slice (some ⟨ws.heap.size, 0, none⟩) 40 40) (ws.alloc (.cells (bys (zs 40)).toArray 5)) := fun ws => by
    have hr := run_make_row' (P := Try.prog) 32 5 (.int .u8 0) 1 Try.underlying32 Try.info8 rfl .i64 .i64 40 (by decide) (by decide) ws
    rw [made_zs] at hr
    exact hr
  go_enter Try.func42, Try.ntmps42
  go_upto_region 3 with fail
  generalize hw1 : w.alloc _ = w1 at h1 ⊢
  clear hw1 hRB h
  have hcv := fun ws (h : Rd ws _ _) => run_txt (P := Try.prog) 32 5 9 Try.underlying32 Try.underlying5 Try.underlying9 (w := ws) (l := bs) (v := .slice (some ⟨g, o, none⟩) 40 c) h
  have hcz := fun ws (h : Rd ws _ _) => run_txt (P := Try.prog) 32 5 9 Try.underlying32 Try.underlying5 Try.underlying9 (w := ws) (l := zs 40) (v := .slice (some ⟨w1.heap.size, 0, none⟩) 40 40) h
  have e1 := hcv w1.drew (HA.out _ h1.drew.r)
  have e2 := hcv (w1.alloc (.cells (bys (zs 40)).toArray 5)).drew (HA.out _ (h1.alloc _).drew.r.r)
  have e3 := hcz (w1.alloc (.cells (bys (zs 40)).toArray 5)).drew (Rd.new w1.drew (bys (zs 40)) 5 rfl rfl)
  clear hcv hcz
  generalize (bys (zs 40)).toArray = zc at *
  unfold str at e1 e2 e3
  obtain ⟨Bs, hBs⟩ : ∃ x : ByteArray, ⟨bs.toArray⟩ = x := ⟨_, rfl⟩
  obtain ⟨Zs, hZs⟩ : ∃ x : ByteArray, ⟨(zs 40).toArray⟩ = x := ⟨_, rfl⟩
  rw [hBs] at e1 e2
  rw [hZs] at e3
  by_cases hz : bs = zs 40
  · obtain rfl : Bs = Zs := by rw [← hBs, ← hZs, hz]
    clear hBs hZs
    go_region
    have h2 := (h1.alloc (.cells zc 5)).drew.pull2
    generalize hw2 : (w1.alloc _).drew = w2 at h2 ⊢
    clear hw2 e1 e2 e3 h1
    have v0 := At.cell (i := 0) h2 rfl
    have f0 := At.frz h2 0
    have v1 := At.cell (i := 1) h2 rfl
    have f1 := At.frz h2 1
    have v2 := At.cell (i := 2) h2 rfl
    have f2 := At.frz h2 2
    have fl := At.lt h2
    go_wp2_with fail
    have hz2 := (((h2.set' (d := #[.int .i64 0, .string ⟨#[]⟩, .string ⟨#[]⟩]) 0 (.int .i64 0) rfl).set' (d := #[.int .i64 0, .string ⟨#[]⟩, .string ⟨#[]⟩]) 1 (.string ⟨#[]⟩) rfl).set' (d := #[.int .i64 0, .string ⟨#[]⟩, .string ⟨#[]⟩]) 2 (.string ⟨#[]⟩) rfl)
    have r0 := At.cell (i := 0) hz2 rfl
    have r1 := At.cell (i := 1) hz2 rfl
    have r2 := At.cell (i := 2) hz2 rfl
    refine bodyPost_ret (v := .tuple #[.agg #[.int .i64 0, .string ⟨#[]⟩, .string ⟨#[]⟩], .int .i64 5]) (by simp [results, Try.results42, go_sem, r0, r1, r2]) rfl ?_
    have hst : rowSt bs = 5 := if_pos hz
    exact ⟨0, [], [], by rw [hst]; rfl, (fun hh => by rw [hst] at hh; cases hh), hz2.r.r⟩
  · have hbz : (Bs.toList == Zs.toList) = false := by rw [← hBs, ← hZs, ByteArray.toList_mk, ByteArray.toList_mk]; simpa using hz
    have HBs := hide hBs
    clear hBs hZs
    go_region
    have h2 := (h1.alloc (.cells zc 5)).drew.pull2
    generalize hw2 : (w1.alloc _).drew = w2 at h2 ⊢
    clear hw2 e1 e2 e3 h1 hmk
    have rd0 := HA.out _ h2.r.r
    have ce := fun (j : Nat) (u : UInt8) (hu : bs[j]? = some u) => (rd0.get (by decide))
    obtain ⟨gx, ox, hx, hcx⟩ := rd0.get (by decide)
    obtain ⟨rfl, rfl⟩ : gx = g ∧ ox = o := by cases hx; exact ⟨rfl, rfl⟩
    clear hc ce hx
    have hb : ∀ j, j < 40 → w2.cell? ⟨gx, ox + j, none⟩ = some (.int .u8 ((bs.getD j 0).toNat : Int)) := fun j hj => hcx j _ (by
      have hj2 : j < bs.length := by omega
      rw [bys, List.getElem?_map, List.getElem?_eq_getElem hj2, List.getD_eq_getElem?_getD, List.getElem?_eq_getElem hj2]
      rfl)
    have b1 := hb 1 (by decide)
    have b2 := hb 2 (by decide)
    have b18 := hb 18 (by decide)
    obtain ⟨x1, hx1⟩ : ∃ x, (bs.getD 1 0).toNat = x := ⟨_, rfl⟩
    obtain ⟨x2, hx2⟩ : ∃ x, (bs.getD 2 0).toNat = x := ⟨_, rfl⟩
    obtain ⟨x18, hx18⟩ : ∃ x, (bs.getD 18 0).toNat = x := ⟨_, rfl⟩
    have z1 : x1 < 256 := by rw [← hx1]; exact UInt8.toNat_lt _
    have z2 : x2 < 256 := by rw [← hx2]; exact UInt8.toNat_lt _
    have z18 : x18 < 256 := by rw [← hx18]; exact UInt8.toNat_lt _
    rw [hx1] at b1
    rw [hx2] at b2
    rw [hx18] at b18
    have H1 := hide hx1
    have H2 := hide hx2
    have H18 := hide hx18
    have Hcx := hide hcx
    clear hx1 hx2 hx18 hb hcx
    have hcc : 40 ≤ c := rd0.len.2
    clear rd0
    go_upto_region 5 with fail
    clear hbz
    go_region
    rw [show (if (15 : Int) < (x2 : Int) then (15 : Int) else (x2 : Int)) = ((min x2 15 : Nat) : Int) by split <;> omega, show (if (21 : Int) < (x18 : Int) then (21 : Int) else (x18 : Int)) = ((min x18 21 : Nat) : Int) by split <;> omega]
    obtain ⟨k, hk⟩ : ∃ k, min x2 15 = k := ⟨_, rfl⟩
    obtain ⟨s, hs⟩ : ∃ k, min x18 21 = k := ⟨_, rfl⟩
    rw [hk, hs]
    have kl : k ≤ 15 := by omega
    have sl : s ≤ 21 := by omega
    have Hk := hide hk
    have Hs := hide hs
    clear hk hs
    have h3 := h2.drew
    generalize hw3 : w2.drew = w3 at h3 ⊢
    have b1' : w3.cell? ⟨gx, ox + 1, none⟩ = some (.int .u8 x1) := by rw [← hw3]; exact b1
    clear hw3 b1 b2 b18 h2
    have rdk : ∀ ws, At w0 A ws → Rd ws (.slice (some ⟨gx, ox + 3, none⟩) k (c - 3)) (bys ((bs.drop 3).take k)) := fun ws hws => by
      obtain ⟨gy, oy, hy, hcy⟩ := (HA.out ws hws).get (by decide)
      cases hy
      have hl : (bys ((bs.drop 3).take k)).length = k := by rw [bys_len, List.length_take, List.length_drop]; omega
      exact .inr ⟨gx, ox + 3, c - 3, by rw [hl], by omega, fun j u hu => by
        rw [← bys_take, ← bys_drop, List.getElem?_take] at hu
        split at hu
        · rw [List.getElem?_drop] at hu
          rw [Nat.add_assoc]
          exact hcy _ _ hu
        · cases hu⟩
    have rds : ∀ ws, At w0 A ws → Rd ws (.slice (some ⟨gx, ox + 19, none⟩) s (c - 19)) (bys ((bs.drop 19).take s)) := fun ws hws => by
      obtain ⟨gy, oy, hy, hcy⟩ := (HA.out ws hws).get (by decide)
      cases hy
      have hl : (bys ((bs.drop 19).take s)).length = s := by rw [bys_len, List.length_take, List.length_drop]; omega
      exact .inr ⟨gx, ox + 19, c - 19, by rw [hl], by omega, fun j u hu => by
        rw [← bys_take, ← bys_drop, List.getElem?_take] at hu
        split at hu
        · rw [List.getElem?_drop] at hu
          rw [Nat.add_assoc]
          exact hcy _ _ hu
        · cases hu⟩
    obtain ⟨K, hK⟩ : ∃ l, (bs.drop 3).take k = l := ⟨_, rfl⟩
    obtain ⟨S, hS⟩ : ∃ l, (bs.drop 19).take s = l := ⟨_, rfl⟩
    rw [hK] at rdk
    rw [hS] at rds
    have hcv := fun l v ws (h : Rd ws v _) => run_txt (P := Try.prog) 32 5 9 Try.underlying32 Try.underlying5 Try.underlying9 (w := ws) (l := l) (v := v) h
    have h4 := h3.alloc (.cells #[.int .i64 0, .string ⟨#[]⟩, .string ⟨#[]⟩] 57)
    have e1 := hcv K _ w3.drew (rdk _ h3.drew.r.r)
    have e2 := hcv K _ (w3.alloc (.cells #[.int .i64 0, .string ⟨#[]⟩, .string ⟨#[]⟩] 57)).drew (rdk _ h4.drew.r.r.r)
    have e3 := hcv S _ w3.drew (rds _ h3.drew.r.r)
    have e4 := hcv S _ (w3.alloc (.cells #[.int .i64 0, .string ⟨#[]⟩, .string ⟨#[]⟩] 57)).drew (rds _ h4.drew.r.r.r)
    clear hcv rdk rds
    unfold str at e1 e2 e3 e4
    obtain ⟨Kb, hKb⟩ : ∃ x : ByteArray, ⟨K.toArray⟩ = x := ⟨_, rfl⟩
    obtain ⟨Sb, hSb⟩ : ∃ x : ByteArray, ⟨S.toArray⟩ = x := ⟨_, rfl⟩
    rw [hKb] at e1 e2
    rw [hSb] at e3 e4
    have HK := hide hK
    have HS := hide hS
    have HKb := hide hKb
    have HSb := hide hSb
    clear hK hS hKb hSb
    have b1'' : (w3.alloc (.cells #[.int .i64 0, .string ⟨#[]⟩, .string ⟨#[]⟩] 57)).cell? ⟨gx, ox + 1, none⟩ = some (.int .u8 x1) := by
      obtain ⟨gy, oy, hy, hcy⟩ := (HA.out _ h4.r.r.r).get (by decide)
      cases hy
      refine hcy 1 _ ?_
      have hj2 : 1 < bs.length := by omega
      rw [bys, List.getElem?_map, List.getElem?_eq_getElem hj2]
      have := H1.out
      rw [List.getD_eq_getElem?_getD, List.getElem?_eq_getElem hj2] at this
      rw [← this]
      rfl
    have g1 := IntWalk.i64_in (3 + (k : Int)) (by omega)
    have g2 := IntWalk.i64_in (19 + (s : Int)) (by omega)
    obtain ⟨X, hX⟩ : ∃ N, w3.heap.size = N := ⟨_, rfl⟩
    have h5 := (h3.alloc' hX (.cells #[.int .i64 x1, .string Kb, .string Sb] 57)).drew
    go_upto_region 7 with fail
    go_cut [7] (fun u7 wd => u7 = .pointer (some ⟨X, 0, none⟩) ∧ At w0 (cel X #[.int .i64 x1, .string Kb, .string Sb] 57 * (cel RB #[.int .i64 0, .string ⟨#[]⟩, .string ⟨#[]⟩] 57 * (pt w1.heap.size (.cells zc 5) * A))) wd)
    case first =>
      go_region
      all_goals
        go_wp2_with fail
        go_meet
        exact ⟨rfl, h5⟩
    case rest =>
      obtain ⟨rfl, h5⟩ := hcut
      clear e1 e2 e3 e4 g1 g2 b1' b1'' h3 h4 hX
      have hkz : Kb.size = k := by
        rw [← HKb.out, ← HK.out]
        show ((bs.drop 3).take k).toArray.size = k
        rw [List.size_toArray, List.length_take, List.length_drop]; omega
      have hsz : Sb.size = s := by
        rw [← HSb.out, ← HS.out]
        show ((bs.drop 19).take s).toArray.size = s
        rw [List.size_toArray, List.length_take, List.length_drop]; omega
      have hrt : rightR (x1 : Int) Kb Sb = decide (x1 < 4) := by
        unfold rightR
        rw [decide_eq_decide]
        omega
      have t1 := rowRight_any w0 _ _ x1 Kb Sb h5.drew
      rw [hrt] at t1
      have cv := fun l v ws (h : Rd ws v (bys l)) => run_txt (P := Try.prog) 32 5 9 Try.underlying32 Try.underlying5 Try.underlying9 (w := ws) (l := l) (v := v) h
      have cb : ∀ ws, At w0 A ws → (convert 32 9 (.slice (some ⟨gx, ox, none⟩) 40 c)).run Try.prog ws = .ok (.string Bs) ws := fun ws hws => by
        have := cv bs _ ws (HA.out ws hws)
        unfold str at this
        rw [HBs.out] at this
        exact this
      by_cases h4 : x1 < 4
      · rw [decide_eq_true h4] at t1
        clear hrt
        have Hcv := hide cv
        have Hcb := hide cb
        obtain ⟨Eb, hEb⟩ : ∃ x : ByteArray, ⟨(rowEnc x1 Kb.data.toList Sb.data.toList).toArray⟩ = x := ⟨_, rfl⟩
        have HEb := hide hEb
        clear cv cb hEb
        go_upto_region 8 with fail
        refine wp_region_pre [0, 1, 2, 3] [7, 8] [4, 5, 6] [9, 10] (fun ws => At w0 A ws) rfl (by kernel_rfl) h5.drew.r.r.r ?_
        have x0 := At.cell (i := 0) h5.drew rfl
        have x1' := At.cell (i := 1) h5.drew rfl
        have x2' := At.cell (i := 2) h5.drew rfl
        refine lv_read (.agg #[.int .i64 x1, .string Kb, .string Sb]) rfl (by kernel_rfl) (by go_simp) ?_
        clear x0 x1' x2'
        refine lv_call 20 #[.agg #[.int .i64 x1, .string Kb, .string Sb]] rfl (by kernel_rfl) (by go_simp) ?_
        refine t1.mono ?_
        rintro e w5 ⟨rfl, h6⟩
        refine ⟨_, rfl, h6.r.r.r, ?_⟩
        refine lv_read (.bool false) rfl (by kernel_rfl) (by go_simp) ?_
        refine lv_read (.bool false) rfl (by kernel_rfl) (by go_simp) ?_
        refine hw_read (.slice (some ⟨gx, ox, none⟩) 40 c) rfl (by kernel_rfl) (fun ws hws => exec_move rfl rfl) ?_
        refine hw_read (.string Bs) rfl (by kernel_rfl) (fun ws hws => by
          have := Hcb.out ws hws
          go_simp) ?_
        have x0 := At.cell (i := 0) h6 rfl
        have x1' := At.cell (i := 1) h6 rfl
        have x2' := At.cell (i := 2) h6 rfl
        refine lv_read (.agg #[.int .i64 x1, .string Kb, .string Sb]) rfl (by kernel_rfl) (by go_simp) ?_
        clear x0 x1' x2'
        refine lv_call 22 #[.agg #[.int .i64 x1, .string Kb, .string Sb]] rfl (by kernel_rfl) (by go_simp) ?_
        refine (rowEncode_any w0 w5 _ x1 Kb Sb h4 (by omega) (by omega) h6).mono ?_
        rintro e w6 ⟨a6, c6, rfl, h7⟩
        refine ⟨_, rfl, h7.r.r.r.r, ?_⟩
        have e7 := Hcv.out _ _ _ h7.rd
        unfold str at e7
        rw [HEb.out] at e7
        refine lv_read (.string Eb) rfl (by kernel_rfl) (by go_simp) ?_
        show wpList _ _ _ _ _ _
        simp only [picks_cons, picks_nil, getD_zero, getD_succ, Act.put, List.setIfInBounds_toArray]
        clear e7
        go_wp2_with fail
        try dsimp only [Strict]
        have hT : rowT bs = x1 := H1.out
        have hK2 : rowK bs = K := by unfold rowK; rw [H2.out, Hk.out, HK.out]
        have hV2 : rowV bs = S := by unfold rowV; rw [H18.out, Hs.out, HS.out]
        have hEq : rowEnc x1 Kb.data.toList Sb.data.toList = rowEnc x1 K S := by rw [← HKb.out, ← HSb.out]
        have hEl : Eb.toList = rowEnc x1 K S := by rw [← HEb.out, ByteArray.toList_mk, hEq]
        have hBl : Bs.toList = bs := by rw [← HBs.out, ByteArray.toList_mk]
        have hx := h7.pull2
        have h8 := h7.pull3
        have HT := hide hT
        have HK2 := hide hK2
        have HV2 := hide hV2
        have HEl := hide hEl
        have HBl := hide hBl
        clear hT hK2 hV2 hEq hEl hBl t1 h5 h6 h7
        cases hq : (Eb.toList == Bs.toList) with
        | false =>
          have hno : ¬ (rowT bs < 4 ∧ rowEnc (rowT bs) (rowK bs) (rowV bs) = bs) := by
            rintro ⟨_, hh⟩
            rw [HT.out, HK2.out, HV2.out, ← HEl.out] at hh
            rw [hh, HBl.out] at hq
            simp at hq
          have v0 := At.cell (i := 0) h8 rfl
          have f0 := At.frz h8 0
          have v1 := At.cell (i := 1) h8 rfl
          have f1 := At.frz h8 1
          have v2 := At.cell (i := 2) h8 rfl
          have f2 := At.frz h8 2
          have fl := At.lt h8
          go_wp2_with fail
          have hz2 := (((h8).set' (d := #[.int .i64 0, .string ⟨#[]⟩, .string ⟨#[]⟩]) 0 (.int .i64 0) rfl).set' (d := #[.int .i64 0, .string ⟨#[]⟩, .string ⟨#[]⟩]) 1 (.string ⟨#[]⟩) rfl).set' (d := #[.int .i64 0, .string ⟨#[]⟩, .string ⟨#[]⟩]) 2 (.string ⟨#[]⟩) rfl
          have r0 := At.cell (i := 0) hz2 rfl
          have r1 := At.cell (i := 1) hz2 rfl
          have r2 := At.cell (i := 2) hz2 rfl
          refine bodyPost_ret (v := .tuple #[.agg #[.int .i64 0, .string ⟨#[]⟩, .string ⟨#[]⟩], .int .i64 9]) (by simp [results, Try.results42, go_sem, r0, r1, r2]) rfl ?_
          have hst : rowSt bs = 9 := by
            unfold rowSt
            rw [if_neg hz, if_neg hno]
          exact ⟨0, [], [], by rw [hst]; rfl, (fun hh => by rw [hst] at hh; cases hh), hz2.r.r.r.r⟩
        | true =>
          have hyes : rowT bs < 4 ∧ rowEnc (rowT bs) (rowK bs) (rowV bs) = bs := by
            rw [HT.out, HK2.out, HV2.out, ← HEl.out]
            rw [HBl.out] at hq
            exact ⟨h4, by simpa using hq⟩
          have g0 := At.cell (i := 0) hx rfl
          have g1 := At.cell (i := 1) hx rfl
          have g2 := At.cell (i := 2) hx rfl
          have v0 := At.cell (i := 0) h8 rfl
          have f0 := At.frz h8 0
          have v1 := At.cell (i := 1) h8 rfl
          have f1 := At.frz h8 1
          have v2 := At.cell (i := 2) h8 rfl
          have f2 := At.frz h8 2
          have fl := At.lt h8
          go_wp2_with fail
          have hz2 := (((h8).set' (d := #[.int .i64 x1, .string ⟨#[]⟩, .string ⟨#[]⟩]) 0 (.int .i64 x1) rfl).set' (d := #[.int .i64 x1, .string Kb, .string ⟨#[]⟩]) 1 (.string Kb) rfl).set' (d := #[.int .i64 x1, .string Kb, .string Sb]) 2 (.string Sb) rfl
          have r0 := At.cell (i := 0) hz2 rfl
          have r1 := At.cell (i := 1) hz2 rfl
          have r2 := At.cell (i := 2) hz2 rfl
          refine bodyPost_ret (v := .tuple #[.agg #[.int .i64 x1, .string Kb, .string Sb], .int .i64 0]) (by simp [results, Try.results42, go_sem, r0, r1, r2]) rfl ?_
          have hst : rowSt bs = 0 := by
            unfold rowSt
            rw [if_neg hz, if_pos hyes]
          exact ⟨x1, K, S, by rw [hst]; unfold str; rw [HKb.out, HSb.out]; rfl, (fun _ => ⟨HT.out.symm, HK2.out.symm, HV2.out.symm⟩), hz2.r.r.r.r⟩
      · have hrt2 : rightR (x1 : Int) Kb Sb = false := by rw [hrt]; exact decide_eq_false h4
        rw [decide_eq_false h4] at t1
        have hT : rowT bs = x1 := H1.out
        have hno : ¬ (rowT bs < 4 ∧ rowEnc (rowT bs) (rowK bs) (rowV bs) = bs) := by
          rintro ⟨hh, _⟩
          rw [hT] at hh
          exact h4 hh
        have HT := hide hT
        clear hT cv cb
        obtain ⟨Z, hZ⟩ : ∃ Z : HP, Z = (cel RB #[.int .i64 0, .string ⟨#[]⟩, .string ⟨#[]⟩] 57 * (pt w1.heap.size (.cells zc 5) * A)) := ⟨_, rfl⟩
        have h6 : At w0 (cel X #[.int .i64 x1, .string Kb, .string Sb] 57 * Z) wc := by rw [hZ]; exact h5
        have t2 := fun w' h' => (rowRight_any w0 w' (cel X #[.int .i64 x1, .string Kb, .string Sb] 57 * Z) x1 Kb Sb h')
        rw [hrt2] at t2
        have HZ := hide hZ
        clear hZ hrt hrt2 h5 t1
        go_upto_region 8 with fail
        refine wp_region_held_line 11 [] (fun w' => At w0 (cel X #[.int .i64 x1, .string Kb, .string Sb] 57 * Z) w') rfl (by kernel_rfl) h6.drew ?_
        simp only [List.take_succ_cons, List.take_zero]
        refine held_read (.agg #[.int .i64 x1, .string Kb, .string Sb]) rfl (fun w' hw => ?_) ?_
        · have q0 := At.cell (i := 0) hw rfl
          have q1 := At.cell (i := 1) hw rfl
          have q2 := At.cell (i := 2) hw rfl
          go_simp
        refine held_call (.bool false) 20 #[.agg #[.int .i64 x1, .string Kb, .string Sb]] rfl (fun w' => by go_simp) (fun w' hw => t2 w' hw) ?_
        refine held_read (.bool true) rfl (fun w' hw => by go_simp) ?_
        refine held_read (.bool true) rfl (fun w' hw => by go_simp) ?_
        refine ⟨undef, .inr ⟨by kernel_rfl, rfl⟩, ?_⟩
        refine ⟨undef, .inr ⟨by kernel_rfl, rfl⟩, ?_⟩
        refine ⟨undef, .inr ⟨by kernel_rfl, rfl⟩, ?_⟩
        refine ⟨undef, .inr ⟨by kernel_rfl, rfl⟩, ?_⟩
        refine ⟨undef, .inr ⟨by kernel_rfl, rfl⟩, ?_⟩
        refine ⟨undef, .inr ⟨by kernel_rfl, rfl⟩, ?_⟩
        refine held_read (.bool true) (by kernel_rfl) (fun w' hw => ?_) ?_
        · go_simp
        refine held_skip ?_
        intro w5 h7
        rw [HZ.out] at h7
        simp only [picks_nil]
        refine ⟨by kernel_rfl, ?_⟩
        have h8 := h7.pull2
        clear t2 h6 h7
        have v0 := At.cell (i := 0) h8 rfl
        have f0 := At.frz h8 0
        have v1 := At.cell (i := 1) h8 rfl
        have f1 := At.frz h8 1
        have v2 := At.cell (i := 2) h8 rfl
        have f2 := At.frz h8 2
        have fl := At.lt h8
        simp only [Act.put, List.setIfInBounds_toArray, List.set_cons_succ, List.set_cons_zero]
        go_wp2_with fail
        have hz2 := (((h8).set' (d := #[.int .i64 0, .string ⟨#[]⟩, .string ⟨#[]⟩]) 0 (.int .i64 0) rfl).set' (d := #[.int .i64 0, .string ⟨#[]⟩, .string ⟨#[]⟩]) 1 (.string ⟨#[]⟩) rfl).set' (d := #[.int .i64 0, .string ⟨#[]⟩, .string ⟨#[]⟩]) 2 (.string ⟨#[]⟩) rfl
        have r0 := At.cell (i := 0) hz2 rfl
        have r1 := At.cell (i := 1) hz2 rfl
        have r2 := At.cell (i := 2) hz2 rfl
        refine bodyPost_ret (v := .tuple #[.agg #[.int .i64 0, .string ⟨#[]⟩, .string ⟨#[]⟩], .int .i64 9]) (by simp [results, Try.results42, go_sem, r0, r1, r2]) rfl ?_
        have hst : rowSt bs = 9 := by
          unfold rowSt
          rw [if_neg hz, if_neg hno]
        exact ⟨0, [], [], by rw [hst]; rfl, (fun hh => by rw [hst] at hh; cases hh), hz2.r.r.r⟩
end Go.Proofs.Ytmlifjfgelfbbaa
