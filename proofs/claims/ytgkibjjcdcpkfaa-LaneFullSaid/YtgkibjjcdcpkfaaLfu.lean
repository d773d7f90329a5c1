/-
  LaneFull: the law's walk: whatever comes in, it returns true. A contract, no statement.
-/
import Derived.Test.YtgkibjjcdcpkfaaRw
namespace Go.Proofs.Ytgkibjjcdcpkfaa
open Go Go.RowKit

theorem encR_rep (x : Rec) (j : Nat) : (encR (recCheck :: List.replicate j x)).length = 11 + j * x.enc.length := by
  rw [encR_cons, List.length_append, show recCheck.enc.length = 11 from enc11]
  congr 1
  induction j with
  | zero => simp [encR]
  | succ j ih => rw [List.replicate_succ, encR_cons, List.length_append, ih, Nat.add_mul]; omega
theorem rep_snoc {α : Type} (x : α) (j : Nat) : List.replicate j x ++ [x] = List.replicate (j + 1) x := by rw [List.replicate_succ']

set_option maxRecDepth 100000 in
set_option maxHeartbeats 16000000 in
theorem full_walk (W : World) (s : SdV) (hs : s.In W (old W * 1)) :
    Calls Try.prog 6 #[.agg s.cs.toArray] W fun e W' => e = .returned (.bool true) ∧ Below W.heap.size W W' := by
  obtain ⟨B, hB⟩ : ∃ B, W.heap.size = B := ⟨_, rfl⟩
  have h0 := (At.startR W).alloc' hB (.cells s.cs.toArray 56)
  have hfit := lawFit_any W _ _ h0
  have c7 : (W.alloc (.cells s.cs.toArray 56)).cell? ⟨B, 7, none⟩ = some (.slice s.2.1 s.1.dirty.length s.2.2) := At.cell h0 rfl
  obtain ⟨ys, hys⟩ : ∃ ys, s.cs = ys := ⟨_, rfl⟩
  have hyl : ys.length = 8 := by rw [← hys]; rfl
  rw [hys] at h0 hfit c7 ⊢
  have Hys := hide hys
  have Hyl := hide hyl
  clear c7 hys hyl
  go_enter Try.func6, Try.ntmps6
  go_upto_region 1 with fail
  clear hB
  generalize hW0 : W.alloc (.cells ys.toArray 56) = w0 at *
  clear hW0
  go_wp2_with fail
  refine hfit.mono ?_
  rintro e w1 ⟨rfl, h1⟩
  clear hfit h0
  have c7 : w1.cell? ⟨B, 7, none⟩ = some (.slice s.2.1 s.1.dirty.length s.2.2) := At.cell h1 (by rw [← Hys.out]; rfl)
  have hnew := diskNew_any W w1 _ 1 538 (by decide) (by decide) (by decide) (by decide) h1
  change Calls _ _ #[.int .i64 1, .int .i64 538] _ _ at hnew
  have hbel := h1.r.below
  obtain ⟨dl, hdl⟩ : ∃ dl, s.1.dirty.length = dl := ⟨_, rfl⟩
  rw [hdl] at c7
  by_cases hbig : 100 < dl
  · have hbz : 100 < (dl : Int) := by omega
    clear hbig
    go_wp2_with fail
    go_ret
    exact ⟨rfl, hbel⟩
  have hbz : ¬ (100 < (dl : Int)) := by omega
  have Hdl := hide hdl
  clear h1 hbig hbel hdl
  go_wp2_with fail
  refine hnew.mono ?_
  rintro e w2 ⟨D, rfl, h2⟩
  clear hnew c7
  have hN := Dk.new_at 1 538 0 (by decide)
  have hln := laneNew_st W w2 _ D 0 (Dk.new 1 538) (Dk.new_wf (by decide) (by decide) (by decide)) (by decide) (by decide) hN.1 hN.2 (by decide) h2
  change Calls _ _ #[_, .int .i64 0] _ _ at hln
  have hn2 : (Dk.new 1 538).writes = 0 := rfl
  rw [hn2] at hln
  generalize Dk.new 1 538 = m0 at *
  clear h2 hN hn2
  go_wp2_with fail
  refine hln.mono ?_
  rintro e w3 ⟨P, L, m1, rfl, hst, hg, hb, hsame, hun, hwr, h3⟩
  clear hln hsame hbz
  have Hst := hide hst
  -- the record
  have hrc := seedRec_v W w3 _ s ⟨hs.1, fun h0 w' h' => hs.2 h0 w' h'.r.r.r⟩ (by rw [Hdl.out]; omega) h3
  rw [Hys.out] at hrc
  have hgood := Sd.good hs.1
  have hrl := Sd.rcd_len (s := s.1)
  obtain ⟨x, hx⟩ : ∃ x, s.1.rcd = x := ⟨_, rfl⟩
  rw [hx] at hrc hgood hrl
  have Hgood := hide hgood
  clear hst hx hgood
  change Calls _ _ _ _ (fun e w' => ∃ a1 c1, e = .returned (.agg #[.int .i64 x.kind, .int .i64 x.txn, .int .i64 x.page, .int .i64 x.slot, .string x.before, .string x.after, .string x.image, .slice a1 x.dirty.length c1]) ∧ At W (row 33 1 (.slice a1 x.dirty.length c1) x.dirty.length (nus x.dirty) * (lan P D 0 L * (dsk D m1 * (cel B ys.toArray 56 * (old W * 1))))) w') at hrc
  obtain ⟨n, hn⟩ : ∃ n, x.enc.length = n := ⟨_, rfl⟩
  have hn0 : 11 ≤ n := by rw [← hn]; exact x.enc_pos
  have hn1 : n ≤ 395 := by rw [← hn]; exact Rec.enc_le Hgood.out
  have Hn := hide hn
  clear hn
  go_upto_region 7 with fail
  refine wp_region_lit ?_
  refine wpList_load_agg rfl (.tmp 1) 56 rfl _ Try.underlying56 rfl (ys := ys) (by rw [Hyl.out]; kernel_rfl) (g := B) (off := 0) (by go_simp) (fun j u hu => by rw [Nat.zero_add]; exact At.cell h3.pull3 (by simpa using hu)) ?_
  go_wp2_with fail
  refine hrc.mono ?_
  rintro e w4 ⟨a4, c4, rfl, h4⟩
  clear hrc h3
  obtain ⟨X, hX⟩ : ∃ X, w4.heap.size = X := ⟨_, rfl⟩
  have h5 := h4.alloc' hX (.cells #[.int .i64 x.kind, .int .i64 x.txn, .int .i64 x.page, .int .i64 x.slot, .string x.before, .string x.after, .string x.image, .slice a4 x.dirty.length c4] 44)
  clear h4
  go_upto_region 8 with fail
  try rw [hX]
  generalize hW : w4.alloc _ = w5 at h5 ⊢
  clear hX hW
  obtain ⟨xs, hxs⟩ : ∃ xs, RecV.cs (x, a4, c4) = xs := ⟨_, rfl⟩
  have hxl : xs.length = 8 := by rw [← hxs]; rfl
  have hxo : xs.toArray.all (·.oneCell') = true := by rw [← hxs]; exact RecV.one _
  change At W (cel X (RecV.cs (x, a4, c4)).toArray 44 * _) w5 at h5
  rw [hxs] at h5
  -- what stays: the record, its numbers, the rest
  obtain ⟨F, hF⟩ : ∃ F, cel X xs.toArray 44 * (row 33 1 (.slice a4 x.dirty.length c4) x.dirty.length (nus x.dirty) * (cel B ys.toArray 56 * (old W * 1))) = F := ⟨_, rfl⟩
  have hFX : ∀ w', At W F w' → ∀ j u, xs[j]? = some u → w'.cell? ⟨X, j, none⟩ = some u := fun w' h' j u hu => by
    rw [← hF] at h'
    exact At.cell h' (by simpa using hu)
  have hFD : ∀ w', At W F w' → Rd w' (.slice a4 x.dirty.length c4) (nus x.dirty) := fun w' h' => by
    rw [← hF] at h'
    exact h'.r.rd
  have hFW : ∀ w', At W F w' → Below W.heap.size W w' := fun w' h' => by
    rw [← hF] at h'
    exact h'.r.r.r.below
  have h6 : At W (lan P D 0 L * (dsk D m1 * F)) w5 := h5.cast (by rw [← hF]; ac_rfl)
  have HFX := hide hFX
  have HFD := hide hFD
  have HFW := hide hFW
  have Hxs := hide hxs
  have Hxl := hide hxl
  have Hxo := hide hxo
  clear h5 hF hFX hFD hFW hxs hxl hxo
  obtain ⟨i2, z2, hi2, hy0, hy1, hy2, hy3⟩ := info_wr Try.infoRec
  obtain ⟨N8, hN8⟩ : ∃ N8, w5.heap.size = N8 := ⟨_, rfl⟩
  have h7 := h6.alloc' hN8 (.cells xs.toArray 44)
  have hsz := lawSize_any W (w5.alloc (.cells xs.toArray 44)) _ (some ⟨N8, 0, none⟩) 1 [(x, a4, c4)] (by simp) (fun y hy => by rw [List.mem_singleton.1 hy]; exact Hgood.out) (by
    have := recs_one (w0 := W) (R := lan P D 0 L * (dsk D m1 * F)) (N := N8) (x, a4, c4) 44 (fun w' h' => HFD.out w' h'.r.r) Hgood.out.nums
    rw [Hxs.out] at this
    exact this) h7
  have hes : (encs [(x, a4, c4)]).length = n := by
    rw [← Hn.out]
    simp [encs]
  rw [hes] at hsz
  change Calls _ _ #[.slice (some ⟨N8, 0, none⟩) 1 1] _ _ at hsz
  refine wp_region_lit ?_
  refine wpList_load_agg rfl (.tmp 6) 44 rfl _ Try.underlying44 rfl (ys := xs) (by rw [Hxl.out]; kernel_rfl) (g := X) (off := 0) (by go_simp) (fun j u hu => by rw [Nat.zero_add]; exact HFX.out w5 h6.r.r j u hu) ?_
  refine wpList_buildSlice1 rfl 62 44 (.tmp 29) rfl i2 z2 (ys := xs) Try.underlying62 hi2 hy0 (by rw [hy2]; exact Hxl.out) (by omega) (by omega) (by go_simp) ?_
  try rw [hN8]
  go_wp2_with fail
  refine hsz.mono ?_
  rintro e w6 ⟨rfl, h8⟩
  have h9 := h8.r
  clear hsz hes hN8 h6 h7 h8 hi2
  go_wp2_with fail
  go_loopw [] (fun wr => ∃ (j : Nat) (L : Ln), 11 + j * n ≤ 14336 ∧ Hid (LSt m1 0 L (recCheck :: List.replicate j x) 1) ∧ L.gen = 1 ∧ At W (lan P D 0 L * (dsk D m1 * F)) wr) (fun wr => 14336 - (match wr.cell? ⟨P, 4, none⟩ with
    | some (.slice _ k _) => k
    | _ => 0))
  case atStart => exact ⟨0, L, by omega, Hst, hg, h9⟩
  case round =>
    obtain ⟨j, L2, hj, Hst2, hgen4, h10⟩ := hrel
    clear h9 Hst
    obtain ⟨q, hq⟩ : ∃ q, 11 + j * n = q := ⟨_, rfl⟩
    have hql : (encR (recCheck :: List.replicate j x)).length = q := by rw [encR_rep, Hn.out, hq]
    obtain ⟨hL2, ab, cb, h11⟩ := h10.lan_open
    have hLb : L2.b.length = q := by rw [Hst2.out.b]; exact hql
    have k4 : wr.cell? ⟨P, 4, none⟩ = some (.slice ab q cb) := by
      have := At.cell (i := 4) (v := .slice ab L2.b.length cb) h11 rfl
      rw [hLb] at this
      exact this
    have hrm := laneRoom_st W wr _ P D 0 Hst2.out hql h10
    rw [hq] at hj
    obtain ⟨r, hr⟩ : ∃ r, 14336 - q = r := ⟨_, rfl⟩
    rw [hr] at hrm
    have HFXr := HFX.out wr h10.r.r
    have Hq := hide hq
    have Hql := hide hql
    clear hL2 h11 hLb hq hql
    by_cases hrn : n ≤ r
    · have hrz : (n : Int) ≤ (r : Int) := by omega
      have hap := laneAppend_ok W wr _ P D 0 x a4 c4 Hst2.out Hgood.out (by rw [Hql.out, Hn.out]; omega) (fun w' h' => HFD.out w' h'.r) h10
      change Calls _ _ #[_, .agg (RecV.cs (x, a4, c4)).toArray] _ _ at hap
      rw [Hxs.out] at hap
      generalize L2.gen * 1048576 + _ + 1 = pl at hap
      have hrec : (recCheck :: List.replicate j x) ++ [x] = recCheck :: List.replicate (j + 1) x := by rw [List.cons_append, rep_snoc]
      rw [hrec] at hap
      have hq1 : 11 + (j + 1) * n = q + n := by rw [← Hq.out, Nat.add_mul]; omega
      have Hq1 := hide hq1
      have hr2 := hide hr
      have Hrn := hide hrn
      clear hrec hrn hr hq1
      go_wp2_with fail
      refine hrm.mono ?_
      rintro e w6 ⟨rfl, rfl⟩
      clear hrm
      go_upto_region 10 with fail
      refine wp_region_lit ?_
      refine wpList_value rfl (v := .pointer (some ⟨P, 0, none⟩)) (by go_simp) ?_
      refine wpList_load_agg rfl (.tmp 6) 44 rfl _ Try.underlying44 rfl (ys := xs) (by rw [Hxl.out]; kernel_rfl) (g := X) (off := 0) (by go_simp) (fun j u hu => by rw [Nat.zero_add]; exact HFXr j u hu) ?_
      go_wp2_with fail
      refine hap.mono ?_
      rintro e w7 ⟨L3, rfl, hs3, hg3, hb3, h12⟩
      clear hap
      have Hs3 := hide hs3
      clear hs3 h10
      go_wp2_with fail
      go_roundw
      case rel => exact ⟨j + 1, L3, by rw [Hq1.out]; have := hr2.out; omega, Hs3, by rw [hg3]; exact hgen4, h12⟩
      case measure =>
        obtain ⟨hL3, ab3, cb3, h13⟩ := h12.lan_open
        have hLb3 : L3.b.length = q + n := by rw [Hs3.out.b, encR_rep, Hn.out, Hq1.out]
        have k43 : w7.cell? ⟨P, 4, none⟩ = some (.slice ab3 (q + n) cb3) := by
          have := At.cell (i := 4) (v := .slice ab3 L3.b.length cb3) h13 rfl
          rw [hLb3] at this
          exact this
        have := hr2.out
        have := Hrn.out
        simp only [k4, k43]
        clear k4 k43 hLb3 h13 hL3
        exact Nat.sub_lt_sub_left (k := q) (m := 14336) (n := q + n) (by omega) (by omega)
    · have hrz : ¬ ((n : Int) ≤ (r : Int)) := by omega
      have hjn : j = 14325 / n := by
        have h1 := Hq.out
        have h2 : j * n ≤ 14325 := by omega
        have h3 : 14325 < (j + 1) * n := by rw [Nat.add_mul]; omega
        have h4 : j ≤ 14325 / n := (Nat.le_div_iff_mul_le (by omega)).2 h2
        have h5 : 14325 / n < j + 1 := (Nat.div_lt_iff_lt_mul (by omega)).2 h3
        omega
      have hap := laneAppend_full W wr _ P D 0 x a4 c4 Hst2.out Hgood.out (by rw [Hql.out, Hn.out]; omega) (fun w' h' => HFD.out w' h'.r) h10
      change Calls _ _ #[_, .agg (RecV.cs (x, a4, c4)).toArray] _ _ at hap
      rw [Hxs.out] at hap
      have Hjn := hide hjn
      clear hrn hjn k4 h10
      go_wp2_with fail
      refine hrm.mono ?_
      rintro e w6 ⟨rfl, rfl⟩
      clear hrm
      go_upto_region 13 with fail
      refine wp_region_lit ?_
      refine wpList_value rfl (v := .pointer (some ⟨P, 0, none⟩)) (by go_simp) ?_
      refine wpList_load_agg rfl (.tmp 6) 44 rfl _ Try.underlying44 rfl (ys := xs) (by rw [Hxl.out]; kernel_rfl) (g := X) (off := 0) (by go_simp) (fun j u hu => by rw [Nat.zero_add]; exact HFXr j u hu) ?_
      go_wp2_with fail
      refine hap.mono ?_
      rintro e w7 ⟨rfl, h12⟩
      clear hap
      have hfl := laneFlush_ok W w7 _ P D 0 Hst2.out hun (by omega) h12
      have hj2 : j + 1 ≤ 14336 := by
        have := Hq.out
        have : j * 11 ≤ j * n := Nat.mul_le_mul_left _ hn0
        omega
      clear h12 HFXr
      go_wp2_with fail
      refine hfl.mono ?_
      rintro e w8 ⟨L3, m2, rfl, hs3, hg3, hb3, hLb3, hsm, hun2, hwr2, h13⟩
      clear hfl
      have hle := laneLen_st W w8 _ P D 0 hs3 Hql.out h13
      have hrm2 := laneRoom_st W w8 _ P D 0 hs3 Hql.out h13
      rw [hr] at hrm2
      have hsum : (q : Int) + (r : Int) = 14336 := by omega
      have hop := laneOpen_st W w8 _ D 0 m2 hs3 hun2 (by omega) h13.pull2
      rw [List.take_length] at hop
      change Calls _ _ #[_, .int .i64 0] _ _ at hop
      have Hs3 := hide hs3
      clear hs3 hsm h13 hLb3 hb3
      go_wp2_with fail
      refine hle.mono ?_
      rintro e w9 ⟨rfl, rfl⟩
      clear hle
      go_wp2_with fail
      refine hrm2.mono ?_
      rintro e w9 ⟨rfl, rfl⟩
      clear hrm2
      go_wp2_with fail
      refine hop.mono ?_
      rintro e w10 ⟨P2, ae, ce, es, m3, rfl, hel, hes, hs4, hsm, hun4, hwr4, h14⟩
      clear hop
      have hel2 : es.length = j + 1 := by rw [hel]; simp
      have hjd : ((14325 : Int)).tdiv (n : Int) = (j : Int) := by
        rw [Hjn.out]
        rfl
      have hjw := IntWalk.i64_in (j : Int) (by omega)
      have hjw2 := IntWalk.i64_in (1 + (j : Int)) (by omega)
      rw [hel2]
      have hn0z : ¬ ((n : Int) = 0) := by omega
      have h15 := h14.cast (show _ = dsk D m3 * (lan P D 0 L3 * (F * (lan P2 D 0 ⟨L3.gen, L3.bank, encR (recCheck :: List.replicate j x), (encR (recCheck :: List.replicate j x)).length⟩ * (row 52 9 (.slice ae es.length ce) es.length (es.flatMap EntV.cs) * dirts es)))) by ac_rfl)
      have hl1 : (encs [(x, a4, c4)]).length = n := by
        rw [← Hn.out]
        simp [encs]
      have hs6 : LSt m3 0 L3 (recCheck :: List.replicate j x) (recCheck :: List.replicate j x).length := ⟨Hs3.out.b, Nat.le_refl _, Hs3.out.sure, Hs3.out.good, Hs3.out.len, hs4.rest⟩
      have hgd := hs6.rest.gen1
      obtain ⟨N9, hN9⟩ : ∃ N9, w10.heap.size = N9 := ⟨_, rfl⟩
      have h16 := (h15.alloc' hN9 (.cells (RecV.cs (x, a4, c4)).toArray 44)).cast (show _ = lan P D 0 L3 * (dsk D m3 * (cel N9 (RecV.cs (x, a4, c4)).toArray 44 * (F * (lan P2 D 0 ⟨L3.gen, L3.bank, encR (recCheck :: List.replicate j x), (encR (recCheck :: List.replicate j x)).length⟩ * (row 52 9 (.slice ae es.length ce) es.length (es.flatMap EntV.cs) * dirts es))))) by unfold cel; ac_rfl)
      have han := laneAnew_ok W _ _ P D 0 (some ⟨N9, 0, none⟩) 1 [(x, a4, c4)] hs6 hun4 (by rw [hg3, hgen4]; decide) (by simp) (by omega) (fun y hy => by rw [List.mem_singleton.1 hy]; exact Hgood.out) (by rw [hl1]; omega) (recs_one (x, a4, c4) 44 (fun w' h' => HFD.out w' h'.l) Hgood.out.nums) h16
      change Calls _ _ #[_, .slice (some ⟨N9, 0, none⟩) 1 1] _ _ at han
      have x0 : w10.cell? ⟨X, 0, none⟩ = some (.int .i64 x.kind) := HFX.out w10 h15.r.r.l 0 _ (by rw [← Hxs.out]; rfl)
      have x1 : w10.cell? ⟨X, 1, none⟩ = some (.int .i64 x.txn) := HFX.out w10 h15.r.r.l 1 _ (by rw [← Hxs.out]; rfl)
      have x2 : w10.cell? ⟨X, 2, none⟩ = some (.int .i64 x.page) := HFX.out w10 h15.r.r.l 2 _ (by rw [← Hxs.out]; rfl)
      have x3 : w10.cell? ⟨X, 3, none⟩ = some (.int .i64 x.slot) := HFX.out w10 h15.r.r.l 3 _ (by rw [← Hxs.out]; rfl)
      have x4 : w10.cell? ⟨X, 4, none⟩ = some (.string x.before) := HFX.out w10 h15.r.r.l 4 _ (by rw [← Hxs.out]; rfl)
      have x5 : w10.cell? ⟨X, 5, none⟩ = some (.string x.after) := HFX.out w10 h15.r.r.l 5 _ (by rw [← Hxs.out]; rfl)
      have x6 : w10.cell? ⟨X, 6, none⟩ = some (.string x.image) := HFX.out w10 h15.r.r.l 6 _ (by rw [← Hxs.out]; rfl)
      have x7 : w10.cell? ⟨X, 7, none⟩ = some (.slice a4 x.dirty.length c4) := HFX.out w10 h15.r.r.l 7 _ (by rw [← Hxs.out]; rfl)
      have hfin := HFW.out w10 h15.r.r.l
      simp only [RecV.cs, Rec.cells] at han
      clear h14 h15 h16 hes hsm hs4 hs6
      go_wp2_with fail
      try rw [hN9]
      refine Calls.mono han ?_
      rintro e w11 ⟨L4, m4, rfl, hs7, hg7, hsm7, hun7, hwr7, h17⟩
      have hle := laneLen_st W w11 _ P D 0 hs7 (n := n) (by
        show (encR [x]).length = n
        rw [← Hn.out]
        simp [encR]) h17
      have hfin2 := HFW.out w11 h17.r.r.r.l
      clear han hs7 hsm7 h17 x0 x1 x2 x3 x4 x5 x6 x7
      go_wp2_with fail
      refine hle.mono ?_
      rintro e w12 ⟨rfl, rfl⟩
      clear hle
      go_wp2_with fail
      go_ret
      exact ⟨rfl, hfin2⟩
end Go.Proofs.Ytgkibjjcdcpkfaa
