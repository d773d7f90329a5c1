/-
  LanePlaces: the law's walk: whatever comes in, it returns true. A contract, no statement.
-/
import Derived.Test.YtgkibjjcdcpkfaaLag
import Derived.Test.YtgkibjjcdcpkfaaLga
namespace Go.Proofs.Ytgkibjjcdcpkfaa
open Go Go.RowKit

def recZero : Rec := ⟨0, 0, 0, 0, ⟨#[]⟩, ⟨#[]⟩, ⟨#[]⟩, []⟩
def recNine : Rec := ⟨9, 0, 0, 0, ⟨#[]⟩, ⟨#[]⟩, ⟨#[]⟩, []⟩
theorem recZero_bad : recZero.right = false := by simp [Rec.right, recZero]
theorem recNine_bad : recNine.right = false := by simp [Rec.right, recNine]

set_option maxRecDepth 100000 in
set_option maxHeartbeats 16000000 in
theorem places_walk (W : World) (a : Option Addr) (cap : Nat) (ss : List SdV) (n0 : Int) (hn : ss.length ≤ maxLen) (_hdl : ∀ x ∈ ss, x.1.dirty.length ≤ maxLen) (hss : SdsIn W (old W * 1) a ss) :
    Calls Try.prog 5 #[.slice a ss.length cap, .int .i64 n0] W fun e W' => e = .returned (.bool true) ∧ Below W.heap.size W W' := by
  have hfit := lawFit_any W W _ (At.startR W)
  obtain ⟨n, hnn⟩ : ∃ n, ss.length = n := ⟨_, rfl⟩
  rw [hnn] at hn ⊢
  unfold maxLen at hn
  have Hn := hide hnn
  have Hss := hide hss
  clear hnn hss _hdl
  go_enter Try.func5, Try.ntmps5
  go_wp2_with fail
  refine hfit.mono ?_
  rintro e w1 ⟨rfl, h1⟩
  clear hfit
  by_cases hbig : 30 < n
  · have hbel := h1.below
    have hbz : 30 < (n : Int) := by omega
    clear hbig
    go_wp2_with fail
    go_ret
    exact ⟨rfl, hbel⟩
  have hbz : ¬ 30 < (n : Int) := by omega
  have hnew := diskNew_any W w1 _ 1 538 (by decide) (by decide) (by decide) (by decide) h1
  change Calls _ _ #[.int .i64 1, .int .i64 538] _ _ at hnew
  clear h1
  go_wp2_with fail
  refine hnew.mono ?_
  rintro e w2 ⟨D, rfl, h2⟩
  clear hnew
  have hN := Dk.new_at 1 538 0 (by decide)
  have hln := laneNew_st W w2 _ D 0 (Dk.new 1 538) (Dk.new_wf (by decide) (by decide) (by decide)) (by decide) (by decide) hN.1 hN.2 (by decide) h2
  change Calls _ _ #[_, .int .i64 0] _ _ at hln
  have hn2 : (Dk.new 1 538).writes = 0 := rfl
  rw [hn2] at hln
  generalize Dk.new 1 538 = m0 at *
  clear h2 hn2 hN
  go_wp2_with fail
  refine hln.mono ?_
  rintro e w3 ⟨P, L, m1, rfl, hst, hg, hb, hsame, hun, hwr, h3⟩
  clear hln
  have Hst := hide hst
  have Hun := hide hun
  have hwr' : m1.writes ≤ 520 := by omega
  have hn30 : n ≤ 30 := by omega
  clear hst hsame hun hb hwr hbz hbig
  go_wp2_with fail
  go_loopw [8, 9, 30] (fun u8 u9 u30 wr => ∃ (i : Nat) (L : Ln) (m : Dk) (all : List Rec) (k at' : Nat), i ≤ n ∧ u30 = .int .i64 i ∧ u8 = .int .u64 L.gen ∧ u9 = .int .i64 at' ∧ Hid (LSt m 0 L all k) ∧ Hid ((encR all).length = at') ∧ Hid (m.armd 0 = false) ∧ at' ≤ 395 * (i + 2) ∧ L.gen ≤ i + 1 ∧ m.writes ≤ 520 * (i + 1) ∧
    At W (lan P D 0 L * (dsk D m * (old W * 1))) wr) (fun _ _ u _ => n - (intOf u).toNat)
  case atStart => exact ⟨0, L, m1, [recCheck], 1, 11, Nat.zero_le _, rfl, by rw [hg]; rfl, rfl, Hst, hide encR_check, Hun, by omega, by omega, by omega, h3⟩
  case round =>
    obtain ⟨i, L2, m, all, k, at', hin, rfl, rfl, rfl, Hst2, Hat, Hun2, hat, hg2, hwr2, h4⟩ := hrel
    clear h3 Hst hg Hun hwr'
    by_cases hil : i < n
    · obtain ⟨s, hs⟩ : ∃ s, ss[i]'(by have := Hn.out; omega) = s := ⟨_, rfl⟩
      have hsm : s ∈ ss := by rw [← hs]; exact List.getElem_mem _
      have hsIn := Hss.out.2 s hsm
      obtain ⟨g, o, rfl, hcs⟩ := Hss.out.at h4.r.r (i := i) (by have := Hn.out; omega)
      rw [hs] at hcs
      obtain ⟨dl, hdl⟩ : ∃ dl, s.1.dirty.length = dl := ⟨_, rfl⟩
      obtain ⟨B, hB⟩ : ∃ B, wr.heap.size = B := ⟨_, rfl⟩
      have h5 := h4.alloc' hB (.cells (List.toArray [.int .i64 0, .int .i64 0, .int .i64 0, .int .i64 0, .int .u8 0, .int .u8 0, .int .u8 0, .slice none 0 0]) 56)
      have HsIn := hide hsIn
      have Hdl := hide hdl
      have hilz : (i : Int) < (n : Int) := by omega
      clear hs hsm hsIn hdl h4
      go_upto_region 10 with fail
      refine wp_region_lit ?_
      refine wpList_value rfl (v := .int .i64 i) (by go_simp) ?_
      refine wpList_value rfl (v := .pointer (some ⟨g, o + i * 8, none⟩)) (by go_simp) ?_
      refine wpList_load_agg rfl (.tmp 33) 56 rfl _ Try.underlying56 rfl (ys := s.cs) (by rw [SdV.cs_len]; kernel_rfl) (g := g) (off := o + i * 8) (by go_simp) hcs ?_
      refine wpList_alloc_at rfl _ rfl (Try.zeroSeed wr) ?_
      try rw [hB]
      refine wpList_value rfl (v := .int .i64 i) (by go_simp) ?_
      refine wpList_store_at rfl (.tmp 11) (.tmp 34) _ rfl (g := B) (c := List.toArray [.int .i64 0, .int .i64 0, .int .i64 0, .int .i64 0, .int .u8 0, .int .u8 0, .int .u8 0, .slice none 0 0]) (ys := s.cs) (by go_simp) (by go_simp) (by rw [SdV.cs_len]; kernel_rfl) rfl s.one h5 ?_
      intro w5 h6
      have c7 : w5.cell? ⟨B, 7, none⟩ = some (.slice s.2.1 dl s.2.2) := by
        rw [← Hdl.out]
        exact At.cell h6 rfl
      clear h5 hcs hB
      by_cases hdb : 100 < dl
      · have hdz : 100 < (dl : Int) := by omega
        have hbel := h6.r.r.r.below
        clear hdb
        go_wp2_with fail
        go_ret
        exact ⟨rfl, hbel⟩
      have hdz : ¬ 100 < (dl : Int) := by omega
      have hgood := Sd.good HsIn.out.1
      have hxl := Sd.rcd_len (s := s.1)
      have hc1 := seedRec_v W w5 _ s (HsIn.out.of fun w' h' => (h'.r.r.r : At W (old W * 1) w')) (by rw [Hdl.out]; omega) h6
      obtain ⟨x, hx⟩ : ∃ x, s.1.rcd = x := ⟨_, rfl⟩
      rw [hx] at hc1 hgood hxl
      change Calls _ _ _ _ (fun e w' => ∃ a1 c1, e = .returned (.agg #[.int .i64 x.kind, .int .i64 x.txn, .int .i64 x.page, .int .i64 x.slot, .string x.before, .string x.after, .string x.image, .slice a1 x.dirty.length c1]) ∧ At W (row 33 1 (.slice a1 x.dirty.length c1) x.dirty.length (nus x.dirty) * (cel B s.cs.toArray 56 * (lan P D 0 L2 * (dsk D m * (old W * 1))))) w') at hc1
      have Hgood := hide hgood
      obtain ⟨q, hq⟩ : ∃ q, x.enc.length = q := ⟨_, rfl⟩
      have hq1 : q ≤ 395 := by rw [← hq]; exact Rec.enc_le hgood
      have Hq := hide hq
      clear hgood hx hdb hq
      go_upto_region 13 with fail
      clear c7
      refine wp_region_lit ?_
      refine wpList_load_agg rfl (.tmp 11) 56 rfl _ Try.underlying56 rfl (ys := s.cs) (by rw [SdV.cs_len]; kernel_rfl) (g := B) (off := 0) (by go_simp) (fun j u hu => by rw [Nat.zero_add]; exact At.cell h6 (by simpa using hu)) ?_
      go_wp2_with fail
      refine hc1.mono ?_
      rintro e w6 ⟨a1, c1, rfl, h7⟩
      clear hc1 h6
      obtain ⟨X, hX⟩ : ∃ X, w6.heap.size = X := ⟨_, rfl⟩
      have h8 := h7.alloc' hX (.cells #[.int .i64 x.kind, .int .i64 x.txn, .int .i64 x.page, .int .i64 x.slot, .string x.before, .string x.after, .string x.image, .slice a1 x.dirty.length c1] 44)
      clear h7
      go_upto_region 14 with fail
      try rw [hX]
      generalize hW : w6.alloc _ = w7 at h8 ⊢
      clear hX hW
      -- what stays: the record's block, its numbers, what was there
      have h9 := h8.cast (show _ = lan P D 0 L2 * (dsk D m * (cel X #[.int .i64 x.kind, .int .i64 x.txn, .int .i64 x.page, .int .i64 x.slot, .string x.before, .string x.after, .string x.image, .slice a1 x.dirty.length c1] 44 * (row 33 1 (.slice a1 x.dirty.length c1) x.dirty.length (nus x.dirty) * (old W * 1)))) * cel B s.cs.toArray 56 by unfold cel; ac_rfl)
      have h10 := h9.l
      have hap := laneAppend_ok W w7 _ P D 0 x a1 c1 Hst2.out Hgood.out (by rw [Hat.out, Hq.out]; omega) (fun w' h' => h'.r.r.rd) h10
      rw [Hat.out] at hap
      change Calls _ _ #[_, .agg #[.int .i64 x.kind, .int .i64 x.txn, .int .i64 x.page, .int .i64 x.slot, .string x.before, .string x.after, .string x.image, .slice a1 x.dirty.length c1]] _ _ at hap
      obtain ⟨pl, hpl⟩ : ∃ pl, L2.gen * 1048576 + at' + 1 = pl := ⟨_, rfl⟩
      rw [hpl] at hap
      have x0 : w7.cell? ⟨X, 0, none⟩ = some (.int .i64 x.kind) := At.cell h10.pull3 rfl
      have x1 : w7.cell? ⟨X, 1, none⟩ = some (.int .i64 x.txn) := At.cell h10.pull3 rfl
      have x2 : w7.cell? ⟨X, 2, none⟩ = some (.int .i64 x.page) := At.cell h10.pull3 rfl
      have x3 : w7.cell? ⟨X, 3, none⟩ = some (.int .i64 x.slot) := At.cell h10.pull3 rfl
      have x4 : w7.cell? ⟨X, 4, none⟩ = some (.string x.before) := At.cell h10.pull3 rfl
      have x5 : w7.cell? ⟨X, 5, none⟩ = some (.string x.after) := At.cell h10.pull3 rfl
      have x6 : w7.cell? ⟨X, 6, none⟩ = some (.string x.image) := At.cell h10.pull3 rfl
      have x7 : w7.cell? ⟨X, 7, none⟩ = some (.slice a1 x.dirty.length c1) := At.cell h10.pull3 rfl
      have Hpl := hide hpl
      clear h8 h9 hpl
      go_upto_region 14 with fail
      go_wp2_with fail
      refine hap.mono ?_
      rintro e w8 ⟨L3, rfl, hs3, hg3, hb3, h11⟩
      clear hap h10 x0 x1 x2 x3 x4 x5 x6 x7
      have Hs3 := hide hs3
      have hv2 := wrap_u64 (x := (L2.gen : Int) * 1048576) (by omega) (by omega)
      have hv3 := wrap_u64 (x := (at' : Int)) (by omega) (by omega)
      have hv4 : (L2.gen : Int) * 1048576 + (at' : Int) + 1 = (pl : Int) := by rw [← Hpl.out]; omega
      have hv5 := wrap_u64 (x := (L2.gen : Int) * 1048576 + (at' : Int)) (by omega) (by omega)
      have hv6 := wrap_u64 (x := (pl : Int)) (by omega) (by omega)
      have y0 : w8.cell? ⟨X, 0, none⟩ = some (.int .i64 x.kind) := At.cell h11.pull3 rfl
      have y1 : w8.cell? ⟨X, 1, none⟩ = some (.int .i64 x.txn) := At.cell h11.pull3 rfl
      have y2 : w8.cell? ⟨X, 2, none⟩ = some (.int .i64 x.page) := At.cell h11.pull3 rfl
      have y3 : w8.cell? ⟨X, 3, none⟩ = some (.int .i64 x.slot) := At.cell h11.pull3 rfl
      have y4 : w8.cell? ⟨X, 4, none⟩ = some (.string x.before) := At.cell h11.pull3 rfl
      have y5 : w8.cell? ⟨X, 5, none⟩ = some (.string x.after) := At.cell h11.pull3 rfl
      have y6 : w8.cell? ⟨X, 6, none⟩ = some (.string x.image) := At.cell h11.pull3 rfl
      have y7 : w8.cell? ⟨X, 7, none⟩ = some (.slice a1 x.dirty.length c1) := At.cell h11.pull3 rfl
      have hen := recEncode_any W w8 _ x a1 c1 (Rec.fair Hgood.out.right Hgood.out.nums) (fun w' h' => h'.r.r.r.rd) h11
      rw [Hq.out] at hen
      change Calls _ _ #[.agg #[.int .i64 x.kind, .int .i64 x.txn, .int .i64 x.page, .int .i64 x.slot, .string x.before, .string x.after, .string x.image, .slice a1 x.dirty.length c1]] _ _ at hen
      clear hs3 hb3
      go_wp2_with fail
      refine hen.mono ?_
      rintro e w9 ⟨a9, c9, rfl, h12⟩
      clear hen h11 y0 y1 y2 y3 y4 y5 y6 y7
      have h13 := h12.r
      clear h12
      obtain ⟨at2, hat2⟩ : ∃ at2, at' + q = at2 := ⟨_, rfl⟩
      have hat2z : (at' : Int) + (q : Int) = (at2 : Int) := by omega
      have Hat2 : Hid ((encR (all ++ [x])).length = at2) := hide (by
        rw [encR_append, List.length_append, Hat.out, ← hat2]
        simp [encR, Hq.out])
      have hat2l : at2 ≤ 395 * (i + 3) := by omega
      clear hat2
      by_cases hnn : bits .and .i64 n0 15 = (i : Int)
      · have hs5 := Hs3.out
        obtain ⟨N, hN⟩ : ∃ N, w9.heap.size = N := ⟨_, rfl⟩
        have h14 := (h13.alloc' hN (.cells #[.int .i64 x.kind, .int .i64 x.txn, .int .i64 x.page, .int .i64 x.slot, .string x.before, .string x.after, .string x.image, .slice a1 x.dirty.length c1, .int .i64 x.kind, .int .i64 x.txn, .int .i64 x.page, .int .i64 x.slot, .string x.before, .string x.after, .string x.image, .slice a1 x.dirty.length c1] 44)).cast (show _ = lan P D 0 L3 * (dsk D m * (cel N #[.int .i64 x.kind, .int .i64 x.txn, .int .i64 x.page, .int .i64 x.slot, .string x.before, .string x.after, .string x.image, .slice a1 x.dirty.length c1, .int .i64 x.kind, .int .i64 x.txn, .int .i64 x.page, .int .i64 x.slot, .string x.before, .string x.after, .string x.image, .slice a1 x.dirty.length c1] 44 * (cel X #[.int .i64 x.kind, .int .i64 x.txn, .int .i64 x.page, .int .i64 x.slot, .string x.before, .string x.after, .string x.image, .slice a1 x.dirty.length c1] 44 * (row 33 1 (.slice a1 x.dirty.length c1) x.dirty.length (nus x.dirty) * (old W * 1))))) by unfold cel; ac_rfl)
        have hel : (encs [(x, a1, c1), (x, a1, c1)]).length = 2 * q := by
          unfold encs
          simp only [List.flatMap_cons, List.flatMap_nil, List.length_append, List.length_nil, Hq.out]
          omega
        have han := laneAnew_ok W _ (cel N #[.int .i64 x.kind, .int .i64 x.txn, .int .i64 x.page, .int .i64 x.slot, .string x.before, .string x.after, .string x.image, .slice a1 x.dirty.length c1, .int .i64 x.kind, .int .i64 x.txn, .int .i64 x.page, .int .i64 x.slot, .string x.before, .string x.after, .string x.image, .slice a1 x.dirty.length c1] 44 * (cel X #[.int .i64 x.kind, .int .i64 x.txn, .int .i64 x.page, .int .i64 x.slot, .string x.before, .string x.after, .string x.image, .slice a1 x.dirty.length c1] 44 * (row 33 1 (.slice a1 x.dirty.length c1) x.dirty.length (nus x.dirty) * (old W * 1)))) P D 0 (some ⟨N, 0, none⟩) 2 [(x, a1, c1), (x, a1, c1)] Hs3.out Hun2.out (by rw [hg3]; omega) (by simp) (by omega) (fun y hy => by
          simp only [List.mem_cons, List.not_mem_nil, or_false] at hy
          rcases hy with rfl | rfl <;> exact Hgood.out) (by rw [hel]; omega) ⟨.inr ⟨N, 0, rfl, fun w' h' j u hu => by
          rw [Nat.zero_add]
          exact At.cell h' (by simpa [RecV.cs, Rec.cells] using hu)⟩, fun y hy w' h' => by
          simp only [List.mem_cons, List.not_mem_nil, or_false] at hy
          rcases hy with rfl | rfl <;> exact h'.r.r.rd, fun y hy => by
          simp only [List.mem_cons, List.not_mem_nil, or_false] at hy
          rcases hy with rfl | rfl <;> exact Hgood.out.nums⟩ h14
        change Calls _ _ #[_, .slice (some ⟨N, 0, none⟩) 2 2] _ _ at han
        have z0 : w9.cell? ⟨X, 0, none⟩ = some (.int .i64 x.kind) := At.cell h13.pull3 rfl
        have z1 : w9.cell? ⟨X, 1, none⟩ = some (.int .i64 x.txn) := At.cell h13.pull3 rfl
        have z2 : w9.cell? ⟨X, 2, none⟩ = some (.int .i64 x.page) := At.cell h13.pull3 rfl
        have z3 : w9.cell? ⟨X, 3, none⟩ = some (.int .i64 x.slot) := At.cell h13.pull3 rfl
        have z4 : w9.cell? ⟨X, 4, none⟩ = some (.string x.before) := At.cell h13.pull3 rfl
        have z5 : w9.cell? ⟨X, 5, none⟩ = some (.string x.after) := At.cell h13.pull3 rfl
        have z6 : w9.cell? ⟨X, 6, none⟩ = some (.string x.image) := At.cell h13.pull3 rfl
        have z7 : w9.cell? ⟨X, 7, none⟩ = some (.slice a1 x.dirty.length c1) := At.cell h13.pull3 rfl
        clear hs5 h14
        go_wp2_with fail
        try rw [hN]
        refine Calls.mono han ?_
        rintro e w10 ⟨L4, m4, rfl, hs6, hg6, hsm6, hun6, hwr6, h15⟩
        clear han h13 z0 z1 z2 z3 z4 z5 z6 z7
        have h16 := h15.cast (show _ = lan P D 0 L4 * (dsk D m4 * (cel X #[.int .i64 x.kind, .int .i64 x.txn, .int .i64 x.page, .int .i64 x.slot, .string x.before, .string x.after, .string x.image, .slice a1 x.dirty.length c1] 44 * (row 33 1 (.slice a1 x.dirty.length c1) x.dirty.length (nus x.dirty) * (old W * 1)))) * cel N #[.int .i64 x.kind, .int .i64 x.txn, .int .i64 x.page, .int .i64 x.slot, .string x.before, .string x.after, .string x.image, .slice a1 x.dirty.length c1, .int .i64 x.kind, .int .i64 x.txn, .int .i64 x.page, .int .i64 x.slot, .string x.before, .string x.after, .string x.image, .slice a1 x.dirty.length c1] 44 by ac_rfl)
        have h17 := h16.l
        have hen := recEncode_any W w10 _ x a1 c1 (Rec.fair Hgood.out.right Hgood.out.nums) (fun w' h' => h'.r.r.r.rd) h17
        rw [Hq.out] at hen
        change Calls _ _ #[.agg #[.int .i64 x.kind, .int .i64 x.txn, .int .i64 x.page, .int .i64 x.slot, .string x.before, .string x.after, .string x.image, .slice a1 x.dirty.length c1]] _ _ at hen
        have z0 : w10.cell? ⟨X, 0, none⟩ = some (.int .i64 x.kind) := At.cell h17.pull3 rfl
        have z1 : w10.cell? ⟨X, 1, none⟩ = some (.int .i64 x.txn) := At.cell h17.pull3 rfl
        have z2 : w10.cell? ⟨X, 2, none⟩ = some (.int .i64 x.page) := At.cell h17.pull3 rfl
        have z3 : w10.cell? ⟨X, 3, none⟩ = some (.int .i64 x.slot) := At.cell h17.pull3 rfl
        have z4 : w10.cell? ⟨X, 4, none⟩ = some (.string x.before) := At.cell h17.pull3 rfl
        have z5 : w10.cell? ⟨X, 5, none⟩ = some (.string x.after) := At.cell h17.pull3 rfl
        have z6 : w10.cell? ⟨X, 6, none⟩ = some (.string x.image) := At.cell h17.pull3 rfl
        have z7 : w10.cell? ⟨X, 7, none⟩ = some (.slice a1 x.dirty.length c1) := At.cell h17.pull3 rfl
        have Hs6 := hide hs6
        have hg7 : L4.gen = L2.gen + 1 := by rw [hg6, hg3]
        have hgz : (L2.gen : Int) + 1 = (L4.gen : Int) := by omega
        have hgw := wrap_u64 (x := (L4.gen : Int)) (by omega) (by omega)
        obtain ⟨r2, hr2⟩ : ∃ r2, 2 * q = r2 := ⟨_, rfl⟩
        have hqz : 2 * (q : Int) = (r2 : Int) := by omega
        have hr2l : r2 ≤ 790 := by omega
        have hen2 : (encR ([((x, a1, c1) : RecV), (x, a1, c1)].map (·.1))).length = r2 := by rw [← encs_encR, hel, hr2]
        have Hen2 := hide hen2
        have Hg7 := hide hg7
        clear hs6 hsm6 h15 h16 hel hg6 hg7 hen2 hr2
        go_wp2_with fail
        refine hen.mono ?_
        rintro e w11 ⟨a11, c11, rfl, h18⟩
        clear hen h17 z0 z1 z2 z3 z4 z5 z6 z7
        go_wp2_with fail
        go_roundw
        case rel => exact ⟨i + 1, L4, m4, _, 2, r2, by omega, by go_num, rfl, by go_num, Hs6, Hen2, hide hun6, by omega, by rw [Hg7.out]; omega, by omega, (h18.r.cast (show _ = lan P D 0 L4 * (dsk D m4 * (old W * 1)) * (cel X #[.int .i64 x.kind, .int .i64 x.txn, .int .i64 x.page, .int .i64 x.slot, .string x.before, .string x.after, .string x.image, .slice a1 x.dirty.length c1] 44 * row 33 1 (.slice a1 x.dirty.length c1) x.dirty.length (nus x.dirty)) by ac_rfl)).l⟩
        case measure => simp [intOf]; omega
      · have hnn2 : ¬ ((i : Int) = bits .and .i64 n0 15) := fun h => hnn h.symm
        clear hnn
        go_wp2_with fail
        go_roundw
        case rel => exact ⟨i + 1, L3, m, all ++ [x], k, at2, by omega, by go_num, by rw [hg3], by go_num, Hs3, Hat2, Hun2, by omega, by rw [hg3]; omega, by omega, (h13.cast (show _ = lan P D 0 L3 * (dsk D m * (old W * 1)) * (cel X #[.int .i64 x.kind, .int .i64 x.txn, .int .i64 x.page, .int .i64 x.slot, .string x.before, .string x.after, .string x.image, .slice a1 x.dirty.length c1] 44 * row 33 1 (.slice a1 x.dirty.length c1) x.dirty.length (nus x.dirty)) by ac_rfl)).l⟩
        case measure => simp [intOf]; omega
    · obtain rfl : i = n := by omega
      have hiz : ¬ ((i : Int) < (i : Int)) := by omega
      have e0 : L2.append recZero = (0, 1, L2) := by unfold Ln.append; rw [if_pos recZero_bad]
      have hap := laneAppend_any W wr _ P D 0 L2 recZero none 0 (fun d hd => by simp [recZero] at hd) (fun w' _ => .inl ⟨rfl, rfl⟩) h4
      rw [e0] at hap
      change Calls _ _ #[_, .agg #[.int .i64 0, .int .i64 0, .int .i64 0, .int .i64 0, .string ⟨#[]⟩, .string ⟨#[]⟩, .string ⟨#[]⟩, .slice none 0 0]] _ (fun e w' => e = .returned (.tuple #[.int .u64 0, .int .i64 1]) ∧ At W (lan P D 0 L2 * (dsk D m * (old W * 1))) w') at hap
      clear h4 e0
      go_wp2_with fail
      refine hap.mono ?_
      rintro e w5 ⟨rfl, h5⟩
      clear hap
      have hfl := laneFlush_ok W w5 _ P D 0 Hst2.out Hun2.out (by omega) h5
      clear h5
      go_wp2_with fail
      refine hfl.mono ?_
      rintro e w6 ⟨L3, m2, rfl, hs3, hg3, hb3, hLb3, hsm, hun2, hwr3, h6⟩
      clear hfl
      have hle := laneLen_st W w6 _ P D 0 hs3 Hat.out h6
      obtain ⟨N, hN⟩ : ∃ N, w6.heap.size = N := ⟨_, rfl⟩
      have h7 := (h6.alloc' hN (.cells #[.int .i64 9, .int .i64 0, .int .i64 0, .int .i64 0, .string ⟨#[]⟩, .string ⟨#[]⟩, .string ⟨#[]⟩, .slice none 0 0] 44)).cast (show _ = lan P D 0 L3 * (dsk D m2 * (cel N (RecV.cs (recNine, none, 0)).toArray 44 * (old W * 1))) by
        show pt N _ * _ = lan P D 0 L3 * (dsk D m2 * (pt N _ * (old W * 1)))
        ac_rfl)
      have han := laneAnew_any W _ (cel N (RecV.cs (recNine, none, 0)).toArray 44 * (old W * 1)) P D 0 L3 m2 (some ⟨N, 0, none⟩) 1 [(recNine, none, 0)] hs3.rest.hr (by rw [hg3]; omega) (by simp) (by omega) (recs_one (recNine, none, 0) 44 (fun w' _ => .inl ⟨rfl, rfl⟩) (fun d hd => by simp [recNine] at hd)) h7
      have e9 : L3.anew m2 0 [(recNine, none, 0)] = (1, L3, m2) := by
        unfold Ln.anew
        rw [if_pos]
        unfold allRight
        simp [recNine_bad]
      rw [e9] at han
      change Calls _ _ #[_, .slice (some ⟨N, 0, none⟩) 1 1] _ (fun e w' => e = .returned (.int .i64 1) ∧ At W (lan P D 0 L3 * (dsk D m2 * (cel N (RecV.cs (recNine, none, 0)).toArray 44 * (old W * 1)))) w') at han
      clear hs3 hsm h6 h7 e9 hLb3
      go_wp2_with fail
      refine hle.mono ?_
      rintro e w7 ⟨rfl, rfl⟩
      clear hle
      go_wp2_with fail
      try rw [hN]
      refine Calls.mono han ?_
      rintro e w8 ⟨rfl, h8⟩
      clear han
      have hbel := h8.r.r.r.below
      go_wp2_with fail
      go_ret
      exact ⟨rfl, hbel⟩
end Go.Proofs.Ytgkibjjcdcpkfaa
