/-
  LaneBanks: the law's walk: whatever comes in, it returns true. A contract, no statement.
-/
import Derived.Test.YtgkibjjcdcpkfaaLk
namespace Go.Proofs.Ytgkibjjcdcpkfaa
open Go Go.RowKit

set_option maxRecDepth 100000 in
set_option maxHeartbeats 32000000 in
theorem banks_walk (W : World) (a : Option Addr) (cap : Nat) (ss : List SdV) (da : Option Addr) (k dc : Nat) (z : Nat → Int) (mask : Nat) (hn : ss.length ≤ maxLen) (_hdl : ∀ x ∈ ss, x.1.dirty.length ≤ maxLen) (hss : SdsIn W (old W * 1) a ss) (hkn : k ≤ 9223372036854775807) (_hzb : ∀ i, -9223372036854775808 ≤ z i ∧ z i ≤ 9223372036854775807) (hz : ∀ i, i < k → ∃ b o, da = some ⟨b, o, none⟩ ∧ W.cell? ⟨b, o + i, none⟩ = some (.int .i64 (z i))) (hmask : mask < 18446744073709551616) :
    Calls Try.prog 7 #[.slice a ss.length cap, .slice da k dc, .int .u64 mask] W fun e W' => e = .returned (.bool true) ∧ Below W.heap.size W W' := by
  have hfit := lawFit_any W W _ (At.startR W)
  obtain ⟨n, hnn⟩ : ∃ n, ss.length = n := ⟨_, rfl⟩
  rw [hnn] at hn ⊢
  unfold maxLen at hn
  have Hn := hide hnn
  have Hss := hide hss
  have Hz := hide hz
  have Hmask := hide hmask
  clear hnn hss hz hmask _hdl _hzb
  go_enter Try.func7, Try.ntmps7
  go_wp2_with fail
  refine hfit.mono ?_
  rintro e w1 ⟨rfl, h1⟩
  clear hfit
  by_cases hbig : n = 0 ∨ 10 < n ∨ 8 < k
  · have hbel := h1.below
    by_cases b1 : n = 0
    · have b1z : ((n : Int) == 0) = true := by simp; omega
      clear hbig b1
      go_wp2_with fail
      go_ret
      exact ⟨rfl, hbel⟩
    · have b1z : ¬ (n : Int) = 0 := by omega
      have b1y : ((n : Int) == 0) = false := by simp; omega
      by_cases b2 : 10 < n
      · have b2z : 10 < (n : Int) := by omega
        clear hbig b1 b2
        go_wp2_with fail
        go_ret
        exact ⟨rfl, hbel⟩
      · have b2z : ¬ 10 < (n : Int) := by omega
        have b3z : 8 < (k : Int) := by omega
        clear hbig b1 b2
        go_wp2_with fail
        go_ret
        exact ⟨rfl, hbel⟩
  have hn10 : n ≤ 10 := by omega
  have hn0 : 0 < n := by omega
  have hk8 : k ≤ 8 := by omega
  have b1z : ¬ (n : Int) = 0 := by omega
  have b1y : ((n : Int) == 0) = false := by simp; omega
  have b2z : ¬ 10 < (n : Int) := by omega
  have b3z : ¬ 8 < (k : Int) := by omega
  have hnew := diskNew_any W w1 _ 1 538 (by decide) (by decide) (by decide) (by decide) h1
  change Calls _ _ #[.int .i64 1, .int .i64 538] _ _ at hnew
  clear h1 hbig
  go_wp2_with fail
  refine hnew.mono ?_
  rintro e w2 ⟨D, rfl, h2⟩
  clear hnew
  have hN := Dk.new_at 1 538 0 (by decide)
  have hln := laneNew_st W w2 _ D 0 (Dk.new 1 538) (Dk.new_wf (by decide) (by decide) (by decide)) (by decide) (by decide) hN.1 hN.2 (by decide) h2
  change Calls _ _ #[_, .int .i64 0] _ _ at hln
  have hn2 : (Dk.new 1 538).writes = 0 := rfl
  rw [hn2] at hln
  generalize Dk.new 1 538 = m0 at *
  clear h2 hn2 hN
  go_wp2_with fail
  refine hln.mono ?_
  rintro e w3 ⟨P, L, m1, rfl, hst, hg, hb, hsame, hun, hwr, h3⟩
  clear hln
  have Hst := hide hst
  have Hun := hide hun
  have hwr' : m1.writes ≤ 520 := by omega
  obtain ⟨N0, hN0⟩ : ∃ N0, w3.heap.size = N0 := ⟨_, rfl⟩
  have h4 : At W (lan P D 0 L * (dsk D m1 * (cel N0 rvCheck.cs.toArray 44 * (old W * 1)))) (w3.alloc (.cells #[.int .i64 1, .int .i64 0, .int .i64 0, .int .i64 0, .string ⟨#[]⟩, .string ⟨#[]⟩, .string ⟨#[]⟩, .slice none 0 0] 44)) := (h3.alloc' hN0 (.cells rvCheck.cs.toArray 44)).cast (by unfold cel; ac_rfl)
  clear hst hsame hun hb hwr b3z h3
  go_wp2_with fail
  try rw [hN0]
  generalize hW4 : w3.alloc _ = w4 at h4 ⊢
  clear hN0 hW4
  go_loopw [8, 10, 44] (fun u8 u10 u44 wr => ∃ (i P : Nat) (L : Ln) (m : Dk) (now : List RecV) (a10 : Option Addr) (c10 : Nat) (F : HP), i ≤ k ∧ u44 = .int .i64 i ∧ u8 = .pointer (some ⟨P, 0, none⟩) ∧ u10 = .slice a10 now.length c10 ∧ Hid (now.length ≤ 3 ∧ GoodV now ∧ RecsIn W F a10 now) ∧ Hid (∀ w', At W F w' → At W (old W * 1) w') ∧
    Hid (LSt m 0 L (now.map (·.1)) now.length) ∧ Hid (m.armd 0 = false) ∧ Hid (L.gen ≤ i + 1) ∧ m.writes ≤ 520 + 1200 * i ∧ At W (lan P D 0 L * (dsk D m * F)) wr) (fun _ _ u _ => k - (intOf u).toNat)
  case atStart =>
    exact ⟨0, P, L, m1, [rvCheck], some ⟨N0, 0, none⟩, 1, _, Nat.zero_le _, rfl, rfl, rfl, hide ⟨by decide, fun y h => by rw [List.mem_singleton.1 h]; exact recCheck_good, recs_one rvCheck _ (rvCheck_dir _ _) (fun d hd => by simp [rvCheck, recCheck] at hd)⟩, hide fun w' h' => h'.r, Hst, Hun, hide (by omega), by omega, h4⟩
  case round =>
    obtain ⟨i, P2, L2, m, now, a10, c10, F, hin, rfl, rfl, rfl, Hnow, HF, Hst2, Hun2, Hg2, hwr2, h5⟩ := hrel
    clear h4 Hst Hun hg hwr'
    by_cases hil : i < k
    · have hilk : (i : Int) < (k : Int) := by omega
      obtain ⟨zb, zo, hda, hzc⟩ := Hz.out i hil
      subst hda
      have hzc' : wr.cell? ⟨zb, zo + i, none⟩ = some (.int .i64 (z i)) := (HF.out _ h5.r.r).old_cell hzc
      obtain ⟨q, hq⟩ : ∃ q, i % n = q := ⟨_, rfl⟩
      have hqn : q < n := by rw [← hq]; exact Nat.mod_lt _ hn0
      have hqz : (i : Int).tmod (n : Int) = (q : Int) := by rw [← hq]; rfl
      have hqw := IntWalk.i64_in (q : Int) (by omega)
      have hqi : (q : Int) < (n : Int) := by omega
      have hn0e : ¬ n = 0 := by omega
      obtain ⟨dn, hdn⟩ : ∃ dn, z i = dn := ⟨_, rfl⟩
      rw [hdn] at hzc'
      clear hzc hdn
      go_upto_region 11 with fail
      clear hzc'
      obtain ⟨s, hs⟩ : ∃ s, ss[q]'(by have := Hn.out; omega) = s := ⟨_, rfl⟩
      have hsm : s ∈ ss := by rw [← hs]; exact List.getElem_mem _
      have hsIn := Hss.out.2 s hsm
      obtain ⟨g, o, rfl, hcs⟩ := Hss.out.at (HF.out _ h5.r.r) (i := q) (by have := Hn.out; omega)
      rw [hs] at hcs
      obtain ⟨dl, hdl⟩ : ∃ dl, s.1.dirty.length = dl := ⟨_, rfl⟩
      obtain ⟨B, hB⟩ : ∃ B, wr.heap.size = B := ⟨_, rfl⟩
      have h6 := h5.alloc' hB (.cells (List.toArray [.int .i64 0, .int .i64 0, .int .i64 0, .int .i64 0, .int .u8 0, .int .u8 0, .int .u8 0, .slice none 0 0]) 56)
      have HsIn := hide hsIn
      have Hdl := hide hdl
      clear hs hsm hsIn hdl h5
      refine wp_region_lit ?_
      refine wpList_value rfl (v := .slice (some ⟨g, o, none⟩) n cap) (by go_simp) ?_
      refine wpList_value rfl (v := .int .i64 i) (by go_simp) ?_
      refine wpList_value rfl (v := .slice (some ⟨g, o, none⟩) n cap) (by go_simp) ?_
      refine wpList_value rfl (v := .int .i64 n) (by go_simp) ?_
      refine wpList_value rfl (v := .int .i64 q) (by go_simp) ?_
      refine wpList_value rfl (v := .pointer (some ⟨g, o + q * 8, none⟩)) (by go_simp) ?_
      refine wpList_load_agg rfl (.tmp 54) 56 rfl _ Try.underlying56 rfl (ys := s.cs) (by rw [SdV.cs_len]; kernel_rfl) (g := g) (off := o + q * 8) (by go_simp) hcs ?_
      refine wpList_alloc_at rfl _ rfl (Try.zeroSeed wr) ?_
      try rw [hB]
      refine wpList_store_at rfl (.tmp 13) (.tmp 55) _ rfl (g := B) (c := List.toArray [.int .i64 0, .int .i64 0, .int .i64 0, .int .i64 0, .int .u8 0, .int .u8 0, .int .u8 0, .slice none 0 0]) (ys := s.cs) (by go_simp) (by go_simp) (by rw [SdV.cs_len]; kernel_rfl) rfl s.one h6 ?_
      intro w5 h7
      have c7 : w5.cell? ⟨B, 7, none⟩ = some (.slice s.2.1 dl s.2.2) := by
        rw [← Hdl.out]
        exact At.cell h7 rfl
      clear h6 hcs hB
      by_cases hdb : 100 < dl
      · have hdz : 100 < (dl : Int) := by omega
        have hbel := (HF.out _ h7.r.r.r).below
        clear hdb
        go_wp2_with fail
        go_ret
        exact ⟨rfl, hbel⟩
      have hdz : ¬ 100 < (dl : Int) := by omega
      have hgood := Sd.good HsIn.out.1
      have hxl := Sd.rcd_len (s := s.1)
      have hrc := fun (R : HP) w' (hR : ∀ w', At W R w' → At W (old W * 1) w') (h : At W R w') => seedRec_v W w' R s (HsIn.out.of hR) (by rw [Hdl.out]; omega) h
      obtain ⟨x, hx⟩ : ∃ x, s.1.rcd = x := ⟨_, rfl⟩
      rw [hx] at hrc hgood hxl
      change ∀ (R : HP) w' (hR : ∀ w', At W R w' → At W (old W * 1) w') (h : At W R w'), Calls _ _ _ _ (fun e w' => ∃ a1 c1, e = .returned (.agg #[.int .i64 x.kind, .int .i64 x.txn, .int .i64 x.page, .int .i64 x.slot, .string x.before, .string x.after, .string x.image, .slice a1 x.dirty.length c1]) ∧ At W (row 33 1 (.slice a1 x.dirty.length c1) x.dirty.length (nus x.dirty) * R) w') at hrc
      have Hrc := hide hrc
      have Hgood := hide hgood
      have Hx := hide hx
      clear hrc hgood hx
      have hc1 := Hrc.out _ w5.drew (fun w' h' => HF.out _ h'.r.r.r) h7.drew
      change Calls _ _ #[.agg #[.int .i64 s.1.kind, .int .i64 s.1.txn, .int .i64 s.1.page, .int .i64 s.1.slot, .int .u8 s.1.before, .int .u8 s.1.after, .int .u8 s.1.image, .slice s.2.1 s.1.dirty.length s.2.2]] _ _ at hc1
      have hc2 := fun a1 c1 w6 (h8 : At W (row 33 1 (.slice a1 x.dirty.length c1) x.dirty.length (nus x.dirty) * (cel B s.cs.toArray 56 * (lan P2 D 0 L2 * (dsk D m * F)))) w6) => Hrc.out _ w6 (fun w' h' => HF.out _ h'.r.r.r.r) h8
      change ∀ (a1 : Option Addr) (c1 : Nat) (w6 : World) h8, Calls _ _ #[.agg #[.int .i64 s.1.kind, .int .i64 s.1.txn, .int .i64 s.1.page, .int .i64 s.1.slot, .int .u8 s.1.before, .int .u8 s.1.after, .int .u8 s.1.image, .slice s.2.1 s.1.dirty.length s.2.2]] _ _ at hc2
      clear hdb
      go_upto_region 14 with fail
      clear c7
      go_region_held3 (fun w' => w'.cell? ⟨B, 0, none⟩ = some (.int .i64 s.1.kind) ∧ w'.cell? ⟨B, 1, none⟩ = some (.int .i64 s.1.txn) ∧ w'.cell? ⟨B, 2, none⟩ = some (.int .i64 s.1.page) ∧ w'.cell? ⟨B, 3, none⟩ = some (.int .i64 s.1.slot) ∧ w'.cell? ⟨B, 4, none⟩ = some (.int .u8 s.1.before) ∧ w'.cell? ⟨B, 5, none⟩ = some (.int .u8 s.1.after) ∧ w'.cell? ⟨B, 6, none⟩ = some (.int .u8 s.1.image) ∧ w'.cell? ⟨B, 7, none⟩ = some (.slice s.2.1 s.1.dirty.length s.2.2)) (first | exact ⟨At.cell h7.drew rfl, At.cell h7.drew rfl, At.cell h7.drew rfl, At.cell h7.drew rfl, At.cell h7.drew rfl, At.cell h7.drew rfl, At.cell h7.drew rfl, At.cell h7.drew rfl⟩ | exact ⟨At.cell h8.pull2 rfl, At.cell h8.pull2 rfl, At.cell h8.pull2 rfl, At.cell h8.pull2 rfl, At.cell h8.pull2 rfl, At.cell h8.pull2 rfl, At.cell h8.pull2 rfl, At.cell h8.pull2 rfl⟩ | exact ⟨At.cell h9.pull3 rfl, At.cell h9.pull3 rfl, At.cell h9.pull3 rfl, At.cell h9.pull3 rfl, At.cell h9.pull3 rfl, At.cell h9.pull3 rfl, At.cell h9.pull3 rfl, At.cell h9.pull3 rfl⟩ | exact ⟨At.cell (At.r (At.alloc h9 _)).pull3 rfl, At.cell (At.r (At.alloc h9 _)).pull3 rfl, At.cell (At.r (At.alloc h9 _)).pull3 rfl, At.cell (At.r (At.alloc h9 _)).pull3 rfl, At.cell (At.r (At.alloc h9 _)).pull3 rfl, At.cell (At.r (At.alloc h9 _)).pull3 rfl, At.cell (At.r (At.alloc h9 _)).pull3 rfl, At.cell (At.r (At.alloc h9 _)).pull3 rfl⟩) (first | ((with_reducible refine hc1.mono ?_); rintro e w6 ⟨a1, c1, rfl, h8⟩) | ((with_reducible refine (hc2 a1 c1 w6 h8).mono ?_); rintro e w7 ⟨a2, c2, rfl, h9⟩))
      obtain ⟨NX, hNX⟩ : ∃ NX, w7.heap.size = NX := ⟨_, rfl⟩
      have h10 := ((h9.alloc' hNX (.cells #[.int .i64 x.kind, .int .i64 x.txn, .int .i64 x.page, .int .i64 x.slot, .string x.before, .string x.after, .string x.image, .slice a1 x.dirty.length c1, .int .i64 1, .int .i64 0, .int .i64 0, .int .i64 0, .string ⟨#[]⟩, .string ⟨#[]⟩, .string ⟨#[]⟩, .slice none 0 0, .int .i64 x.kind, .int .i64 x.txn, .int .i64 x.page, .int .i64 x.slot, .string x.before, .string x.after, .string x.image, .slice a2 x.dirty.length c2] 44)).cast (show _ = dsk D m * (lan P2 D 0 L2 * (cel NX #[.int .i64 x.kind, .int .i64 x.txn, .int .i64 x.page, .int .i64 x.slot, .string x.before, .string x.after, .string x.image, .slice a1 x.dirty.length c1, .int .i64 1, .int .i64 0, .int .i64 0, .int .i64 0, .string ⟨#[]⟩, .string ⟨#[]⟩, .string ⟨#[]⟩, .slice none 0 0, .int .i64 x.kind, .int .i64 x.txn, .int .i64 x.page, .int .i64 x.slot, .string x.before, .string x.after, .string x.image, .slice a2 x.dirty.length c2] 44 * (row 33 1 (.slice a2 x.dirty.length c2) x.dirty.length (nus x.dirty) * (row 33 1 (.slice a1 x.dirty.length c1) x.dirty.length (nus x.dirty) * F)))) * cel B s.cs.toArray 56 by unfold cel; ac_rfl)).l
      -- the new records
      obtain ⟨next, hnext⟩ : ∃ next : List RecV, [(x, a1, c1), rvCheck, (x, a2, c2)] = next := ⟨_, rfl⟩
      have hnl : next.length = 3 := by rw [← hnext]; rfl
      have hng : GoodV next := fun y hy => by
        rw [← hnext] at hy
        simp only [List.mem_cons, List.not_mem_nil, or_false] at hy
        rcases hy with rfl | rfl | rfl
        · exact Hgood.out
        · exact recCheck_good
        · exact Hgood.out
      have hnr : RecsIn W (cel NX #[.int .i64 x.kind, .int .i64 x.txn, .int .i64 x.page, .int .i64 x.slot, .string x.before, .string x.after, .string x.image, .slice a1 x.dirty.length c1, .int .i64 1, .int .i64 0, .int .i64 0, .int .i64 0, .string ⟨#[]⟩, .string ⟨#[]⟩, .string ⟨#[]⟩, .slice none 0 0, .int .i64 x.kind, .int .i64 x.txn, .int .i64 x.page, .int .i64 x.slot, .string x.before, .string x.after, .string x.image, .slice a2 x.dirty.length c2] 44 * (row 33 1 (.slice a2 x.dirty.length c2) x.dirty.length (nus x.dirty) * (row 33 1 (.slice a1 x.dirty.length c1) x.dirty.length (nus x.dirty) * F))) (some ⟨NX, 0, none⟩) next := ⟨.inr ⟨NX, 0, rfl, fun w' h' j u hu => by
          rw [Nat.zero_add]
          rw [← hnext] at hu
          exact At.cell h' (by simpa [RecV.cs, Rec.cells, rvCheck, recCheck] using hu)⟩, fun y hy w' h' => by
          rw [← hnext] at hy
          simp only [List.mem_cons, List.not_mem_nil, or_false] at hy
          rcases hy with rfl | rfl | rfl
          · exact h'.r.r.rd
          · exact .inl ⟨rfl, rfl⟩
          · exact h'.r.rd, fun y hy => (hng y hy).nums⟩
      have hnf : (encs next).length ≤ 14336 := by
        rw [encs_encR]
        have := encR_bound (l := next.map (·.1)) (fun y hy => by
          rw [List.mem_map] at hy
          obtain ⟨v, hv, rfl⟩ := hy
          exact hng v hv)
        rw [List.length_map, hnl] at this
        omega
      have Hnl := hide hnl
      have Hng := hide hng
      have Hnr := hide hnr
      have Hnf := hide hnf
      generalize hGG : (cel NX #[.int .i64 x.kind, .int .i64 x.txn, .int .i64 x.page, .int .i64 x.slot, .string x.before, .string x.after, .string x.image, .slice a1 x.dirty.length c1, .int .i64 1, .int .i64 0, .int .i64 0, .int .i64 0, .string ⟨#[]⟩, .string ⟨#[]⟩, .string ⟨#[]⟩, .slice none 0 0, .int .i64 x.kind, .int .i64 x.txn, .int .i64 x.page, .int .i64 x.slot, .string x.before, .string x.after, .string x.image, .slice a2 x.dirty.length c2] 44 * (row 33 1 (.slice a2 x.dirty.length c2) x.dirty.length (nus x.dirty) * (row 33 1 (.slice a1 x.dirty.length c1) x.dirty.length (nus x.dirty) * F))) = GG at *
      have hGF : ∀ w', At W GG w' → At W F w' := fun w' h' => by
        rw [← hGG] at h'
        exact h'.r.r.r
      have HGF := hide hGF
      have hnowR : RecsIn W GG a10 now := by
        rw [← hGG]
        exact ((Hnow.out.2.2.mono (B := row 33 1 (.slice a1 x.dirty.length c1) x.dirty.length (nus x.dirty))).mono (B := row 33 1 (.slice a2 x.dirty.length c2) x.dirty.length (nus x.dirty))).mono (B := cel NX #[.int .i64 x.kind, .int .i64 x.txn, .int .i64 x.page, .int .i64 x.slot, .string x.before, .string x.after, .string x.image, .slice a1 x.dirty.length c1, .int .i64 1, .int .i64 0, .int .i64 0, .int .i64 0, .string ⟨#[]⟩, .string ⟨#[]⟩, .string ⟨#[]⟩, .slice none 0 0, .int .i64 x.kind, .int .i64 x.txn, .int .i64 x.page, .int .i64 x.slot, .string x.before, .string x.after, .string x.image, .slice a2 x.dirty.length c2] 44)
      have HnowR := hide hnowR
      obtain ⟨k1, hk1, hk63⟩ := and63i dn
      clear h9 hnext hnl hng hnr hnf hGG hGF hnowR hc1 hc2
      go_upto_region 15 with fail
      try rw [hNX]
      generalize hW8 : w7.alloc _ = w8 at h10 ⊢
      clear hNX hW8
      have har := diskArm_any W w8 _ D m 0 (k1 : Int) (by omega) Hst2.out.rest.hr h10
      rw [Int.toNat_natCast] at har
      change Calls _ _ #[_, .int .i64 0, _] _ _ at har
      have hs2 := Hst2.out.arm Hst2.out.rest.hr true (n := k1) (by omega)
      have hwm : (m.setReg 0 ⟨(m.regs[0]'Hst2.out.rest.hr).waits, true, k1⟩).writes = m.writes := rfl
      generalize m.setReg 0 _ = m2 at har hs2 hwm
      clear h10
      go_wp2_with fail
      refine har.mono ?_
      rintro e w9 ⟨rfl, h11⟩
      clear har hk1
      have han := laneAnew_any W w9 GG P2 D 0 L2 m2 (some ⟨NX, 0, none⟩) 3 next hs2.rest.hr (by have := Hg2.out; omega) (by rw [Hnl.out]; decide) (by omega) Hnr.out h11.pull2
      rw [Hnl.out] at han
      obtain ⟨g1, g2, g3, g4, g5, g6, g7, g8⟩ := hs2.anew (by have := Hg2.out; omega) Hng.out Hnf.out
      have hgen0 := hs2.rest.gen0
      have hbk := hs2.rest.bankle
      generalize hfr : L2.anew m2 0 next = fr at han g1 g3 g4 g6 g7 g8
      obtain ⟨cd, L3, m3⟩ := fr
      simp only at han g1 g3 g4 g6 g7 g8
      -- what a crash leaves
      have hout : ∀ mk, ∃ gen bank gl, RestF ((m3.crash mk).dat 0) gen bank (encR gl) ∧ (m3.crash mk).wts 0 = [] ∧ (m3.crash mk).armd 0 = false ∧ 0 < gen ∧ gen ≤ i + 2 ∧ bank ≤ 1 ∧ (encR gl).length ≤ 14336 ∧ (∀ y ∈ gl, Good y) ∧ (gl = next.map (·.1) ∨ gl = now.map (·.1) ∧ cd = 10) := fun mk => by
        have hngL : ∀ y ∈ next.map (·.1), Good y := fun y hy => by
          rw [List.mem_map] at hy
          obtain ⟨v, hv, rfl⟩ := hy
          exact Hng.out v hv
        have hnfL : (encR (next.map (·.1))).length ≤ 14336 := by rw [← encs_encR]; exact Hnf.out
        have hnt : (now.map (·.1)).take now.length = now.map (·.1) := List.take_of_length_le (by simp)
        by_cases h0 : cd = 0
        · obtain ⟨g9, g10⟩ := g7 h0
          obtain ⟨c1, c2⟩ := g9.crashed mk
          have hr := c1.rest'
          rw [List.take_of_length_le (by simp)] at hr
          exact ⟨L3.gen, L3.bank, next.map (·.1), hr, c1.rest.wts, c2, by omega, by have := Hg2.out; omega, g9.rest.bankle, hnfL, hngL, .inl rfl⟩
        · obtain ⟨g9, g10⟩ := g8 h0
          obtain ⟨c1, c2, c3⟩ := g10.crash mk
          rcases c1 with c1 | c1
          · rw [hnt] at c1
            exact ⟨L2.gen, L2.bank, now.map (·.1), c1, c2, c3, hgen0, by have := Hg2.out; omega, hbk, hs2.len, hs2.good, .inr ⟨rfl, g1.resolve_left h0⟩⟩
          · exact ⟨L2.gen + 1, 1 - L2.bank, next.map (·.1), c1, c2, c3, by omega, by have := Hg2.out; omega, by omega, hnfL, hngL, .inl rfl⟩
      have Hout := hide hout
      have hr3 : 0 < m3.regs.length := by rw [g3.regs]; exact hs2.rest.hr
      have hs3 : 514 ≤ m3.size := by rw [g3.size]; exact hs2.rest.size
      have hw3 : m3.writes ≤ 1040 + 1200 * i := by omega
      obtain ⟨mk, hmk⟩ : ∃ mk, mask / 2 ^ i = mk := ⟨_, rfl⟩
      have hmk64 : mk < 18446744073709551616 := by rw [← hmk]; exact Nat.lt_of_le_of_lt (Nat.div_le_self _ _) Hmask.out
      have hmkz : (mask : Int) / 2 ^ i = (mk : Int) := by rw [← hmk]; simp
      have Hg4 := hide g4
      have Hg1 := hide g1
      clear g2 g3 g5 g6 g7 g8 hs2 hwm hfr hout h11 hgen0 hbk g4
      go_wp2_with fail
      refine han.mono ?_
      rintro e w10 ⟨rfl, h12⟩
      clear han
      have hcr := diskCrash_any W w10 _ D m3 mk hmk64 (by omega) h12.pull2
      obtain ⟨gen, bank, gl, q1, q2, q3, q4, q5, q6, q7, q8, q9⟩ := Hout.out mk
      obtain ⟨c1, c2, c3, c4, _⟩ := Dk.crash_at (mask := mk) Hg4.out
      have hr8 : 0 < (m3.crash mk).regs.length := by rw [c2]; exact hr3
      have hsz8 : 514 ≤ (m3.crash mk).size := by rw [c3]; exact hs3
      have hwr8 : (m3.crash mk).writes ≤ 1040 + 1200 * i := by rw [c4]; exact hw3
      generalize m3.crash mk = m4 at *
      clear h12 c2 c3 c4 Hout hr3 hs3 hw3 Hg4
      go_wp2_with fail
      refine hcr.mono ?_
      rintro e w11 ⟨rfl, h13⟩
      clear hcr hmkz hmk64 hmk
      have hop := laneOpen_rest W w11 _ D 0 m4 c1 hr8 hsz8 q2 q3 q4 (by omega) q6 q7 q8 q1 (by omega) h13
      change Calls _ _ #[_, .int .i64 0] _ _ at hop
      clear h13 c1 hr8 hsz8 q1 q2 q3
      go_wp2_with fail
      refine hop.mono ?_
      rintro e w12 ⟨P4, ae, ce, es, m5, rfl, hel, hes, hs5, hsm5, hun5, hwr5, h14⟩
      clear hop
      have hnow3 : now.length ≤ 3 := Hnow.out.1
      have hgl3 : gl.length ≤ 3 := by
        rcases q9 with rfl | ⟨rfl, _⟩
        · rw [List.length_map, Hnl.out]; decide
        · rw [List.length_map]; exact hnow3
      have hE := (EntsIn.of_row rfl h14.r).mono (B := lan P4 D 0 ⟨gen, bank, encR gl, (encR gl).length⟩)
      have hedl : ∀ y ∈ es, y.2.1.dirty.length ≤ 1000000 := fun y hy => by
        have h1 : y.2.1 ∈ es.map (·.2.1) := List.mem_map.2 ⟨y, hy, rfl⟩
        rw [places_good hes] at h1
        have := (hs5.good _ h1).dirty
        omega
      have hRn := ((((Hnr.out.mono (B := lan P2 D 0 L3)).mono (B := dsk D m5)).mono (B := dirts es)).mono (B := row 52 9 (.slice ae es.length ce) es.length (es.flatMap EntV.cs))).mono (B := lan P4 D 0 ⟨gen, bank, encR gl, (encR gl).length⟩)
      have hRo := ((((HnowR.out.mono (B := lan P2 D 0 L3)).mono (B := dsk D m5)).mono (B := dirts es)).mono (B := row 52 9 (.slice ae es.length ce) es.length (es.flatMap EntV.cs))).mono (B := lan P4 D 0 ⟨gen, bank, encR gl, (encR gl).length⟩)
      have hst1 := lawStarts_any W w12 _ ae (some ⟨NX, 0, none⟩) ce 3 es next (by rw [hel]; omega) (by rw [Hnl.out]; decide) hedl hE hRn h14
      have hst2 := fun w13 (h15 : At W (lan P4 D 0 ⟨gen, bank, encR gl, (encR gl).length⟩ * (row 52 9 (.slice ae es.length ce) es.length (es.flatMap EntV.cs) * (dirts es * (dsk D m5 * (lan P2 D 0 L3 * GG))))) w13) => lawStarts_any W w13 _ ae a10 ce c10 es now (by rw [hel]; omega) (by omega) hedl hE hRo h15
      rw [places_good hes, Hnl.out] at hst1
      rw [places_good hes] at hst2
      have Hs5 := hide hs5
      have Hun5 := hide hun5
      have hwr6 : m5.writes ≤ 520 + 1200 * (i + 1) := by omega
      clear hE hedl hRn hRo hs5 hsm5 hun5 hes hwr5 hwr8 q4 q6 q7 q8
      by_cases hgl : gl = next.map (·.1)
      · subst hgl
        have hel3 : es.length = 3 := by rw [hel, List.length_map, Hnl.out]
        have hres : startsB (next.map (·.1)) (next.map (·.1)) = true := startsB_self _
        rw [hres, hel3] at hst1
        rw [hel3] at h14
        clear hst2 hres hel q9
        rw [hel3]
        have hout : ∀ w13, At W (lan P4 D 0 ⟨gen, bank, encR (next.map (·.1)), (encR (next.map (·.1))).length⟩ * (row 52 9 (.slice ae 3 ce) 3 (es.flatMap EntV.cs) * (dirts es * (dsk D m5 * (lan P2 D 0 L3 * GG))))) w13 → At W (lan P4 D 0 ⟨gen, bank, encR (next.map (·.1)), (encR (next.map (·.1))).length⟩ * (dsk D m5 * GG)) w13 := fun w13 h => (h.cast (show _ = lan P4 D 0 ⟨gen, bank, encR (next.map (·.1)), (encR (next.map (·.1))).length⟩ * (dsk D m5 * GG) * (row 52 9 (.slice ae 3 ce) 3 (es.flatMap EntV.cs) * (dirts es * lan P2 D 0 L3)) by ac_rfl)).l
        have hlst := Hs5.out
        rw [show (next.map (·.1)).length = next.length by simp] at hlst
        have Hlst := hide hlst
        have Hout := hide hout
        clear h14 hlst hout
        rcases Hg1.out with hcd | hcd
        all_goals
          subst hcd
          go_wp2_with fail
          refine hst1.mono ?_
          rintro e w13 ⟨rfl, h15⟩
          have hfin := Hout.out w13 h15
          clear hst1 h15
          go_wp2_with fail
          go_roundw
          case rel => exact ⟨i + 1, P4, _, m5, next, some ⟨NX, 0, none⟩, 3, GG, by omega, by go_num, rfl, by rw [Hnl.out], hide ⟨by rw [Hnl.out]; decide, Hng.out, Hnr.out⟩, hide fun w' h' => HF.out _ (HGF.out w' h'), hide (Hlst.out), Hun5, hide q5, by omega, hfin⟩
          case measure => simp [intOf]; omega
      · obtain ⟨rfl, rfl⟩ := q9.resolve_left hgl
        have hel3 : es.length = now.length := by rw [hel, List.length_map]
        have hres : startsB (now.map (·.1)) (now.map (·.1)) = true := startsB_self _
        rw [hres] at hst2
        rw [hel3] at hst1 hst2 h14 ⊢
        have hout : ∀ w13, At W (lan P4 D 0 ⟨gen, bank, encR (now.map (·.1)), (encR (now.map (·.1))).length⟩ * (row 52 9 (.slice ae now.length ce) now.length (es.flatMap EntV.cs) * (dirts es * (dsk D m5 * (lan P2 D 0 L3 * GG))))) w13 → At W (lan P4 D 0 ⟨gen, bank, encR (now.map (·.1)), (encR (now.map (·.1))).length⟩ * (dsk D m5 * GG)) w13 := fun w13 h => (h.cast (show _ = lan P4 D 0 ⟨gen, bank, encR (now.map (·.1)), (encR (now.map (·.1))).length⟩ * (dsk D m5 * GG) * (row 52 9 (.slice ae now.length ce) now.length (es.flatMap EntV.cs) * (dirts es * lan P2 D 0 L3)) by ac_rfl)).l
        have hlst := Hs5.out
        rw [show (now.map (·.1)).length = now.length by simp] at hlst
        have Hlst := hide hlst
        have Hout := hide hout
        have hnb : (((now.length : Int)) != ((now.length : Int))) = false := by simp
        by_cases hl3 : now.length = 3
        · have hres1 : startsB (now.map (·.1)) (next.map (·.1)) = false := by
            unfold startsB
            refine decide_eq_false fun hh => hgl ?_
            rw [← hh.2, List.take_of_length_le (by rw [List.length_map, List.length_map, Hnl.out, hl3]; decide)]
          rw [hres1] at hst1
          have hl3z : ((now.length : Int) == 3) = true := by rw [hl3]; rfl
          clear hgl hres hres1 hlst hout hel hel3 hl3
          go_wp2_with fail
          refine hst1.mono ?_
          rintro e w13 ⟨rfl, h15⟩
          clear hst1
          have hst3 := hst2 w13 h15
          clear h15 h14 hst2
          go_wp2_with fail
          refine hst3.mono ?_
          rintro e w14 ⟨rfl, h16⟩
          have hfin := Hout.out w14 h16
          clear hst3 h16
          go_wp2_with fail
          go_roundw
          case rel => exact ⟨i + 1, P4, _, m5, now, a10, c10, GG, by omega, by go_num, rfl, rfl, hide ⟨Hnow.out.1, Hnow.out.2.1, HnowR.out⟩, hide fun w' h' => HF.out _ (HGF.out w' h'), hide (Hlst.out), Hun5, hide q5, by omega, hfin⟩
          case measure => simp [intOf]; omega
        · have hl3z : ((now.length : Int) == 3) = false := by
            simp
            omega
          have hst3 := hst2 w12 h14
          clear hgl hres hlst hout hel hel3 hl3 hst1 hst2 h14
          go_wp2_with fail
          refine hst3.mono ?_
          rintro e w14 ⟨rfl, h16⟩
          have hfin := Hout.out w14 h16
          clear hst3 h16
          go_wp2_with fail
          go_roundw
          case rel => exact ⟨i + 1, P4, _, m5, now, a10, c10, GG, by omega, by go_num, rfl, rfl, hide ⟨Hnow.out.1, Hnow.out.2.1, HnowR.out⟩, hide fun w' h' => HF.out _ (HGF.out w' h'), hide (Hlst.out), Hun5, hide q5, by omega, hfin⟩
          case measure => simp [intOf]; omega
    · obtain rfl : i = k := by omega
      have hiz : ¬ ((i : Int) < (i : Int)) := by omega
      have hbel := (HF.out _ h5.r.r).below
      go_wp2_with fail
      go_ret
      exact ⟨rfl, hbel⟩
end Go.Proofs.Ytgkibjjcdcpkfaa
