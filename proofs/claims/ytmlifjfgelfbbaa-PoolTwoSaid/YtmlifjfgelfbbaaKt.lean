/-
  Layer 8's kept: a page as the disk has it: a contract, no statement.
-/
import Derived.Test.YtmlifjfgelfbbaaGp
import Derived.Test.YtmlifjfgelfbbaaEE
import Derived.Test.YtmlifjfgelfbbaaFr
namespace Go.Proofs.Ytmlifjfgelfbbaa
open Go Go.RowKit

set_option maxRecDepth 100000 in
set_option maxHeartbeats 8000000 in
theorem poolKept_any (w0 w : World) (R : HP) (d : Nat) (m : Dk) (n : Nat) (hr : 0 < m.regs.length) (hn : n < 6) (hsz : 538 ≤ m.size) (hsz2 : m.size ≤ 65536) (hwn : m.writes ≤ 1000000000) (h : At w0 (dsk d m * R) w) :
    Calls Try.prog 26 #[.pointer (some ⟨d, 0, none⟩), .int .i64 n] w fun e w' => e = .returned (.tuple #[.agg (decPg (m.page 0 n) 0 n).cells.toArray, .bool (decOk (m.page 0 n) 0 n)]) ∧ At w0 (dsk d m * R) w' := by
  obtain ⟨i0, hi0, hz0, hz1, hz2⟩ := info_parts Try.info8
  have hwf := h.dsk_open.1
  have hpz : pgAt n = 514 + 4 * n := rfl
  have hlen := rdP_len (n := n) hwf hr (by omega)
  have hbl : (m.page 0 n).length = 256 := by rw [← rdP_page, hlen 4 (by decide)]
  have Hlen := hide hlen
  have Hpg := hide (rdP_page m 0 n)
  obtain ⟨bs, hbs⟩ : ∃ bs, m.page 0 n = bs := ⟨_, rfl⟩
  rw [hbs] at hbl ⊢
  rw [hbs] at Hpg
  obtain ⟨pg, hpg⟩ : ∃ p, decPg bs 0 n = p := ⟨_, rfl⟩
  obtain ⟨ok, hok⟩ : ∃ p, decOk bs 0 n = p := ⟨_, rfl⟩
  rw [hpg, hok]
  have hDs : pg.slots.length = 200 := by
    rw [← hpg]
    unfold decPg
    split
    · exact (Pg.dec_wf hbl (by decide) (by omega)).slots
    · exact zs_len 200
  have hE : decE bs 0 n = if ok then 0 else 11 := by rw [← hok]; rfl
  have HE := hide hE
  have Hpgd := hide hpg
  clear hbs hpg hok hlen hE
  obtain ⟨X, hX⟩ : ∃ N, w.heap.size = N := ⟨_, rfl⟩
  have h1 : At w0 (pgB X pg0 * (dsk d m * R)) (w.alloc (.cells pg0.cells.toArray 41)) := h.alloc' hX _
  clear h
  go_enter Try.func26, Try.ntmps26
  go_upto_region 0 with fail
  refine wp_region_lit ?_
  refine wpList_alloc_at rfl _ rfl (Try.zeroPage w) ?_
  rw [hX]
  generalize hw1 : w.alloc _ = w1 at h1 ⊢
  clear hw1 hX
  go_upto_region 1 with fail
  have h1 := h1.row_nil 5 1
  go_wp2_with fail
  go_loopw [6, 12] (fun u6 u12 wr => ∃ (i : Nat) (ar : Option Addr) (cp : Nat), i ≤ 4 ∧ u12 = .int .i64 i ∧ u6 = .slice ar (64 * i) cp ∧ At w0 (row 5 1 (.slice ar (64 * i) cp) (64 * i) (bys (rdP m 0 n i)) * (pgB X pg0 * (dsk d m * R))) wr) (fun _ u _ => 4 - (intOf u).toNat)
  case atStart => exact ⟨0, none, 0, Nat.zero_le _, rfl, rfl, h1⟩
  case round =>
    obtain ⟨i, ar, cp, hi, rfl, rfl, h2⟩ := hrel
    clear h1
    by_cases hil : i < 4
    · have hilz : (i : Int) < 4 := by omega
      obtain ⟨s, hs⟩ : ∃ s, 514 + 4 * n + i = s := ⟨_, rfl⟩
      have e3 : (514 : Int) + 4 * (n : Int) + (i : Int) = (s : Int) := by omega
      have g1 := IntWalk.i64_in (4 * (n : Int)) (by omega)
      have g2 := IntWalk.i64_in (514 + 4 * (n : Int)) (by omega)
      have g3 := IntWalk.i64_in (s : Int) (by omega)
      have hrd := diskRead_in w0 wr _ d m 0 s hr (by omega) hwn (h2.cast (show _ = dsk d m * (row 5 1 (.slice ar (64 * i) cp) (64 * i) (bys (rdP m 0 n i)) * (pgB X pg0 * R)) by ac_rfl))
      have hsl : (m.sec 0 s).length = 64 := m.sec_len hwf hr (by omega)
      have Hsl := hide hsl
      have Hs := hide hs
      change Calls _ _ #[_, .int .i64 0, _] _ _ at hrd
      clear hsl h2 hs
      go_wp2_with fail
      refine hrd.mono ?_
      rintro e w2 ⟨a2, c2, rfl, h4⟩
      have h5 := h4.cast (show _ = row 5 1 (.slice ar (64 * i) cp) (64 * i) (bys (rdP m 0 n i)) * (row 5 1 (.slice a2 64 c2) 64 (bys (m.sec 0 s)) * (pgB X pg0 * (dsk d m * R))) by ac_rfl)
      clear hrd h4 g1 g2 g3 e3
      go_wp2_with (at_builtin; go_loud (refine wpList_append_rdm rfl (.tmp 25) (.tmp 26) 32 rfl 5 i0 _ 1 Try.underlying32 hi0 hz0 hz1 hz2 rfl rfl rfl h5 h5.pull2.rd (bys_one _) (by unfold maxLen; rw [bys_len, Hsl.out]; omega) (by rw [bys_len, Hsl.out]; omega) (64 * (i + 1)) (bys (rdP m 0 n (i + 1))) (by rw [bys_len, Hsl.out]; omega) (by rw [rdP, bys_append, hpz, Hs.out]) ?_))
      intro a3 c3 w3 h6
      have h7 := (h6.cast (show _ = row 5 1 (.slice a3 (64 * (i + 1)) c3) (64 * (i + 1)) (bys (rdP m 0 n (i + 1))) * (pgB X pg0 * (dsk d m * R)) * row 5 1 (.slice a2 64 c2) 64 (bys (m.sec 0 s)) by ac_rfl)).l
      clear h5 h6
      go_wp2_with fail
      go_roundw
      case rel => exact ⟨i + 1, a3, c3, by omega, by go_num, rfl, h7⟩
      case measure => simp [intOf] <;> omega
    · obtain rfl : i = 4 := by omega
      rw [Hpg.out] at h2
      have hdc := pageDecode_any w0 wr _ ar cp bs 0 n hbl (by decide) (by omega) (fun w' h' => At.rd h') h2
      rw [HE.out, Hpgd.out] at hdc
      change Calls _ _ #[.slice ar 256 cp, .int .i64 0, _] _ _ at hdc
      obtain ⟨E, hE⟩ : ∃ E : Int, (((if ok then 0 else 11 : Nat) : Nat) : Int) = E := ⟨_, rfl⟩
      rw [hE] at hdc
      have HE2 := hide hE
      clear hE
      go_wp2_with fail
      refine hdc.mono ?_
      rintro e w3 ⟨rfl, h3⟩
      clear hdc h2
      have hX := h3.alloc (.cells pg0.cells.toArray 41)
      go_wp2_with (first | refine wpList_alloc_at rfl 41 rfl (Try.zeroPage _) ?_ | refine Try.wpList_storePg rfl (.tmp 10) (.tmp 33) rfl (q := pg0) (q' := pg) (zs_len 200) hDs rfl rfl hX ?_)
      intro w4 h4
      clear h3 hX
      have h5 := h4.cast (show _ = pgB X pg0 * (pgB w3.heap.size pg * (dsk d m * (row 5 1 (.slice ar 256 cp) 256 (bys bs) * R))) by ac_rfl)
      cases ok with
      | false =>
        obtain rfl : E = 11 := by rw [← HE2.out]; rfl
        clear HE HE2 Hpgd hpz
        go_upto_region 9 with fail
        refine wp_region_lit ?_
        refine wpList_value rfl (exec_load rfl rfl (Try.loadPg hDs h4)) ?_
        go_wp2_with (refine Try.wpList_storePg rfl (.tmp 4) (.tmp 35) rfl (q := pg0) (q' := pg) (zs_len 200) hDs rfl rfl h5 ?_)
        intro w6 h6
        have hld := Try.loadPg hDs h6
        have h7 := (h6.cast (show _ = dsk d m * R * (pgB X pg * (pgB w3.heap.size pg * row 5 1 (.slice ar 256 cp) 256 (bys bs))) by ac_rfl)).l
        clear h4 h5 h6
        go_wp2_with fail
        refine bodyPost_ret (v := .tuple #[.agg pg.cells.toArray, .bool false]) (results_cell_tmp rfl rfl rfl hld) rfl ?_
        exact ⟨rfl, h7⟩
      | true =>
        obtain rfl : E = 0 := by rw [← HE2.out]; rfl
        clear HE HE2 Hpgd hpz
        go_upto_region 9 with fail
        refine wp_region_lit ?_
        refine wpList_value rfl (exec_load rfl rfl (Try.loadPg hDs h4)) ?_
        go_wp2_with (refine Try.wpList_storePg rfl (.tmp 4) (.tmp 35) rfl (q := pg0) (q' := pg) (zs_len 200) hDs rfl rfl h5 ?_)
        intro w6 h6
        have hld := Try.loadPg hDs h6
        have h7 := (h6.cast (show _ = dsk d m * R * (pgB X pg * (pgB w3.heap.size pg * row 5 1 (.slice ar 256 cp) 256 (bys bs))) by ac_rfl)).l
        clear h4 h5 h6
        go_wp2_with fail
        refine bodyPost_ret (v := .tuple #[.agg pg.cells.toArray, .bool true]) (results_cell_tmp rfl rfl rfl hld) rfl ?_
        exact ⟨rfl, h7⟩
end Go.Proofs.Ytmlifjfgelfbbaa
