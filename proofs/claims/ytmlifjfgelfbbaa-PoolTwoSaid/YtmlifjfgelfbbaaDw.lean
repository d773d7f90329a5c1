/-
  The package disk: Write: what it comes to, in terms of blocks: contracts, no statement.
-/
import Derived.Test.YtmlifjfgelfbbaaDr
import Derived.Test.YtmlifjfgelfbbaaDD
import Derived.Deep.DeepCutAuto
namespace Go.Proofs.Ytmlifjfgelfbbaa
open Go Go.RowKit

theorem Rd.alloc {w : World} {v : Value} {xs : List Value} (h : Rd w v xs) (o : Obj) : Rd (w.alloc o) v xs := by
  rcases h with ⟨hv, hx0⟩ | ⟨g1, o1, c1, hv, hc1, hr1⟩
  · exact .inl ⟨hv, hx0⟩
  · refine .inr ⟨g1, o1, c1, hv, hc1, fun j u hu => ?_⟩
    have := hr1 j u hu
    rw [World.cell?_alloc_old _ _ _ (Nat.ne_of_lt (World.block_lt_of_cell? w _ this))]
    exact this
def zbys (n : Nat) : List UInt8 := List.replicate n 0
def pad (x : List UInt8) : List UInt8 := x ++ zbys (64 - x.length)
theorem pad_len {x : List UInt8} (h : x.length ≤ 64) : (pad x).length = 64 := by unfold pad zbys; simp; omega
/-- A region behind a write. -/
def Reg.write (r : Reg) (s : Nat) (x : List UInt8) : Reg := ⟨r.waits ++ [(s, pad x)], r.armed, if r.armed then r.left - 1 else r.left⟩
def Dk.write (m : Dk) (r s : Nat) (x : List UInt8) : Dk := { m with regs := m.regs.modify r (fun g => g.write s x), writes := m.writes + 1 }
theorem Dk.Wf.write {m : Dk} (hm : m.Wf) {r s : Nat} {x : List UInt8} (hs : s < m.size) (hx : x.length ≤ 64) : (m.write r s x).Wf := by
  refine ⟨by simp [Dk.write, hm.data], by simpa [Dk.write] using hm.regs, hm.size0, hm.size, hm.secs, fun y hy => ?_, fun y hy => ?_⟩
  rotate_left
  · obtain ⟨i, hi, rfl⟩ := List.mem_iff_getElem.1 hy
    simp only [Dk.write, List.length_modify] at hi
    simp only [Dk.write, List.getElem_modify]
    have hw := hm.lefts _ (List.getElem_mem hi)
    split
    · simp only [Reg.write]; split <;> omega
    · exact hw
  obtain ⟨i, hi, rfl⟩ := List.mem_iff_getElem.1 hy
  simp only [Dk.write, List.length_modify] at hi
  simp only [Dk.write, List.getElem_modify]
  have hw := hm.waits _ (List.getElem_mem hi)
  split
  · refine ⟨by simp [Reg.write]; omega, fun p hp => ?_⟩
    simp only [Reg.write, List.mem_append, List.mem_singleton] at hp
    rcases hp with hp | rfl
    · exact hw.2 p hp
    · exact ⟨pad_len hx, hs⟩
  · exact ⟨by omega, hw.2⟩

theorem rgcs_waits : ∀ {rs : List Reg} {vs : List Value} {i : Nat} (hi : i < rs.length) (_hv : vs.length = rs.length) (ws : List (Nat × List UInt8)) (v : Value), (rgcs rs vs).set (i * 3) v = rgcs (rs.set i ⟨ws, rs[i].armed, rs[i].left⟩) (vs.set i v)
  | [], _, _, hi, _, _, _ => by simp at hi
  | _ :: rs, [], _, _, hv, _, _ => by simp at hv
  | _ :: rs, _ :: vs, 0, _, _, _, _ => rfl
  | r0 :: rs, v0 :: vs, i + 1, hi, hv, ws, v => by
    have := rgcs_waits (rs := rs) (vs := vs) (i := i) (by simpa using hi) (by simpa using hv) ws v
    have e : (i + 1) * 3 = i * 3 + 3 := by omega
    rw [e]
    show v0 :: .bool r0.armed :: .int .i64 r0.left :: (rgcs rs vs).set (i * 3) v = _
    rw [this]
    rfl
theorem rgcs_left : ∀ {rs : List Reg} {vs : List Value} {i : Nat} (hi : i < rs.length) (_hv : vs.length = rs.length) (ws : List (Nat × List UInt8)) (l : Nat) (v : Value), ((rgcs rs vs).set (i * 3 + 2) (.int .i64 l)).set (i * 3) v = rgcs (rs.set i ⟨ws, rs[i].armed, l⟩) (vs.set i v)
  | [], _, _, hi, _, _, _, _ => by simp at hi
  | _ :: rs, [], _, _, hv, _, _, _ => by simp at hv
  | _ :: rs, _ :: vs, 0, _, _, _, _, _ => rfl
  | r0 :: rs, v0 :: vs, i + 1, hi, hv, ws, l, v => by
    have := rgcs_left (rs := rs) (vs := vs) (i := i) (by simpa using hi) (by simpa using hv) ws l v
    have e : (i + 1) * 3 = i * 3 + 3 := by omega
    rw [e]
    show v0 :: .bool r0.armed :: .int .i64 r0.left :: ((rgcs rs vs).set (i * 3 + 2) (.int .i64 l)).set (i * 3) v = _
    rw [this]
    rfl
theorem modify_set {α : Type} {l : List α} {i : Nat} (hi : i < l.length) (f : α → α) : l.modify i f = l.set i (f l[i]) := by
  apply List.ext_getElem
  · simp
  · intro j h1 h2
    simp only [List.getElem_modify, List.getElem_set]
    split
    · rename_i h; subst h; rfl
    · rfl
theorem At.write_done {w0 w : World} {R : HP} {b : Nat} {m : Dk} {r s : Nat} {x : List UInt8} {v dv rv : Value} {vs : List Value} (hr : r < m.regs.length) (hv : vs.length = m.regs.length) (hm : (m.write r s x).Wf)
    (h : At w0 (cel b #[.int .i64 m.size, dv, rv, .int .i64 (m.writes + 1 : Nat)] 82 * (row 96 64 dv m.data.length (secs m.data) * (row 95 3 rv m.regs.length (rgcs (m.regs.set r (m.regs[r].write s x)) (vs.set r v)) * (row 98 65 v (m.regs[r].write s x).waits.length (wcss (m.regs[r].write s x).waits) * (rgsX r m.regs vs * R))))) w) : At w0 (dsk b (m.write r s x) * R) w := by
  refine At.dsk_shut (dv := dv) (rv := rv) (vs := vs.set r v) hm (by simp [Dk.write, hv]) (h.cast ?_)
  simp only [Dk.write, modify_set hr, List.length_set, rgsP_set hr hv]
  ac_rfl

theorem diskWrite_out (w0 w : World) (R : HP) (b : Nat) (m : Dk) (r s : Nat) (v : Value) (hv : ∃ a n c, v = .slice a n c) (hr : r < m.regs.length) (hs : m.size ≤ s) (h : At w0 (dsk b m * R) w) :
    Calls Try.prog 12 #[.pointer (some ⟨b, 0, none⟩), .int .i64 r, .int .i64 s, v] w fun e w' => e = .returned (.int .i64 1) ∧ w = w' := by
  obtain ⟨a, n, c, rfl⟩ := hv
  have hat := diskAt_out w0 w R b m r s hr hs h
  clear h
  go_enter Try.func12, Try.ntmps12
  go_wp2_with fail
  refine hat.mono ?_
  rintro e w1 ⟨rfl, rfl⟩
  go_wp2_with fail
  go_ret
  exact ⟨rfl, rfl⟩
theorem diskWrite_down (w0 w : World) (R : HP) (b : Nat) (m : Dk) (r s : Nat) (a : Option Addr) (n c : Nat) (hn : n ≤ 64) (hr : r < m.regs.length) (hs : s < m.size) (hd : m.regs[r].down = true) (h : At w0 (dsk b m * R) w) :
    Calls Try.prog 12 #[.pointer (some ⟨b, 0, none⟩), .int .i64 r, .int .i64 s, .slice a n c] w fun e w' => e = .returned (.int .i64 10) ∧ w = w' := by
  have hat := diskAt_in w0 w R b m r s hr hs h
  have hdn := diskDown_any w0 w R b m r hr h
  rw [hd] at hdn
  generalize r * m.size + s = q at *
  clear h
  go_enter Try.func12, Try.ntmps12
  go_wp2_with fail
  refine hat.mono ?_
  rintro e w1 ⟨rfl, rfl⟩
  go_wp2_with fail
  refine hdn.mono ?_
  rintro e w1 ⟨rfl, rfl⟩
  go_wp2_with fail
  go_ret
  exact ⟨rfl, rfl⟩
theorem Try.infoWr : (Try.prog.info? 98).map (fun i => (i.zero.map (·.cells.size), i.size, i.bytes)) = some (some 65, 65, 72) := by kernel_rfl
theorem info_wr {P : Program} {t : TypeId} {s : Nat} {sz by' : Nat} (h : (P.info? t).map (fun i => (i.zero.map (·.cells.size), i.size, i.bytes)) = some (some s, sz, by')) : ∃ i z, P.info? t = some i ∧ i.zero = some z ∧ z.cells.size = s ∧ i.size = sz ∧ i.bytes = by' := by
  cases hq : P.info? t with
  | none => rw [hq] at h; cases h
  | some i =>
    rw [hq] at h
    simp only [Option.map_some, Option.some.injEq, Prod.mk.injEq] at h
    cases hz : i.zero with
    | none => rw [hz] at h; cases h.1
    | some z => rw [hz] at h; exact ⟨i, z, rfl, hz, by simpa using h.1, h.2.1, h.2.2⟩

theorem Try.zeroWr (w : World) : (zeroValue 98).run Try.prog w = .ok (.agg (.int .i64 0 :: List.replicate 64 (.int .u8 0)).toArray) w := by kernel_rfl
theorem Try.buildWr (s : Int) (w : World) : (Instr.build 98 #[(0, .int .i64 s)]).run Try.prog w = .ok (.agg (.int .i64 s :: List.replicate 64 (.int .u8 0)).toArray) w := by kernel_rfl
theorem wr_zero (s : Nat) : (Value.int .i64 s :: List.replicate 64 (.int .u8 0)) = wcs (s, zbys 64) := by
  unfold wcs bys zbys
  rw [List.map_replicate]
  rfl

set_option maxRecDepth 100000 in
set_option maxHeartbeats 4000000 in
theorem diskWrite_ok (w0 w : World) (R : HP) (b : Nat) (m : Dk) (r s : Nat) (a : Option Addr) (c : Nat) (x : List UInt8) (hx : x.length ≤ 64) (hA : RdIn w0 R (.slice a x.length c) x) (hr : r < m.regs.length) (hs : s < m.size) (hwn : m.writes ≤ 1000000000) (hd : m.regs[r].down = false) (h : At w0 (dsk b m * R) w) :
    Calls Try.prog 12 #[.pointer (some ⟨b, 0, none⟩), .int .i64 r, .int .i64 s, .slice a x.length c] w fun e w' => e = .returned (.int .i64 0) ∧ At w0 (dsk b (m.write r s x) * R) w' := by
  obtain ⟨i0, z1, hi0, hz0, hz1, hz2, hz3⟩ := info_wr Try.infoWr
  have hat := diskAt_in w0 w R b m r s hr hs h
  have hdn := diskDown_any w0 w R b m r hr h
  rw [hd] at hdn
  obtain ⟨hm, dv, rv, vs, hvs, h1⟩ := h.dsk_open
  have hwt := hm.waits _ (List.getElem_mem hr)
  obtain ⟨g, rc, rfl, hrc, hcell⟩ := h1.pull3.row_ptr (by omega)
  obtain ⟨e0, e1, e2⟩ := rgcs_at hr hvs
  have d0 := hcell _ _ e0
  have d1 := hcell _ _ e1
  have d2 := hcell _ _ e2
  have h3 := h1
  rw [rgsP_get hr hvs] at h3
  obtain ⟨wa, wc, hwv⟩ := h3.pull4.assoc.row_len
  rw [hwv] at d0
  have Hwv := hide hwv
  have hrn : (r : Int) < (m.regs.length : Int) := by omega
  have Hm := hide hm
  have HA := hide hA
  have Hone := hide (show ∀ u ∈ wcs (s, pad x), u.oneCell' = true from fun u hu => by
    rcases List.mem_cons.1 hu with rfl | hu
    · rfl
    · exact bys_one _ u hu)
  have hwl : m.regs[r].waits.length ≤ 1000000000 := by omega
  have Hr0 := hide e0
  have Hpad := hide (show wcs (s, pad x) = (wcs (s, zbys 64)).take 1 ++ (bys x ++ (wcs (s, zbys 64)).drop (1 + (bys x).length)) by
    have e1 : (wcs (s, zbys 64)).take 1 = [.int .i64 s] := rfl
    have e2 : (wcs (s, zbys 64)).drop (1 + (bys x).length) = bys (zbys (64 - x.length)) := by
      rw [Nat.add_comm, bys_len]
      show (bys (zbys 64)).drop x.length = _
      rw [bys_drop]
      show bys ((List.replicate 64 0).drop x.length) = bys (List.replicate (64 - x.length) 0)
      rw [List.drop_replicate]
    rw [e1, e2]
    simp only [wcs, pad, bys_append, List.singleton_append])
  clear hA
  have Hh := hide h3
  have Hq := hide (rfl : r * m.size + s = r * m.size + s)
  have hsq : s ≤ 65536 := by have := hm.size; omega
  generalize r * m.size + s = q at *
  cases har : m.regs[r].armed with
  | false =>
    have c2 := At.cell (i := 2) h1 rfl
    rw [har] at d1
    clear h hcell e0 e1 e2 h1 hwv hwt hm h3 d2 d0
    go_enter Try.func12, Try.ntmps12
    go_wp2_with fail
    refine hat.mono ?_
    rintro e w1 ⟨rfl, rfl⟩
    go_wp2_with fail
    refine hdn.mono ?_
    rintro e w1 ⟨rfl, rfl⟩
    clear hat hdn
    obtain ⟨N, hN⟩ : ∃ N, w.heap.size = N := ⟨_, rfl⟩
    have h4 := Hh.out.alloc' hN (.cells (.int .i64 0 :: List.replicate 64 (.int .u8 0)).toArray 98)
    go_upto_region 8 with fail
    refine wp_region_lit ?_
    refine wpList_move_at rfl (.tmp 2) rfl rfl ?_
    refine wpList_build_at rfl _ (.tmp 41) rfl (v := .int .i64 s) rfl (Try.buildWr s w) ?_
    refine wpList_alloc_at rfl _ rfl (Try.zeroWr w) ?_
    rw [hN]
    refine wpList_store_at rfl (.tmp 10) (.tmp 42) _ rfl rfl rfl (by kernel_rfl) (by simp) (by simp; exact ⟨rfl, rfl⟩) h4 ?_
    intro w5 h5
    rw [wr_zero] at h5
    have hv5 := HA.out w5 h5.r.r.r.r.r
    clear h4
    go_upto_region 9 with fail
    go_wp2_with (go_loud (refine wpList_copy_rd rfl (.tmp 44) (.tmp 45) 32 32 rfl 5 Try.underlying32 (by kernel_rfl) N 1 64 64 rfl rfl hv5 (by rw [bys_len]; exact hx) h5 (by rw [bys_len, wcs_len (by simp [zbys])]; omega) (bys_one _) (Hpad.out) ?_))
    intro w6 h6
    have hreg := h6.pull4
    obtain ⟨g9, c9, hg9, _, hcell6⟩ := hreg.row_ptr (by omega)
    simp only [Value.slice.injEq, Option.some.injEq, Addr.mk.injEq, and_true, true_and] at hg9
    obtain ⟨rfl, rfl⟩ := hg9
    have zr0 := hcell6 _ _ Hr0.out
    rw [Hwv.out] at zr0
    have hl65 : (wcs (s, pad x)).length = 65 := wcs_len (pad_len hx)
    have h6d := h6.drew
    have h7 := (h6d.alloc (.cells (wcs (s, pad x)).toArray 98)).cast (show _ = row 98 65 (.slice wa m.regs[r].waits.length wc) m.regs[r].waits.length (wcss m.regs[r].waits) * (pt w6.drew.heap.size (.cells (wcs (s, pad x)).toArray 98) * (cel N (wcs (s, pad x)).toArray 98 * (cel b #[.int .i64 m.size, dv, .slice (some ⟨g, 0, none⟩) m.regs.length rc, .int .i64 m.writes] 82 * (row 96 64 dv m.data.length (secs m.data) * (row 95 3 (.slice (some ⟨g, 0, none⟩) m.regs.length rc) m.regs.length (rgcs m.regs vs) * (rgsX r m.regs vs * R)))))) by rw [Hwv.out]; ac_rfl)
    have z0d : w6.drew.cell? ⟨g, r * 3, none⟩ = some (.slice wa m.regs[r].waits.length wc) := zr0
    go_upto_region 10 with fail
    refine wp_region_line [0, 1, 2, 3, 4, 5, 6, 7, 8, 9, 10] rfl (by kernel_rfl) ?_
    simp only [picks_cons, picks_nil, getD_zero, getD_succ]
    refine wpList_value rfl (v := .pointer (some ⟨g, r * 3, none⟩)) (by go_simp) ?_
    refine wpList_value rfl (v := .pointer (some ⟨g, r * 3, none⟩)) (by go_simp) ?_
    refine wpList_value rfl (v := .pointer (some ⟨g, r * 3, none⟩)) (by go_simp) ?_
    refine wpList_value rfl (v := .pointer (some ⟨g, r * 3, none⟩)) (by go_simp) ?_
    refine wpList_value rfl (v := .slice wa m.regs[r].waits.length wc) (by go_simp) ?_
    refine wpList_load_agg rfl (.tmp 10) 98 rfl _ Try.underlying98 rfl (ys := wcs (s, pad x)) (by rw [hl65]; kernel_rfl) (g := N) (off := 0) (by go_simp) (fun j u hu => by rw [Nat.zero_add]; exact At.cell h6d (by simpa using hu)) ?_
    refine wpList_buildSlice1 rfl 93 98 (.tmp 52) rfl i0 z1 (ys := wcs (s, pad x)) Try.underlying93 hi0 hz0 (by rw [hz2]; exact hl65) (by omega) (by omega) (by go_simp) ?_
    refine wpList_append_row rfl _ _ _ rfl 98 i0 z1 65 72 Try.underlying93 hi0 hz0 hz2 hz3 hz1 (by decide) _ _ _ (by go_simp) h7 _ 1 1 (wcs (s, pad x)) (by go_simp) (by rw [hl65]) (fun j u hu => new_cells (w := w6.drew) rfl j u hu) Hone.out (by unfold maxLen; omega) (by omega) ?_
    intro a8 c8 w8 h8
    have h9 := h8.pull6
    have u0 := (h9.row_cell rfl Hr0.out).2
    have u1 := h9.row_fz (r * 3)
    have u2 := h9.row_lt
    have t3 := At.cell (i := 3) h9.pull5 rfl
    have t4 := At.frz h9.pull5 3
    have t5 := At.lt h9.pull5
    have hbg := h9.pull5
    have hne := At.row_ne hbg
    clear h6 h6d h7 z0d zr0
    go_wp2_with fail
    refine ⟨by kernel_rfl, ?_⟩
    go_wp2_with fail
    go_ret
    have h10 := ((h9.row_set (r * 3) (.slice a8 (m.regs[r].waits.length + 1) c8)).pull5).set' (d := #[.int .i64 m.size, dv, .slice (some ⟨g, 0, none⟩) m.regs.length rc, .int .i64 (m.writes + 1 : Nat)]) 3 (.int .i64 (m.writes + 1)) rfl
    have ew : m.regs[r].write s x = ⟨m.regs[r].waits ++ [(s, pad x)], m.regs[r].armed, m.regs[r].left⟩ := by unfold Reg.write; rw [har]; rfl
    refine ⟨rfl, At.write_done (dv := dv) (rv := .slice (some ⟨g, 0, none⟩) m.regs.length rc) (v := .slice a8 (m.regs[r].waits.length + 1) c8) hr hvs (Hm.out.write hs hx) ?_⟩
    rw [ew, ← rgcs_waits hr hvs]
    have ec : wcss (m.regs[r].waits ++ [(s, pad x)]) = wcss m.regs[r].waits ++ wcs (s, pad x) := by simp [wcss]
    have el : (m.regs[r].waits ++ [(s, pad x)]).length = m.regs[r].waits.length + 1 := by simp
    simp only [ec, el]
    refine (At.r (A := pt w6.drew.heap.size (.cells (wcs (s, pad x)).toArray 98) * cel N (wcs (s, pad x)).toArray 98) (At.cast h10 ?_))
    ac_rfl
  | true =>
    have c2 := At.cell (i := 2) h1 rfl
    rw [har] at d1
    have hlf : ((m.regs[r].left : Int) == 0) = false := by
      unfold Reg.down at hd
      rw [har, Bool.true_and] at hd
      exact hd
    have hl0 : m.regs[r].left ≠ 0 := fun h => by rw [h] at hlf; cases hlf
    have hl1 : ((m.regs[r].left : Int) - 1) = ((m.regs[r].left - 1 : Nat) : Int) := by omega
    have f2 := h1.pull3.row_fz (r * 3 + 2)
    have fl := h1.pull3.row_lt
    have HL := hide (Hh.out.pull3.row_set (r * 3 + 2) (.int .i64 ((m.regs[r].left : Int) - 1))).pull3.pull3
    rw [← List.getElem?_set_ne (l := rgcs m.regs vs) (i := r * 3 + 2) (a := .int .i64 ((m.regs[r].left : Int) - 1)) (by omega)] at Hr0
    have Hl1 := hide hl1
    have hlb : (m.regs[r].left : Int) ≤ 9223372036854775807 := by have := Hm.out.lefts _ (List.getElem_mem hr); omega
    clear hlf hl1
    clear h hcell e0 e1 e2 h1 hwv hwt hm h3 d0
    go_enter Try.func12, Try.ntmps12
    go_wp2_with fail
    refine hat.mono ?_
    rintro e w1 ⟨rfl, rfl⟩
    go_wp2_with fail
    refine hdn.mono ?_
    rintro e w1 ⟨rfl, rfl⟩
    clear hat hdn
    obtain ⟨N, hN⟩ : ∃ N, (w.setCell ⟨g, r * 3 + 2, none⟩ (.int .i64 ((m.regs[r].left : Int) - 1))).heap.size = N := ⟨_, rfl⟩
    have h4 := HL.out.alloc' hN (.cells (.int .i64 0 :: List.replicate 64 (.int .u8 0)).toArray 98)
    go_upto_region 8 with fail
    refine wp_region_lit ?_
    refine wpList_move_at rfl (.tmp 2) rfl rfl ?_
    refine wpList_build_at rfl _ (.tmp 41) rfl (v := .int .i64 s) rfl (Try.buildWr s _) ?_
    refine wpList_alloc_at rfl _ rfl (Try.zeroWr _) ?_
    rw [hN]
    refine wpList_store_at rfl (.tmp 10) (.tmp 42) _ rfl rfl rfl (by kernel_rfl) (by simp) (by simp; exact ⟨rfl, rfl⟩) h4 ?_
    intro w5 h5
    rw [wr_zero] at h5
    have hv5 := HA.out w5 h5.r.r.r.r.r
    clear h4
    go_upto_region 9 with fail
    go_wp2_with (go_loud (refine wpList_copy_rd rfl (.tmp 44) (.tmp 45) 32 32 rfl 5 Try.underlying32 (by kernel_rfl) N 1 64 64 rfl rfl hv5 (by rw [bys_len]; exact hx) h5 (by rw [bys_len, wcs_len (by simp [zbys])]; omega) (bys_one _) (Hpad.out) ?_))
    intro w6 h6
    have hreg := h6.pull4
    obtain ⟨g9, c9, hg9, _, hcell6⟩ := hreg.row_ptr (by omega)
    simp only [Value.slice.injEq, Option.some.injEq, Addr.mk.injEq, and_true, true_and] at hg9
    obtain ⟨rfl, rfl⟩ := hg9
    have zr0 := hcell6 _ _ Hr0.out
    rw [Hwv.out] at zr0
    have hl65 : (wcs (s, pad x)).length = 65 := wcs_len (pad_len hx)
    have h6d := h6.drew
    have h7 := (h6d.alloc (.cells (wcs (s, pad x)).toArray 98)).cast (show _ = row 98 65 (.slice wa m.regs[r].waits.length wc) m.regs[r].waits.length (wcss m.regs[r].waits) * (pt w6.drew.heap.size (.cells (wcs (s, pad x)).toArray 98) * (cel N (wcs (s, pad x)).toArray 98 * (cel b #[.int .i64 m.size, dv, .slice (some ⟨g, 0, none⟩) m.regs.length rc, .int .i64 m.writes] 82 * (row 96 64 dv m.data.length (secs m.data) * (row 95 3 (.slice (some ⟨g, 0, none⟩) m.regs.length rc) m.regs.length ((rgcs m.regs vs).set (r * 3 + 2) (.int .i64 ((m.regs[r].left : Int) - 1))) * (rgsX r m.regs vs * R)))))) by rw [Hwv.out]; ac_rfl)
    have z0d : w6.drew.cell? ⟨g, r * 3, none⟩ = some (.slice wa m.regs[r].waits.length wc) := zr0
    go_upto_region 10 with fail
    refine wp_region_line [0, 1, 2, 3, 4, 5, 6, 7, 8, 9, 10] rfl (by kernel_rfl) ?_
    simp only [picks_cons, picks_nil, getD_zero, getD_succ]
    refine wpList_value rfl (v := .pointer (some ⟨g, r * 3, none⟩)) (by go_simp) ?_
    refine wpList_value rfl (v := .pointer (some ⟨g, r * 3, none⟩)) (by go_simp) ?_
    refine wpList_value rfl (v := .pointer (some ⟨g, r * 3, none⟩)) (by go_simp) ?_
    refine wpList_value rfl (v := .pointer (some ⟨g, r * 3, none⟩)) (by go_simp) ?_
    refine wpList_value rfl (v := .slice wa m.regs[r].waits.length wc) (by go_simp) ?_
    refine wpList_load_agg rfl (.tmp 10) 98 rfl _ Try.underlying98 rfl (ys := wcs (s, pad x)) (by rw [hl65]; kernel_rfl) (g := N) (off := 0) (by go_simp) (fun j u hu => by rw [Nat.zero_add]; exact At.cell h6d (by simpa using hu)) ?_
    refine wpList_buildSlice1 rfl 93 98 (.tmp 52) rfl i0 z1 (ys := wcs (s, pad x)) Try.underlying93 hi0 hz0 (by rw [hz2]; exact hl65) (by omega) (by omega) (by go_simp) ?_
    refine wpList_append_row rfl _ _ _ rfl 98 i0 z1 65 72 Try.underlying93 hi0 hz0 hz2 hz3 hz1 (by decide) _ _ _ (by go_simp) h7 _ 1 1 (wcs (s, pad x)) (by go_simp) (by rw [hl65]) (fun j u hu => new_cells (w := w6.drew) rfl j u hu) Hone.out (by unfold maxLen; omega) (by omega) ?_
    intro a8 c8 w8 h8
    have h9 := h8.pull6
    have u0 := (h9.row_cell rfl Hr0.out).2
    have u1 := h9.row_fz (r * 3)
    have u2 := h9.row_lt
    have t3 := At.cell (i := 3) h9.pull5 rfl
    have t4 := At.frz h9.pull5 3
    have t5 := At.lt h9.pull5
    have hbg := h9.pull5
    have hne := At.row_ne hbg
    clear h6 h6d h7 z0d zr0
    go_wp2_with fail
    refine ⟨by kernel_rfl, ?_⟩
    go_wp2_with fail
    go_ret
    have h10 := ((h9.row_set (r * 3) (.slice a8 (m.regs[r].waits.length + 1) c8)).pull5).set' (d := #[.int .i64 m.size, dv, .slice (some ⟨g, 0, none⟩) m.regs.length rc, .int .i64 (m.writes + 1 : Nat)]) 3 (.int .i64 (m.writes + 1)) rfl
    have ew : m.regs[r].write s x = ⟨m.regs[r].waits ++ [(s, pad x)], m.regs[r].armed, m.regs[r].left - 1⟩ := by unfold Reg.write; rw [har]; rfl
    refine ⟨rfl, At.write_done (dv := dv) (rv := .slice (some ⟨g, 0, none⟩) m.regs.length rc) (v := .slice a8 (m.regs[r].waits.length + 1) c8) hr hvs (Hm.out.write hs hx) ?_⟩
    rw [ew, ← rgcs_left hr hvs, ← Hl1.out]
    have ec : wcss (m.regs[r].waits ++ [(s, pad x)]) = wcss m.regs[r].waits ++ wcs (s, pad x) := by simp [wcss]
    have el : (m.regs[r].waits ++ [(s, pad x)]).length = m.regs[r].waits.length + 1 := by simp
    simp only [ec, el]
    refine (At.r (A := pt w6.drew.heap.size (.cells (wcs (s, pad x)).toArray 98) * cel N (wcs (s, pad x)).toArray 98) (At.cast h10 ?_))
    ac_rfl
end Go.Proofs.Ytmlifjfgelfbbaa
