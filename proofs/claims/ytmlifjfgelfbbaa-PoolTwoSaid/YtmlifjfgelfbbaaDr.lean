/-
  The package disk: Read: what it comes to, in terms of blocks: a contract, no statement.
-/
import Derived.Test.YtmlifjfgelfbbaaDk
namespace Go.Proofs.Ytmlifjfgelfbbaa
open Go Go.RowKit

/-- What was written last into a sector, of these writes. -/
def lastOf (s : Nat) : List (Nat × List UInt8) → Option (List UInt8)
  | [] => none
  | p :: l => (lastOf s l).or (if p.1 = s then some p.2 else none)
theorem lastOf_append (s : Nat) : ∀ a b : List (Nat × List UInt8), lastOf s (a ++ b) = (lastOf s b).or (lastOf s a)
  | [], b => by simp [lastOf]
  | p :: a, b => by
    show (lastOf s (a ++ b)).or _ = _
    rw [lastOf_append s a b, lastOf]
    cases lastOf s b <;> simp
theorem lastOf_none {s : Nat} : ∀ {l : List (Nat × List UInt8)}, (∀ p ∈ l, p.1 ≠ s) → lastOf s l = none
  | [], _ => rfl
  | p :: l, h => by
    rw [lastOf, lastOf_none fun q hq => h q (List.mem_cons_of_mem _ hq), if_neg (h p List.mem_cons_self)]
    rfl
theorem lastOf_at {s i : Nat} {l : List (Nat × List UInt8)} (hi : i < l.length) (hs : l[i].1 = s) (hn : ∀ j (hj : j < l.length), i < j → l[j].1 ≠ s) : lastOf s l = some l[i].2 := by
  have e : l = l.take i ++ (l[i] :: l.drop (i + 1)) := by rw [List.getElem_cons_drop, List.take_append_drop]
  have h0 : lastOf s (l.drop (i + 1)) = none := lastOf_none fun p hp => by
    obtain ⟨j, hj, rfl⟩ := List.mem_iff_getElem.1 hp
    rw [List.getElem_drop]
    exact hn _ _ (by omega)
  have h1 : lastOf s (l[i] :: l.drop (i + 1)) = some l[i].2 := by
    rw [lastOf, h0, if_pos hs]
    rfl
  have e2 := congrArg (lastOf s) e
  rw [lastOf_append, h1] at e2
  exact e2
/-- A sector as it was written last. -/
def Dk.sec (m : Dk) (r s : Nat) : List UInt8 := (lastOf s ((m.regs[r]?.map (·.waits)).getD [])).getD ((m.data[r * m.size + s]?).getD [])
theorem lastOf_mem {s : Nat} {x : List UInt8} : ∀ {l : List (Nat × List UInt8)}, lastOf s l = some x → (s, x) ∈ l
  | [], h => by cases h
  | p :: l, h => by
    rw [lastOf] at h
    cases hl : lastOf s l with
    | some y =>
      rw [hl] at h
      exact List.mem_cons_of_mem _ (lastOf_mem (by rw [hl]; exact h))
    | none =>
      rw [hl] at h
      by_cases hp : p.1 = s
      · rw [if_pos hp] at h
        simp at h
        rw [← h, ← hp]
        exact List.mem_cons_self
      · rw [if_neg hp] at h
        cases h
theorem Dk.sec_len {m : Dk} (hm : m.Wf) {r s : Nat} (hr : r < m.regs.length) (hs : s < m.size) : (m.sec r s).length = 64 := by
  unfold Dk.sec
  rw [List.getElem?_eq_getElem hr]
  simp only [Option.map_some, Option.getD_some]
  cases h : lastOf s m.regs[r].waits with
  | some x => exact ((hm.waits _ (List.getElem_mem hr)).2 _ (lastOf_mem h)).1
  | none =>
    have hlt : r * m.size + s < m.data.length := by
      rw [hm.data]
      have : (r + 1) * m.size ≤ m.regs.length * m.size := Nat.mul_le_mul_right _ hr
      rw [Nat.add_mul] at this
      omega
    rw [List.getElem?_eq_getElem hlt]
    exact hm.secs _ (List.getElem_mem hlt)
theorem Dk.Wf.at_lt {m : Dk} (hm : m.Wf) {r s : Nat} (hr : r < m.regs.length) (hs : s < m.size) : r * m.size + s < m.data.length := by
  rw [hm.data]
  have : (r + 1) * m.size ≤ m.regs.length * m.size := Nat.mul_le_mul_right _ hr
  rw [Nat.add_mul] at this
  omega

theorem diskRead_out (w0 w : World) (R : HP) (b : Nat) (m : Dk) (r s : Nat) (hr : r < m.regs.length) (hs : m.size ≤ s) (h : At w0 (dsk b m * R) w) :
    Calls Try.prog 46 #[.pointer (some ⟨b, 0, none⟩), .int .i64 r, .int .i64 s] w fun e w' => e = .returned (.tuple #[.slice none 0 0, .int .i64 1]) ∧ w = w' := by
  have hat := diskAt_out w0 w R b m r s hr hs h
  clear h
  go_enter Try.func46, Try.ntmps46
  go_wp2_with fail
  refine hat.mono ?_
  rintro e w1 ⟨rfl, rfl⟩
  go_wp2_with fail
  go_ret2
  exact ⟨rfl, rfl⟩

set_option maxRecDepth 100000 in
set_option maxHeartbeats 4000000 in
theorem diskRead_in (w0 w : World) (R : HP) (b : Nat) (m : Dk) (r s : Nat) (hr : r < m.regs.length) (hs : s < m.size) (hwn : m.writes ≤ 1000000000) (h : At w0 (dsk b m * R) w) :
    Calls Try.prog 46 #[.pointer (some ⟨b, 0, none⟩), .int .i64 r, .int .i64 s] w fun e w' => ∃ a c, e = .returned (.tuple #[.slice a 64 c, .int .i64 0]) ∧ At w0 (row 5 1 (.slice a 64 c) 64 (bys (m.sec r s)) * (dsk b m * R)) w' := by
  obtain ⟨i0, hi0, hz0, hz1, hz2⟩ := info_parts Try.info8
  have hat := diskAt_in w0 w R b m r s hr hs h
  obtain ⟨hm, dv, rv, vs, hvs, h1⟩ := h.dsk_open
  have hsl := Dk.sec_len hm hr hs
  have hlt := hm.at_lt hr hs
  have hwt := hm.waits _ (List.getElem_mem hr)
  obtain ⟨g, rc, rfl, hrc, hcell⟩ := h1.pull3.row_ptr (by omega)
  obtain ⟨dg, dc, rfl, hdc, dcell⟩ := h1.pull2.row_ptr (by omega)
  have hsd : ∀ x ∈ m.data, (bys x).length = 64 := fun x hx => bys64 (hm.secs x hx)
  have hsw : ∀ p ∈ m.regs[r].waits, (wcs p).length = 65 := fun p hp => wcs_len ((hwt.2 p hp).1)
  obtain ⟨e0, e1, e2⟩ := rgcs_at hr hvs
  have d0 := hcell _ _ e0
  have c1 := At.cell (i := 1) h1 rfl
  have c2 := At.cell (i := 2) h1 rfl
  have h2 := h1.pull4
  rw [rgsP_get hr hvs] at h2
  have h3 := h2.assoc
  obtain ⟨wa, wc, hwv⟩ := h3.row_len
  rw [hwv] at d0
  have Hwv := hide hwv
  have hdat : Rd w (.slice (some ⟨dg, (r * m.size + s) * 64, none⟩) 64 64) (bys m.data[r * m.size + s]) := by
    refine .inr ⟨dg, _, 64, by rw [hsd _ (List.getElem_mem hlt)], by rw [hsd _ (List.getElem_mem hlt)]; exact Nat.le_refl _, fun j u hu => dcell _ _ ?_⟩
    have hj : j < 64 := by rw [← hsd _ (List.getElem_mem hlt)]; exact (List.getElem?_eq_some_iff.1 hu).1
    exact (flat_at hsd _ j hlt hj).trans hu
  have hseq : m.sec r s = (lastOf s m.regs[r].waits).getD m.data[r * m.size + s] := by
    unfold Dk.sec
    rw [List.getElem?_eq_getElem hr, List.getElem?_eq_getElem hlt]
    rfl
  rw [hwv] at h3
  have hrn : (r : Int) < (m.regs.length : Int) := by omega
  have hln : ((r * m.size + s : Nat) : Int) < (m.data.length : Int) := by omega
  have hbl : (bys m.data[r * m.size + s]).length = 64 := hsd _ (List.getElem_mem hlt)
  have Hb64 := hide hsl
  have Hseq := hide hseq
  have Hh := hide h
  have Hsw := hide hsw
  have hwl : m.regs[r].waits.length ≤ 1000000000 := by omega
  have Hhat := hide hat
  clear hwv hcell dcell hsd e0 e1 e2 h1 h2 hsl hseq h hwt hsw
  generalize hq : r * m.size + s = q at *
  generalize hwsq : m.regs[r].waits = ws at *
  have hat := Hhat.out
  have Hx := hide hq
  clear hq Hhat
  go_enter Try.func46, Try.ntmps46
  go_wp2_with fail
  refine hat.mono ?_
  rintro e w1 ⟨rfl, rfl⟩
  clear hat
  go_wp2_with fail
  go_loopw [10] (fun u wr => ∃ j : Nat, j ≤ ws.length ∧ u = .int .i64 ((j : Int) - 1) ∧ Hid (∀ i (hi : i < ws.length), j ≤ i → ws[i].1 ≠ s) ∧ w = wr) (fun u _ => (intOf u + 1).toNat)
  case atStart => exact ⟨ws.length, Nat.le_refl _, rfl, hide fun i hi hj => by omega, rfl⟩
  case round =>
    obtain ⟨j, hj, rfl, Hn, rfl⟩ := hrel
    cases j with
    | zero =>
      have hsec : m.sec r s = m.data[q] := by
        rw [Hseq.out, lastOf_none fun p hp => ?_]
        · rfl
        · obtain ⟨i, hi, rfl⟩ := List.mem_iff_getElem.1 hp
          exact Hn.out i hi (Nat.zero_le _)
      have Hsec := hide hsec
      have hz : ((0 : Nat) : Int) - 1 = -1 := rfl
      rw [hz]
      clear hsec hz
      go_wp2_with (at_builtin; go_loud (refine wpList_append_rdm rfl _ _ _ rfl 5 i0 _ 1 Try.underlying32 hi0 hz0 hz1 hz2 rfl rfl rfl (Hh.out.row_nil 5 1) hdat (bys_one _) (by rw [hbl]; unfold maxLen; omega) (by rw [hbl]; omega) 64 (bys (m.sec r s)) (by rw [hbl]) (by rw [Hsec.out]; rfl) ?_))
      intro a5 c5 w5 h5
      go_wp2_with fail
      go_ret2
      exact ⟨a5, c5, rfl, h5⟩
    | succ j =>
      have hk : ((j + 1 : Nat) : Int) - 1 = (j : Int) := by omega
      rw [hk]
      clear hk
      obtain ⟨gw, cw, hwa, hle, wcell⟩ := h3.row_ptr (by omega)
      simp only [Value.slice.injEq] at hwa
      obtain ⟨rfl, _, rfl⟩ := hwa
      have hjl : j < ws.length := by omega
      have w0c := wcell (j * 65 + 0) (.int .i64 ws[j].1) ((flat_at Hsw.out j 0 hjl (by decide)).trans rfl)
      rw [Nat.add_zero] at w0c
      have hpl : (bys ws[j].2).length = 64 := by
        have := Hsw.out ws[j] (List.getElem_mem hjl)
        simpa [wcs] using this
      have hsrc : Rd w (.slice (some ⟨gw, j * 65 + 1, none⟩) 64 64) (bys ws[j].2) := by
        refine .inr ⟨gw, _, 64, by rw [hpl], by rw [hpl]; exact Nat.le_refl _, fun i u hu => wcell _ _ ?_⟩
        have hi : i < 64 := by rw [← hpl]; exact (List.getElem?_eq_some_iff.1 hu).1
        rw [Nat.add_assoc]
        refine (flat_at Hsw.out j (1 + i) hjl (by omega)).trans ?_
        rw [Nat.add_comm 1 i]
        exact hu
      have Hpl := hide hpl
      have hjz : (j : Int) < (ws.length : Int) := by omega
      clear wcell hpl
      cases hb : ((ws[j].1 : Int) == (s : Int)) with
      | true =>
        have hsj : ws[j].1 = s := by have := beq_iff_eq.1 hb; omega
        have hsec : m.sec r s = ws[j].2 := by
          rw [Hseq.out, lastOf_at hjl hsj fun i hi hij => Hn.out i hi (by omega)]
          rfl
        have Hsec := hide hsec
        clear hsec hsj
        go_wp2_with (at_builtin; go_loud (refine wpList_append_rdm rfl _ _ _ rfl 5 i0 _ 1 Try.underlying32 hi0 hz0 hz1 hz2 rfl rfl rfl (Hh.out.row_nil 5 1) hsrc (bys_one _) (by rw [Hpl.out]; unfold maxLen; omega) (by rw [Hpl.out]; omega) 64 (bys (m.sec r s)) (by rw [Hpl.out]) (by rw [Hsec.out]; rfl) ?_))
        intro a5 c5 w5 h5
        go_wp2_with fail
        go_ret2
        exact ⟨a5, c5, rfl, h5⟩
      | false =>
        have hne : ws[j].1 ≠ s := fun h => by rw [h] at hb; simp at hb
        have Hne := hide hne
        clear hne
        go_wp2_with fail
        go_roundw
        case rel =>
          refine ⟨j, by omega, by go_num, hide fun i hi hij => ?_, trivial⟩
          rcases Nat.lt_or_eq_of_le hij with h | rfl
          · exact Hn.out i hi (by omega)
          · exact Hne.out
        case measure => simp [intOf]
end Go.Proofs.Ytmlifjfgelfbbaa
