/-
  The package lane: Wipe: what it comes to: a contract, no statement. Writes and barriers with what they answer.
-/
import Derived.Test.YtmlifjfgelfbbaaLa
namespace Go.Proofs.Ytmlifjfgelfbbaa
open Go Go.RowKit

def Dk.downAt (m : Dk) (r : Nat) : Bool := ((m.regs[r]?).map Reg.down).getD false
theorem Dk.downAt_eq {m : Dk} {r : Nat} (hr : r < m.regs.length) : m.downAt r = m.regs[r].down := by
  unfold Dk.downAt
  rw [List.getElem?_eq_getElem hr]
  rfl
/-- A write, and what it answers. -/
def Dk.wr (m : Dk) (r s : Nat) (x : List UInt8) : Nat × Dk := if m.size ≤ s then (1, m) else if m.downAt r then (10, m) else (0, m.write r s x)
/-- A barrier, and what it answers. -/
def Dk.bar (m : Dk) (r : Nat) : Nat × Dk := if m.downAt r then (10, m) else (0, m.keep r fullMask)
def thenD (p : Nat × Dk) (f : Dk → Nat × Dk) : Nat × Dk := if p.1 = 0 then f p.2 else p

theorem diskWr_any (w0 w : World) (R : HP) (b : Nat) (m : Dk) (r s : Nat) (a : Option Addr) (c : Nat) (x : List UInt8) (hx : x.length ≤ 64) (hA : RdIn w0 R (.slice a x.length c) x) (hr : r < m.regs.length) (hwn : m.writes ≤ 1000000000) (h : At w0 (dsk b m * R) w) :
    Calls Try.prog 12 #[.pointer (some ⟨b, 0, none⟩), .int .i64 r, .int .i64 s, .slice a x.length c] w fun e w' => e = .returned (.int .i64 (m.wr r s x).1) ∧ At w0 (dsk b (m.wr r s x).2 * R) w' := by
  unfold Dk.wr
  split
  · rename_i hs
    refine (diskWrite_out w0 w R b m r s _ ⟨_, _, _, rfl⟩ hr hs h).mono ?_
    rintro e w' ⟨rfl, rfl⟩
    exact ⟨rfl, h⟩
  · rename_i hs
    rw [Dk.downAt_eq hr]
    split
    · rename_i hd
      refine (diskWrite_down w0 w R b m r s a x.length c hx hr (by omega) hd h).mono ?_
      rintro e w' ⟨rfl, rfl⟩
      exact ⟨rfl, h⟩
    · rename_i hd
      exact (diskWrite_ok w0 w R b m r s a c x hx hA hr (by omega) hwn (by simpa using hd) h)
theorem diskBar_any (w0 w : World) (R : HP) (b : Nat) (m : Dk) (r : Nat) (hr : r < m.regs.length) (hwn : m.writes ≤ 1000000000) (h : At w0 (dsk b m * R) w) :
    Calls Try.prog 55 #[.pointer (some ⟨b, 0, none⟩), .int .i64 r] w fun e w' => e = .returned (.int .i64 (m.bar r).1) ∧ At w0 (dsk b (m.bar r).2 * R) w' := by
  unfold Dk.bar
  rw [Dk.downAt_eq hr]
  split
  · rename_i hd
    refine (diskBarrier_down w0 w R b m r hr hd h).mono ?_
    rintro e w' ⟨rfl, rfl⟩
    exact ⟨rfl, h⟩
  · rename_i hd
    exact diskBarrier_ok w0 w R b m r hr (by simpa using hd) hwn h
theorem Dk.wr_keeps (m : Dk) (r s : Nat) (x : List UInt8) : (m.wr r s x).2.regs.length = m.regs.length ∧ (m.wr r s x).2.size = m.size ∧ (m.wr r s x).2.writes ≤ m.writes + 1 := by
  unfold Dk.wr
  split
  · simp
  · split
    · simp
    · simp [Dk.write]
theorem Dk.bar_keeps (m : Dk) (r : Nat) : (m.bar r).2.regs.length = m.regs.length ∧ (m.bar r).2.size = m.size ∧ (m.bar r).2.writes = m.writes := by
  unfold Dk.bar
  split
  · simp
  · exact m.keep_regs r _
theorem thenD_0 {p : Nat × Dk} {f : Dk → Nat × Dk} (h : p.1 = 0) : thenD p f = f p.2 := by unfold thenD; rw [if_pos h]
theorem thenD_e {p : Nat × Dk} {f : Dk → Nat × Dk} (h : p.1 ≠ 0) : thenD p f = p := by unfold thenD; rw [if_neg h]
/-- Sectors that aren't zeros are made zeros. -/
def Dk.wipes (r : Nat) : Nat → Nat → Dk → Nat × Dk
  | 0, _, m => (0, m)
  | n + 1, s, m => if m.size ≤ s then (1, m) else if m.sec r s = zbys 64 then Dk.wipes r n (s + 1) m else thenD (m.wr r s []) (Dk.wipes r n (s + 1))
theorem Dk.wipes_succ (r n s : Nat) (m : Dk) : Dk.wipes r (n + 1) s m = if m.size ≤ s then (1, m) else if m.sec r s = zbys 64 then Dk.wipes r n (s + 1) m else thenD (m.wr r s []) (Dk.wipes r n (s + 1)) := rfl
def Dk.wipe (m : Dk) (r s t : Nat) : Nat × Dk := thenD (Dk.wipes r (t - s) s m) fun m' => m'.bar r

set_option maxRecDepth 100000 in
set_option maxHeartbeats 4000000 in
theorem laneWipe_any (w0 w : World) (R : HP) (b : Nat) (m : Dk) (r s t : Nat) (hr : r < m.regs.length) (hs : s ≤ 100000) (ht : t ≤ 100000) (hwn : m.writes ≤ 900000000) (h : At w0 (dsk b m * R) w) :
    Calls Try.prog 52 #[.pointer (some ⟨b, 0, none⟩), .int .i64 r, .int .i64 s, .int .i64 t] w fun e w' => e = .returned (.int .i64 (m.wipe r s t).1) ∧ At w0 (dsk b (m.wipe r s t).2 * R) w' := by
  obtain ⟨res, hres⟩ : ∃ res, Dk.wipes r (t - s) s m = res := ⟨_, rfl⟩
  unfold Dk.wipe
  rw [hres]
  have Hres := hide hres
  have Hh := hide h
  clear hres h
  go_enter Try.func52, Try.ntmps52
  go_wp2_with fail
  go_loopw [9] (fun u wr => ∃ (i : Nat) (M : Dk), s ≤ i ∧ i ≤ max s t ∧ u = .int .i64 i ∧ Hid (Dk.wipes r (t - i) i M = res ∧ M.regs.length = m.regs.length ∧ M.size = m.size ∧ M.writes ≤ m.writes + (i - s)) ∧ At w0 (dsk b M * R) wr) (fun u _ => t - (intOf u).toNat)
  case atStart => exact ⟨s, m, Nat.le_refl _, by omega, rfl, hide ⟨Hres.out, rfl, rfl, by omega⟩, Hh.out⟩
  case round =>
    obtain ⟨i, M, hsi, hi, rfl, HM, h5⟩ := hrel
    by_cases hil : i < t
    · have hilz : (i : Int) < (t : Int) := by omega
      have hrM : r < M.regs.length := by rw [HM.out.2.1]; exact hr
      have hwM : M.writes ≤ 1000000000 := by have := HM.out.2.2.2; omega
      by_cases hsz : M.size ≤ i
      · have hrd := diskRead_out w0 wr R b M r i hrM hsz h5
        have hr2 : res = (1, M) := by
          rw [← HM.out.1, show t - i = (t - i - 1) + 1 by omega, Dk.wipes_succ, if_pos hsz]
        subst hr2
        go_wp2_with fail
        refine hrd.mono ?_
        rintro e w6 ⟨rfl, rfl⟩
        clear hrd
        go_wp2_with fail
        go_ret
        rw [thenD_e (show (1 : Nat) ≠ 0 by decide)]
        exact ⟨rfl, h5⟩
      · have hrd := diskRead_in w0 wr R b M r i hrM (by omega) hwM h5
        have hsl := Dk.sec_len h5.dsk_open.1 hrM (show i < M.size by omega)
        have Hsl := hide hsl
        clear hsl h5
        go_wp2_with fail
        refine hrd.mono ?_
        rintro e w6 ⟨a6, c6, rfl, h6⟩
        have hz := laneZero_any w0 w6 _ a6 c6 (M.sec r i) Hsl.out h6.rd h6
        have h7 := h6.r
        clear hrd
        by_cases hzero : M.sec r i = zbys 64
        · rw [decide_eq_true hzero] at hz
          have hr2 : Dk.wipes r (t - (i + 1)) (i + 1) M = res := by
            rw [← HM.out.1, show t - i = (t - (i + 1)) + 1 by omega, Dk.wipes_succ, if_neg hsz, if_pos hzero]
          have Hr2 := hide hr2
          clear hr2 h6
          go_wp2_with fail
          refine hz.mono ?_
          rintro e w8 ⟨rfl, h8⟩
          clear hz h7
          go_wp2_with fail
          go_roundw
          case rel => exact ⟨i + 1, M, by omega, by omega, by go_num, hide ⟨Hr2.out, HM.out.2.1, HM.out.2.2.1, by have := HM.out.2.2.2; omega⟩, h8.r⟩
          case measure => simp [intOf]; omega
        · rw [decide_eq_false hzero] at hz
          have hr2 : thenD (M.wr r i []) (Dk.wipes r (t - (i + 1)) (i + 1)) = res := by
            rw [← HM.out.1, show t - i = (t - (i + 1)) + 1 by omega, Dk.wipes_succ, if_neg hsz, if_neg hzero]
          have Hr2 := hide hr2
          clear hr2 h6
          go_wp2_with fail
          refine hz.mono ?_
          rintro e w8 ⟨rfl, h8⟩
          have hw := diskWr_any w0 w8 R b M r i none 0 [] (by decide) (fun w' _ => Rd.nil w') hrM hwM h8.r
          change Calls _ _ #[_, _, _, .slice none 0 0] _ _ at hw
          have hk := M.wr_keeps r i []
          have Hk := hide hk
          clear hz h7 hk
          by_cases he : (M.wr r i []).1 = 0
          · rw [thenD_0 he] at Hr2
            rw [he] at hw
            go_wp2_with fail
            refine hw.mono ?_
            rintro e w9 ⟨rfl, h9⟩
            clear hw
            go_wp2_with fail
            go_roundw
            case rel => exact ⟨i + 1, (M.wr r i []).2, by omega, by omega, by go_num, hide ⟨Hr2.out, Hk.out.1.trans HM.out.2.1, Hk.out.2.1.trans HM.out.2.2.1, by have := HM.out.2.2.2; have := Hk.out.2.2; omega⟩, h9⟩
            case measure => simp [intOf]; omega
          · rw [thenD_e he] at Hr2
            obtain ⟨q, hq⟩ : ∃ q, M.wr r i [] = q := ⟨_, rfl⟩
            rw [hq] at hw he
            have hqr : res = q := by rw [← hq]; exact Hr2.out.symm
            subst hqr
            have hne : ¬ ((res.1 : Int) = 0) := by omega
            clear hq Hr2 Hk
            go_wp2_with fail
            refine hw.mono ?_
            rintro e w9 ⟨rfl, h9⟩
            clear hw
            go_wp2_with fail
            go_ret
            rw [thenD_e he]
            exact ⟨rfl, h9⟩
    · have hr2 : res = (0, M) := by
        rw [← HM.out.1, show t - i = 0 by omega]; rfl
      subst hr2
      have hrM : r < M.regs.length := by rw [HM.out.2.1]; exact hr
      have hwM : M.writes ≤ 1000000000 := by have := HM.out.2.2.2; omega
      have hb := diskBar_any w0 wr R b M r hrM hwM h5
      have hni : ¬ ((i : Int) < (t : Int)) := by omega
      go_wp2_with fail
      refine hb.mono ?_
      rintro e w9 ⟨rfl, h9⟩
      clear hb
      go_wp2_with fail
      go_ret
      rw [thenD_0 rfl]
      exact ⟨rfl, h9⟩
end Go.Proofs.Ytmlifjfgelfbbaa
