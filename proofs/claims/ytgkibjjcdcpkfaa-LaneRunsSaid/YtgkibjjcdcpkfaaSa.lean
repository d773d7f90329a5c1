/-
  record.Same: what it comes to, in terms of blocks: a contract, no statement.
-/
import Derived.Test.YtgkibjjcdcpkfaaDe
namespace Go.Proofs.Ytgkibjjcdcpkfaa
open Go Go.RowKit

deriving instance DecidableEq for Rec
theorem txt_inj {a b : ByteArray} (h : a.toList = b.toList) : a = b := by
  rw [ByteArray.toList_eq, ByteArray.toList_eq] at h
  cases a; cases b
  simp only at h
  rw [Array.toList_inj.1 h]

set_option maxRecDepth 100000 in
set_option maxHeartbeats 4000000 in
theorem recSame_any (w0 w : World) (A : HP) (x y : Rec) (ax ay : Option Addr) (cx cy : Nat) (hl : x.dirty.length ≤ 1000000) (hx : ∀ w', At w0 A w' → Rd w' (.slice ax x.dirty.length cx) (nus x.dirty)) (hy : ∀ w', At w0 A w' → Rd w' (.slice ay y.dirty.length cy) (nus y.dirty)) (h : At w0 A w) :
    Calls Try.prog 32 #[.agg (x.cells (.slice ax x.dirty.length cx)).toArray, .agg (y.cells (.slice ay y.dirty.length cy)).toArray] w fun e w' => e = .returned (.bool (decide (x = y))) ∧ At w0 A w' := by
  obtain ⟨xk, xt, xp, xs, xb, xa, xi, xd⟩ := x
  obtain ⟨yk, yt, yp, ys, yb, ya, yi, yd⟩ := y
  simp only [Rec.cells] at *
  obtain ⟨X, hX⟩ : ∃ N, w.heap.size = N := ⟨_, rfl⟩
  have h1 := (h.alloc' hX (.cells #[.int .i64 xk, .int .i64 xt, .int .i64 xp, .int .i64 xs, .string xb, .string xa, .string xi, .slice ax xd.length cx] 44)).alloc' (show _ = X + 1 by simp [hX]) (.cells #[.int .i64 yk, .int .i64 yt, .int .i64 yp, .int .i64 ys, .string yb, .string ya, .string yi, .slice ay yd.length cy] 44)
  obtain ⟨R, hR⟩ : ∃ R, decide ((⟨xk, xt, xp, xs, xb, xa, xi, xd⟩ : Rec) = ⟨yk, yt, yp, ys, yb, ya, yi, yd⟩) = R := ⟨_, rfl⟩
  rw [hR]
  have HR := hide hR
  have HX := hide hX
  have Hx := hide hx
  have Hy := hide hy
  clear hx hy hR hX
  go_enter Try.func32, Try.ntmps32
  go_wp2_with fail
  rotate_left
  · have q8 : ((xd.length : Int) != (yd.length : Int)) = false := by assumption
    have q5 : xb.toList = yb.toList := by assumption
    have q6 : xa.toList = ya.toList := by assumption
    have q7 : xi.toList = yi.toList := by assumption
    try (have z1 : xk = yk := by assumption
         subst z1)
    try (have z2 : xt = yt := by assumption
         subst z2)
    try (have z3 : xp = yp := by assumption
         subst z3)
    try (have z4 : xs = ys := by assumption
         subst z4)
    have hyl : yd.length = xd.length := by have := bne_eq_false_iff_eq.1 q8; omega
    have Q5 := hide (txt_inj q5)
    have Q6 := hide (txt_inj q6)
    have Q7 := hide (txt_inj q7)
    have Hyl := hide hyl
    rw [HX.out]
    have k7 := At.cell (i := 7) h1 rfl
    have l7 := At.cell (i := 7) h1.pull2 rfl
    rw [hyl] at k7 Hy
    clear hyl q5 q6 q7 q8
    have hyl2 := Hyl.out
    rw [hyl2] at h1 ⊢
    simp only [bne_self_eq_false]
    clear hyl2
    go_loopw [65] (fun u wr => ∃ i : Nat, i ≤ xd.length ∧ u = .int .i64 i ∧ xd.take i = yd.take i ∧ At w0 (cel (X + 1) #[.int .i64 xk, .int .i64 xt, .int .i64 xp, .int .i64 xs, .string yb, .string ya, .string yi, .slice ay xd.length cy] 44 * (cel X #[.int .i64 xk, .int .i64 xt, .int .i64 xp, .int .i64 xs, .string xb, .string xa, .string xi, .slice ax xd.length cx] 44 * A)) wr) (fun u _ => xd.length - (intOf u).toNat)
    case atStart => exact ⟨0, Nat.zero_le _, rfl, rfl, h1⟩
    case round =>
      obtain ⟨i, hi, rfl, htk, h2⟩ := hrel
      have Htk := hide htk
      clear htk h1 k7 l7
      have k7 := At.cell (i := 7) h2 rfl
      have l7 := At.cell (i := 7) h2.pull2 rfl
      by_cases hil : i < xd.length
      · have hyi : i < yd.length := by have := Hyl.out; omega
        obtain ⟨g, o, e1, c1⟩ := (Hx.out wr h2.r.r).get (by omega)
        obtain ⟨g', o', e2, c2⟩ := (Hy.out wr h2.r.r).get (by omega)
        subst e1 e2
        have d1 := c1 i (.int .u64 (xd[i] : Nat)) (by simp [nus, List.getElem?_eq_getElem hil])
        have d2 := c2 i (.int .u64 (yd[i] : Nat)) (by simp [nus, List.getElem?_eq_getElem hyi])
        have hs1 : xd.take (i + 1) = xd.take i ++ [xd[i]] := List.take_succ_eq_append_getElem hil
        have hs2 : yd.take (i + 1) = yd.take i ++ [yd[i]] := List.take_succ_eq_append_getElem hyi
        have hne : xd[i] ≠ yd[i] → xd ≠ yd := fun h e => h (by subst e; rfl)
        have Hs1 := hide hs1
        have Hs2 := hide hs2
        have Hne := hide hne
        clear c1 c2 hs1 hs2 hne
        generalize xd[i] = u1 at *
        generalize yd[i] = u2 at *
        cases hq : ((u1 : Int) != (u2 : Int)) with
        | true =>
          go_wp2_with fail
          refine wp_region_line [0, 1, 2, 3, 4, 5, 6, 7, 8, 9, 10] rfl (by kernel_rfl) ?_
          simp only [picks_cons, picks_nil, getD_zero, getD_succ]
          go_wp2_with fail
          refine ⟨by kernel_rfl, ?_⟩
          go_wp2_with fail
          go_ret
          refine ⟨?_, h2.r.r.drew⟩
          have hf : R = false := by
            rw [← HR.out]
            refine decide_eq_false fun e => ?_
            injection e with _ _ _ _ _ _ _ e8
            refine Hne.out (fun h => ?_) e8
            rw [h] at hq
            simp at hq
          subst hf
          rfl
        | false =>
          go_wp2_with fail
          refine wp_region_line [0, 1, 2, 3, 4, 5, 6, 7, 8, 9, 10] rfl (by kernel_rfl) ?_
          simp only [picks_cons, picks_nil, getD_zero, getD_succ]
          go_wp2_with fail
          refine ⟨by kernel_rfl, ?_⟩
          go_wp2_with fail
          go_roundw
          case rel =>
            have hu : u1 = u2 := by have := bne_eq_false_iff_eq.1 hq; omega
            exact ⟨i + 1, by omega, by go_num, by rw [Hs1.out, Hs2.out, Htk.out, hu], h2.drew⟩
          case measure => simp [intOf]; omega
      · obtain rfl : i = xd.length := by omega
        go_wp2_with fail
        go_ret
        refine ⟨?_, h2.r.r⟩
        have hd : xd = yd := by
          have h3 := Htk.out
          rw [List.take_length, ← Hyl.out, List.take_length] at h3
          exact h3
        have hf : R = true := by
          rw [← HR.out]
          refine decide_eq_true ?_
          rw [hd, Q5.out, Q6.out, Q7.out]
        subst hf
        rfl
  all_goals
    try (have z1 : xk = yk := by assumption
         subst z1)
    try (have z2 : xt = yt := by assumption
         subst z2)
    try (have z3 : xp = yp := by assumption
         subst z3)
    try (have z4 : xs = ys := by assumption
         subst z4)
    go_ret
    refine ⟨?_, h1.r.r⟩
    have hf : R = false := by
      rw [← HR.out]
      refine decide_eq_false fun e => ?_
      injection e with e1 e2 e3 e4 e5 e6 e7 e8
      first
        | exact absurd e1 (by assumption)
        | exact absurd e2 (by assumption)
        | exact absurd e3 (by assumption)
        | exact absurd e4 (by assumption)
        | exact absurd (congrArg ByteArray.toList e5) (by assumption)
        | exact absurd (congrArg ByteArray.toList e6) (by assumption)
        | exact absurd (congrArg ByteArray.toList e7) (by assumption)
        | (have hq : ((xd.length : Int) != (yd.length : Int)) = true := by assumption
           rw [e8] at hq
           simp at hq)
    subst hf
    rfl
end Go.Proofs.Ytgkibjjcdcpkfaa
