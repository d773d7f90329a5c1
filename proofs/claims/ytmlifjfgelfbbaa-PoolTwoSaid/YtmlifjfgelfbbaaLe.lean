/-
  The package lane: New, Flush: what they come to: contracts, no statement.
-/
import Derived.Test.YtmlifjfgelfbbaaLo
namespace Go.Proofs.Ytmlifjfgelfbbaa
open Go Go.RowKit

theorem At.drop3 {w0 w : World} {A B C X : HP} (h : At w0 (A * (B * (C * X))) w) : At w0 (A * (B * C)) w :=
  (h.cast (show _ = A * (B * C) * X by ac_rfl)).l
def recCheck : Rec := ⟨1, 0, 0, 0, ⟨#[]⟩, ⟨#[]⟩, ⟨#[]⟩, []⟩
def rvCheck : RecV := (recCheck, none, 0)
/-- A lane that isn't laid yet. -/
def ln0 : Ln := ⟨0, 1, [], 0⟩
set_option maxRecDepth 100000 in
set_option maxHeartbeats 4000000 in
theorem laneNew_any (w0 w : World) (R : HP) (d r : Nat) (m : Dk) (hr : r < m.regs.length) (hwn : m.writes ≤ 800000000) (h : At w0 (dsk d m * R) w) :
    Calls Try.prog 10 #[.pointer (some ⟨d, 0, none⟩), .int .i64 r] w fun e w' => ∃ P, e = .returned (.tuple #[if (ln0.anew m r [rvCheck]).1 = 0 then .pointer (some ⟨P, 0, none⟩) else .pointer none, .int .i64 (ln0.anew m r [rvCheck]).1]) ∧
      At w0 (lan P d r (ln0.anew m r [rvCheck]).2.1 * (dsk d (ln0.anew m r [rvCheck]).2.2 * R)) w' := by
  obtain ⟨P, hP⟩ : ∃ P, w.heap.size = P := ⟨_, rfl⟩
  have h1 := h.alloc' hP (.cells (ln0.cells d r (.slice none 0 0)) 84)
  have h2 := (h1.alloc (.cells rvCheck.cs.toArray 52)).cast (show _ = cel P (ln0.cells d r (.slice none 0 0)) 84 * (dsk d m * (R * pt (w.alloc (.cells (ln0.cells d r (.slice none 0 0)) 84)).heap.size (.cells rvCheck.cs.toArray 52))) by unfold cel; ac_rfl)
  have h3 : At w0 (lan P d r ln0 * (dsk d m * (R * pt (P + 1) (.cells rvCheck.cs.toArray 52)))) ((w.alloc (.cells (ln0.cells d r (.slice none 0 0)) 84)).alloc (.cells rvCheck.cs.toArray 52)) := by
    refine At.lan_shut (L := ln0) (vb := .slice none 0 0) ⟨by decide, by decide, by decide, by decide⟩ ?_
    have := (h2.row_nil 5 1).pull2
    rw [World.size_alloc, hP] at this
    exact this
  have han := laneAnew_any w0 _ (R * pt (P + 1) (.cells rvCheck.cs.toArray 52)) P d r ln0 m (some ⟨P + 1, 0, none⟩) 1 [rvCheck] hr (by decide) (by decide) hwn ⟨.inr ⟨P + 1, 0, rfl, fun w' h' j u hu => by
    rw [Nat.zero_add]
    exact At.cell h'.swap (by simpa using hu)⟩, fun x hx w' h' => by
    rw [List.mem_singleton.1 hx]
    exact .inl ⟨rfl, rfl⟩, fun x hx => by
    rw [List.mem_singleton.1 hx]
    intro d hd
    simp [rvCheck, recCheck] at hd⟩ h3
  change Calls _ _ #[_, .slice (some ⟨P + 1, 0, none⟩) 1 1] _ _ at han
  obtain ⟨res, hres⟩ : ∃ res, ln0.anew m r [rvCheck] = res := ⟨_, rfl⟩
  rw [hres] at han ⊢
  simp only [Ln.cells, ln0, rvCheck, RecV.cs, recCheck, Rec.cells] at han
  clear hr hwn h h1 h2 h3 hres
  go_enter Try.func10, Try.ntmps10
  go_wp2_with fail
  refine Calls.mono han ?_
  rintro e w1 ⟨rfl, h1⟩
  clear han
  have h2 := h1.drop3
  by_cases he : res.1 = 0
  · have hez : (res.1 : Int) = 0 := by omega
    rw [hez]
    go_wp2_with fail
    go_ret2
    exact ⟨P, rfl, h2⟩
  · have hne : ¬ ((res.1 : Int) = 0) := by omega
    go_wp2_with fail
    go_ret2
    exact ⟨rfl, P, h2⟩

/-- Flush, and what it answers. -/
def Ln.flush (L : Ln) (m : Dk) (r : Nat) : Nat × Ln × Dk :=
  if L.sure = L.b.length then (0, L, m)
  else let D := m.lay r L.bank L.gen L.b L.sure; (D.1, if D.1 = 0 then { L with sure := L.b.length } else L, D.2)
set_option maxRecDepth 100000 in
set_option maxHeartbeats 4000000 in
theorem laneFlush_any (w0 w : World) (R : HP) (p d r : Nat) (L : Ln) (m : Dk) (hr : r < m.regs.length) (hwn : m.writes ≤ 800000000) (h : At w0 (lan p d r L * (dsk d m * R)) w) :
    Calls Try.prog 59 #[.pointer (some ⟨p, 0, none⟩)] w fun e w' => e = .returned (.int .i64 (L.flush m r).1) ∧ At w0 (lan p d r (L.flush m r).2.1 * (dsk d (L.flush m r).2.2 * R)) w' := by
  obtain ⟨hL, va, vc, h1⟩ := h.lan_open
  obtain ⟨res, hres⟩ : ∃ res, L.flush m r = res := ⟨_, rfl⟩
  rw [hres]
  unfold Ln.flush at hres
  have h2 := h1.cast (show _ = cel p (L.cells d r (.slice va L.b.length vc)) 84 * (dsk d m * (row 5 1 (.slice va L.b.length vc) L.b.length (bys L.b) * R)) by ac_rfl)
  have q5 : w.drew.cell? ⟨p, 5, none⟩ = some (.int .i64 L.sure) := At.cell h2.drew rfl
  have q4 : w.drew.cell? ⟨p, 4, none⟩ = some (.slice va L.b.length vc) := At.cell h2.drew rfl
  have HL := hide hL
  have Hh := hide h
  clear hL h h1
  by_cases hs : L.sure = L.b.length
  · rw [if_pos hs] at hres
    subst hres
    have hsz : (L.sure : Int) = (L.b.length : Int) := by omega
    go_enter Try.func59, Try.ntmps59
    go_upto_region 1 with fail
    refine wp_region_line [0, 1, 2, 3, 4, 5, 6, 7, 8, 9] rfl (by kernel_rfl) ?_
    simp only [picks_cons, picks_nil, getD_zero, getD_succ]
    go_wp2_with fail
    refine ⟨by kernel_rfl, ?_⟩
    go_wp2_with fail
    go_ret
    exact ⟨rfl, Hh.out.drew⟩
  · rw [if_neg hs] at hres
    have hsz : ¬ ((L.sure : Int) = (L.b.length : Int)) := by omega
    have hly := laneLay_any w0 w.drew.drew _ p d r L (.slice va L.b.length vc) m L.bank L.gen va vc L.b L.sure hr HL.out.bank HL.out.gen HL.out.len (by have := HL.out.sure; have := HL.out.len; omega) (by omega) (fun w' h' => h'.rd) h2.drew.drew
    obtain ⟨D, hD⟩ : ∃ D, m.lay r L.bank L.gen L.b L.sure = D := ⟨_, rfl⟩
    rw [hD] at hly hres
    have Hres := hide hres
    obtain ⟨C, hC⟩ : ∃ C, L.cells d r (.slice va L.b.length vc) = C := ⟨_, rfl⟩
    rw [hC] at hly
    have hC2 : C[2]? = some (.int .u64 L.gen) := by rw [← hC]; rfl
    have hC3 : C[3]? = some (.int .i64 L.bank) := by rw [← hC]; rfl
    have hC4 : C[4]? = some (.slice va L.b.length vc) := by rw [← hC]; rfl
    have hC5 : C[5]? = some (.int .i64 L.sure) := by rw [← hC]; rfl
    have HC := hide hC
    have q2' : w.drew.drew.cell? ⟨p, 2, none⟩ = some (.int .u64 L.gen) := At.cell h2.drew.drew rfl
    have q3' : w.drew.drew.cell? ⟨p, 3, none⟩ = some (.int .i64 L.bank) := At.cell h2.drew.drew rfl
    have q4' : w.drew.drew.cell? ⟨p, 4, none⟩ = some (.slice va L.b.length vc) := At.cell h2.drew.drew rfl
    have q5' : w.drew.drew.cell? ⟨p, 5, none⟩ = some (.int .i64 L.sure) := At.cell h2.drew.drew rfl
    clear hres hD Hh hC hs
    go_enter Try.func59, Try.ntmps59
    go_upto_region 1 with fail
    refine wp_region_line [0, 1, 2, 3, 4, 5, 6, 7, 8, 9] rfl (by kernel_rfl) ?_
    simp only [picks_cons, picks_nil, getD_zero, getD_succ]
    go_wp2_with fail
    refine ⟨by kernel_rfl, ?_⟩
    go_wp2_with fail
    go_region_held3 (fun w' => w'.cell? ⟨p, 2, none⟩ = some (.int .u64 L.gen) ∧ w'.cell? ⟨p, 3, none⟩ = some (.int .i64 L.bank) ∧ w'.cell? ⟨p, 4, none⟩ = some (.slice va L.b.length vc) ∧ w'.cell? ⟨p, 5, none⟩ = some (.int .i64 L.sure)) (first | exact ⟨q2', q3', q4', q5'⟩ | exact ⟨At.cell h5 hC2, At.cell h5 hC3, At.cell h5 hC4, At.cell h5 hC5⟩) (first | ((with_reducible refine hly.mono ?_); rintro e w5 ⟨rfl, h5⟩))
    all_goals
      by_cases he : D.1 = 0
      · have hez : (D.1 : Int) = 0 := by omega
        rw [hez]
        have k4 : w5.cell? ⟨p, 4, none⟩ = some (.slice va L.b.length vc) := At.cell h5 hC4
        have k5 : w5.cell? ⟨p, 5, none⟩ = some (.int .i64 L.sure) := At.cell h5 hC5
        have k6 := At.frz h5 5
        have k7 := At.lt h5
        have hr2 := Hres.out
        rw [if_pos he] at hr2
        subst hr2
        clear q4 q5 q2' q3' q4' q5' hly h2 Hres
        go_wp2_with fail
        go_ret
        refine ⟨rfl, ?_⟩
        rw [← HC.out] at h5
        have h6 := h5.set' (d := ({ L with sure := L.b.length } : Ln).cells d r (.slice va L.b.length vc)) 5 (.int .i64 L.b.length) rfl
        exact At.lan_shut (L := { L with sure := L.b.length }) (vb := .slice va L.b.length vc) ⟨HL.out.gen, HL.out.bank, HL.out.len, Nat.le_refl _⟩ (h6.cast (by ac_rfl))
      · have hne : ¬ ((D.1 : Int) = 0) := by omega
        have hr2 := Hres.out
        rw [if_neg he] at hr2
        subst hr2
        clear q4 q5 q2' q3' q4' q5' hly h2 Hres
        go_wp2_with fail
        go_ret
        refine ⟨rfl, ?_⟩
        rw [← HC.out] at h5
        exact At.lan_shut HL.out (h5.cast (by ac_rfl))
end Go.Proofs.Ytmlifjfgelfbbaa
