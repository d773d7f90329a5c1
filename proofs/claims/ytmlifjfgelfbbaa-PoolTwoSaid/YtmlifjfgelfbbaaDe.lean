/-
  record.Decode: what it comes to, in terms of blocks: a contract, no statement.
-/
import Derived.Test.YtmlifjfgelfbbaaSy
namespace Go.Proofs.Ytmlifjfgelfbbaa
open Go Go.RowKit

def zeroRec : Value := .agg #[.int .i64 0, .int .i64 0, .int .i64 0, .int .i64 0, .string ⟨#[]⟩, .string ⟨#[]⟩, .string ⟨#[]⟩, .slice none 0 0]
/-- The record whose frame bytes begin with, and its frame's length. -/
def decP (bs : List UInt8) : Option (Rec × Nat) :=
  let t := (Rs.mk bs false).take 2
  let u := t.2.take (num t.1)
  if u.2.bad then none else if (sayP u.1).2 && (sayP u.1).1.right then some ((sayP u.1).1, 2 + num t.1) else none
def decPost (w0 : World) (A : HP) : Option (Rec × Nat) → Ending → World → Prop
  | none, e, w' => e = .returned (.tuple #[zeroRec, .int .i64 0, .bool false]) ∧ At w0 A w'
  | some (x, n), e, w' => ∃ a c, e = .returned (.tuple #[.agg (x.cells (.slice a x.dirty.length c)).toArray, .int .i64 n, .bool true]) ∧ At w0 (row 37 1 (.slice a x.dirty.length c) x.dirty.length (nus x.dirty) * A) w'

set_option maxRecDepth 100000 in
set_option maxHeartbeats 4000000 in
theorem recDecode_any (w0 w : World) (A : HP) (a : Option Addr) (c : Nat) (bs : List UInt8) (hm : bs.length ≤ 1000000000) (hA : RdIn w0 A (.slice a bs.length c) bs) (h : At w0 A w) :
    Calls Try.prog 50 #[.slice a bs.length c] w (decPost w0 A (decP bs)) := by
  obtain ⟨D, hD⟩ : ∃ D, decP bs = D := ⟨_, rfl⟩
  rw [hD]
  unfold decP at hD
  simp only at hD
  obtain ⟨s0, hs0⟩ : ∃ s : Rs, (⟨bs, false⟩ : Rs) = s := ⟨_, rfl⟩
  rw [hs0] at hD
  have hb0 : s0.bs.length = bs.length := by rw [← hs0]
  have l1 := (s0.take_len 2).2
  have m1 := s0.take_num 2
  have n1 := fun w b a c F => packNum_any w0 w A F b a c 2 s0 (by decide) (by decide) (by omega)
  simp only [lit2] at n1
  obtain ⟨s1, hs1⟩ : ∃ s : Rs, (s0.take 2).2 = s := ⟨_, rfl⟩
  rw [hs1] at hD l1 n1
  obtain ⟨x1, hx1⟩ : ∃ x, num (s0.take 2).1 = x := ⟨_, rfl⟩
  rw [hx1] at hD m1 n1
  have n2 := fun w b a c F => packTake_any w0 w A F b a c x1 s1 (by omega)
  have l2 := s1.take_len x1
  obtain ⟨s2, hs2⟩ : ∃ s : Rs, (s1.take x1).2 = s := ⟨_, rfl⟩
  rw [hs2] at hD n2 l2
  obtain ⟨bd, hbd⟩ : ∃ b, (s1.take x1).1 = b := ⟨_, rfl⟩
  rw [hbd] at hD n2 l2
  obtain ⟨S, hS⟩ : ∃ S, sayP bd = S := ⟨_, rfl⟩
  rw [hS] at hD
  have hsay := fun (w : World) (A' : HP) a c => recSay_any w0 w A' a c bd (by omega)
  rw [hS] at hsay
  clear hs1 hx1 hs2 hbd hS
  have H0 := hide hs0
  have M1 := hide m1
  have HD := hide hD
  clear hs0 m1 hD
  obtain ⟨RB, hRB⟩ : ∃ N, w.heap.size = N := ⟨_, rfl⟩
  have h1 := h.alloc' hRB (.cells #[.int .i64 0, .int .i64 0, .int .i64 0, .int .i64 0, .string ⟨#[]⟩, .string ⟨#[]⟩, .string ⟨#[]⟩, .slice none 0 0] 52)
  have hnew := packNew_any w0 _ _ (.slice a bs.length c) h1 ⟨_, _, _, rfl⟩
  have HRB := hide hRB
  have HA := hide hA
  clear hRB h1 hA
  go_enter Try.func50, Try.ntmps50
  go_wp2_with fail
  rw [HRB.out]
  refine hnew.mono ?_
  rintro e w1 ⟨b, rfl, h2⟩
  clear hnew HRB
  have h3 : At w0 (rdr b a c s0 * (cel RB #[.int .i64 0, .int .i64 0, .int .i64 0, .int .i64 0, .string ⟨#[]⟩, .string ⟨#[]⟩, .string ⟨#[]⟩, .slice none 0 0] 52 * A)) w1 := by rw [← H0.out]; exact h2
  have hr1 : RdIn w0 A (.slice a s0.bs.length c) s0.bs := by rw [← H0.out]; exact HA.out
  have k1 := n1 _ _ _ _ _ hr1 h3
  clear n1 h2 h3 hr1 HA H0
  go_wp2_with fail
  refine k1.mono ?_
  rintro e w2 ⟨a2, c2, rfl, hr2, h4⟩
  have k2 := n2 _ _ _ _ _ hr2 h4
  clear k1 hr2 h4 n2
  have m1 := M1.out
  go_wp2_with fail
  refine k2.mono ?_
  rintro e w3 ⟨a3, c3, a4, c4, rfl, _, h5⟩
  clear k2 m1
  have kb := packBad_any w0 _ _ b _ s2.bad h5.pull2
  have ks := hsay w3 _ a3 c3 (fun w' h => At.rd h) h5
  have h6 := h5.pull3
  clear hsay
  cases hb : s2.bad with
  | true =>
    rw [hb] at kb
    have hd := HD.out
    rw [hb, if_pos rfl] at hd
    subst hd
    clear HD ks
    go_wp2_with fail
    refine kb.mono ?_
    rintro e w4 ⟨rfl, rfl⟩
    have v0 := At.cell (i := 0) h6 rfl
    have f0 := At.frz h6 0
    have v1 := At.cell (i := 1) h6 rfl
    have f1 := At.frz h6 1
    have v2 := At.cell (i := 2) h6 rfl
    have f2 := At.frz h6 2
    have v3 := At.cell (i := 3) h6 rfl
    have f3 := At.frz h6 3
    have v4 := At.cell (i := 4) h6 rfl
    have f4 := At.frz h6 4
    have v5 := At.cell (i := 5) h6 rfl
    have f5 := At.frz h6 5
    have v6 := At.cell (i := 6) h6 rfl
    have f6 := At.frz h6 6
    have v7 := At.cell (i := 7) h6 rfl
    have f7 := At.frz h6 7
    have fl := At.lt h6
    go_wp2_with fail
    have hz := ((((((((h6.set' (d := #[.int .i64 0, .int .i64 0, .int .i64 0, .int .i64 0, .string ⟨#[]⟩, .string ⟨#[]⟩, .string ⟨#[]⟩, .slice none 0 0]) 0 (.int .i64 0) rfl).set' (d := #[.int .i64 0, .int .i64 0, .int .i64 0, .int .i64 0, .string ⟨#[]⟩, .string ⟨#[]⟩, .string ⟨#[]⟩, .slice none 0 0]) 1 (.int .i64 0) rfl).set' (d := #[.int .i64 0, .int .i64 0, .int .i64 0, .int .i64 0, .string ⟨#[]⟩, .string ⟨#[]⟩, .string ⟨#[]⟩, .slice none 0 0]) 2 (.int .i64 0) rfl).set' (d := #[.int .i64 0, .int .i64 0, .int .i64 0, .int .i64 0, .string ⟨#[]⟩, .string ⟨#[]⟩, .string ⟨#[]⟩, .slice none 0 0]) 3 (.int .i64 0) rfl).set' (d := #[.int .i64 0, .int .i64 0, .int .i64 0, .int .i64 0, .string ⟨#[]⟩, .string ⟨#[]⟩, .string ⟨#[]⟩, .slice none 0 0]) 4 (.string ⟨#[]⟩) rfl).set' (d := #[.int .i64 0, .int .i64 0, .int .i64 0, .int .i64 0, .string ⟨#[]⟩, .string ⟨#[]⟩, .string ⟨#[]⟩, .slice none 0 0]) 5 (.string ⟨#[]⟩) rfl).set' (d := #[.int .i64 0, .int .i64 0, .int .i64 0, .int .i64 0, .string ⟨#[]⟩, .string ⟨#[]⟩, .string ⟨#[]⟩, .slice none 0 0]) 6 (.string ⟨#[]⟩) rfl).set' (d := #[.int .i64 0, .int .i64 0, .int .i64 0, .int .i64 0, .string ⟨#[]⟩, .string ⟨#[]⟩, .string ⟨#[]⟩, .slice none 0 0]) 7 (.slice none 0 0) rfl)
    have r0 := At.cell (i := 0) hz rfl
    have r1 := At.cell (i := 1) hz rfl
    have r2 := At.cell (i := 2) hz rfl
    have r3 := At.cell (i := 3) hz rfl
    have r4 := At.cell (i := 4) hz rfl
    have r5 := At.cell (i := 5) hz rfl
    have r6 := At.cell (i := 6) hz rfl
    have r7 := At.cell (i := 7) hz rfl
    refine bodyPost_ret (v := .tuple #[.agg #[.int .i64 0, .int .i64 0, .int .i64 0, .int .i64 0, .string ⟨#[]⟩, .string ⟨#[]⟩, .string ⟨#[]⟩, .slice none 0 0], .int .i64 0, .bool false]) (by simp [results, Try.results50, go_sem, r0, r1, r2, r3, r4, r5, r6, r7]) rfl ?_
    exact ⟨rfl, hz.r.r.r⟩
  | false =>
    rw [hb] at kb
    have hd := HD.out
    rw [hb, if_neg (by simp)] at hd
    have HD2 := hide hd
    clear HD hd
    go_wp2_with fail
    refine kb.mono ?_
    rintro e w4 ⟨rfl, rfl⟩
    clear kb
    go_wp2_with fail
    refine ks.mono ?_
    rintro e w5 ⟨a5, c5, rfl, h7⟩
    clear ks h5 h6
    obtain ⟨x, ok⟩ := S
    simp only at h7 HD2 ⊢
    obtain ⟨X, hX⟩ : ∃ N, w5.heap.size = N := ⟨_, rfl⟩
    have h8 := h7.alloc' hX (.cells #[.int .i64 x.kind, .int .i64 x.txn, .int .i64 x.page, .int .i64 x.slot, .string x.before, .string x.after, .string x.image, .slice a5 x.dirty.length c5] 52)
    have HX := hide hX
    clear hX h7
    have h9 := h8.pull5
    have g0 := At.cell (i := 0) h8 rfl
    have g1 := At.cell (i := 1) h8 rfl
    have g2 := At.cell (i := 2) h8 rfl
    have g3 := At.cell (i := 3) h8 rfl
    have g4 := At.cell (i := 4) h8 rfl
    have g5 := At.cell (i := 5) h8 rfl
    have g6 := At.cell (i := 6) h8 rfl
    have g7 := At.cell (i := 7) h8 rfl
    have v0 := At.cell (i := 0) h9 rfl
    have f0 := At.frz h9 0
    have v1 := At.cell (i := 1) h9 rfl
    have f1 := At.frz h9 1
    have v2 := At.cell (i := 2) h9 rfl
    have f2 := At.frz h9 2
    have v3 := At.cell (i := 3) h9 rfl
    have f3 := At.frz h9 3
    have v4 := At.cell (i := 4) h9 rfl
    have f4 := At.frz h9 4
    have v5 := At.cell (i := 5) h9 rfl
    have f5 := At.frz h9 5
    have v6 := At.cell (i := 6) h9 rfl
    have f6 := At.frz h9 6
    have v7 := At.cell (i := 7) h9 rfl
    have f7 := At.frz h9 7
    have fl := At.lt h9
    cases ok with
    | false =>
      have hd := HD2.out
      rw [Bool.false_and, if_neg (by simp)] at hd
      subst hd
      clear HD2
      simp only [Rec.cells]
      have v0 := At.cell (i := 0) h9 rfl
      have f0 := At.frz h9 0
      have v1 := At.cell (i := 1) h9 rfl
      have f1 := At.frz h9 1
      have v2 := At.cell (i := 2) h9 rfl
      have f2 := At.frz h9 2
      have v3 := At.cell (i := 3) h9 rfl
      have f3 := At.frz h9 3
      have v4 := At.cell (i := 4) h9 rfl
      have f4 := At.frz h9 4
      have v5 := At.cell (i := 5) h9 rfl
      have f5 := At.frz h9 5
      have v6 := At.cell (i := 6) h9 rfl
      have f6 := At.frz h9 6
      have v7 := At.cell (i := 7) h9 rfl
      have f7 := At.frz h9 7
      have fl := At.lt h9
      go_wp2_with fail
      have hz := ((((((((h9.set' (d := #[.int .i64 0, .int .i64 0, .int .i64 0, .int .i64 0, .string ⟨#[]⟩, .string ⟨#[]⟩, .string ⟨#[]⟩, .slice none 0 0]) 0 (.int .i64 0) rfl).set' (d := #[.int .i64 0, .int .i64 0, .int .i64 0, .int .i64 0, .string ⟨#[]⟩, .string ⟨#[]⟩, .string ⟨#[]⟩, .slice none 0 0]) 1 (.int .i64 0) rfl).set' (d := #[.int .i64 0, .int .i64 0, .int .i64 0, .int .i64 0, .string ⟨#[]⟩, .string ⟨#[]⟩, .string ⟨#[]⟩, .slice none 0 0]) 2 (.int .i64 0) rfl).set' (d := #[.int .i64 0, .int .i64 0, .int .i64 0, .int .i64 0, .string ⟨#[]⟩, .string ⟨#[]⟩, .string ⟨#[]⟩, .slice none 0 0]) 3 (.int .i64 0) rfl).set' (d := #[.int .i64 0, .int .i64 0, .int .i64 0, .int .i64 0, .string ⟨#[]⟩, .string ⟨#[]⟩, .string ⟨#[]⟩, .slice none 0 0]) 4 (.string ⟨#[]⟩) rfl).set' (d := #[.int .i64 0, .int .i64 0, .int .i64 0, .int .i64 0, .string ⟨#[]⟩, .string ⟨#[]⟩, .string ⟨#[]⟩, .slice none 0 0]) 5 (.string ⟨#[]⟩) rfl).set' (d := #[.int .i64 0, .int .i64 0, .int .i64 0, .int .i64 0, .string ⟨#[]⟩, .string ⟨#[]⟩, .string ⟨#[]⟩, .slice none 0 0]) 6 (.string ⟨#[]⟩) rfl).set' (d := #[.int .i64 0, .int .i64 0, .int .i64 0, .int .i64 0, .string ⟨#[]⟩, .string ⟨#[]⟩, .string ⟨#[]⟩, .slice none 0 0]) 7 (.slice none 0 0) rfl)
      have r0 := At.cell (i := 0) hz rfl
      have r1 := At.cell (i := 1) hz rfl
      have r2 := At.cell (i := 2) hz rfl
      have r3 := At.cell (i := 3) hz rfl
      have r4 := At.cell (i := 4) hz rfl
      have r5 := At.cell (i := 5) hz rfl
      have r6 := At.cell (i := 6) hz rfl
      have r7 := At.cell (i := 7) hz rfl
      refine bodyPost_ret (v := .tuple #[.agg #[.int .i64 0, .int .i64 0, .int .i64 0, .int .i64 0, .string ⟨#[]⟩, .string ⟨#[]⟩, .string ⟨#[]⟩, .slice none 0 0], .int .i64 0, .bool false]) (by simp [results, Try.results50, go_sem, r0, r1, r2, r3, r4, r5, r6, r7]) rfl ?_
      exact ⟨rfl, hz.r.r.r.r.r⟩
    | true =>
      have hrt := recRight_any w0 _ _ x a5 c5 h9
      simp only [Rec.cells] at hrt ⊢
      go_wp2_with fail
      refine hrt.mono ?_
      rintro e w6 ⟨rfl, h10⟩
      clear hrt h8 h9 g0 g1 g2 g3 g4 g5 g6 g7 v0 v1 v2 v3 v4 v5 v6 v7 f0 f1 f2 f3 f4 f5 f6 f7 fl
      have h11 := h10.pull2
      have g0 := At.cell (i := 0) h11 rfl
      have g1 := At.cell (i := 1) h11 rfl
      have g2 := At.cell (i := 2) h11 rfl
      have g3 := At.cell (i := 3) h11 rfl
      have g4 := At.cell (i := 4) h11 rfl
      have g5 := At.cell (i := 5) h11 rfl
      have g6 := At.cell (i := 6) h11 rfl
      have g7 := At.cell (i := 7) h11 rfl
      have v0 := At.cell (i := 0) h10 rfl
      have f0 := At.frz h10 0
      have v1 := At.cell (i := 1) h10 rfl
      have f1 := At.frz h10 1
      have v2 := At.cell (i := 2) h10 rfl
      have f2 := At.frz h10 2
      have v3 := At.cell (i := 3) h10 rfl
      have f3 := At.frz h10 3
      have v4 := At.cell (i := 4) h10 rfl
      have f4 := At.frz h10 4
      have v5 := At.cell (i := 5) h10 rfl
      have f5 := At.frz h10 5
      have v6 := At.cell (i := 6) h10 rfl
      have f6 := At.frz h10 6
      have v7 := At.cell (i := 7) h10 rfl
      have f7 := At.frz h10 7
      have fl := At.lt h10
      rw [HX.out]
      cases hri : x.right with
      | false =>
        have hd := HD2.out
        rw [hri, Bool.and_false, if_neg (by simp)] at hd
        subst hd
        clear HD2
        have v0 := At.cell (i := 0) h10 rfl
        have f0 := At.frz h10 0
        have v1 := At.cell (i := 1) h10 rfl
        have f1 := At.frz h10 1
        have v2 := At.cell (i := 2) h10 rfl
        have f2 := At.frz h10 2
        have v3 := At.cell (i := 3) h10 rfl
        have f3 := At.frz h10 3
        have v4 := At.cell (i := 4) h10 rfl
        have f4 := At.frz h10 4
        have v5 := At.cell (i := 5) h10 rfl
        have f5 := At.frz h10 5
        have v6 := At.cell (i := 6) h10 rfl
        have f6 := At.frz h10 6
        have v7 := At.cell (i := 7) h10 rfl
        have f7 := At.frz h10 7
        have fl := At.lt h10
        go_wp2_with fail
        have hz := ((((((((h10.set' (d := #[.int .i64 0, .int .i64 0, .int .i64 0, .int .i64 0, .string ⟨#[]⟩, .string ⟨#[]⟩, .string ⟨#[]⟩, .slice none 0 0]) 0 (.int .i64 0) rfl).set' (d := #[.int .i64 0, .int .i64 0, .int .i64 0, .int .i64 0, .string ⟨#[]⟩, .string ⟨#[]⟩, .string ⟨#[]⟩, .slice none 0 0]) 1 (.int .i64 0) rfl).set' (d := #[.int .i64 0, .int .i64 0, .int .i64 0, .int .i64 0, .string ⟨#[]⟩, .string ⟨#[]⟩, .string ⟨#[]⟩, .slice none 0 0]) 2 (.int .i64 0) rfl).set' (d := #[.int .i64 0, .int .i64 0, .int .i64 0, .int .i64 0, .string ⟨#[]⟩, .string ⟨#[]⟩, .string ⟨#[]⟩, .slice none 0 0]) 3 (.int .i64 0) rfl).set' (d := #[.int .i64 0, .int .i64 0, .int .i64 0, .int .i64 0, .string ⟨#[]⟩, .string ⟨#[]⟩, .string ⟨#[]⟩, .slice none 0 0]) 4 (.string ⟨#[]⟩) rfl).set' (d := #[.int .i64 0, .int .i64 0, .int .i64 0, .int .i64 0, .string ⟨#[]⟩, .string ⟨#[]⟩, .string ⟨#[]⟩, .slice none 0 0]) 5 (.string ⟨#[]⟩) rfl).set' (d := #[.int .i64 0, .int .i64 0, .int .i64 0, .int .i64 0, .string ⟨#[]⟩, .string ⟨#[]⟩, .string ⟨#[]⟩, .slice none 0 0]) 6 (.string ⟨#[]⟩) rfl).set' (d := #[.int .i64 0, .int .i64 0, .int .i64 0, .int .i64 0, .string ⟨#[]⟩, .string ⟨#[]⟩, .string ⟨#[]⟩, .slice none 0 0]) 7 (.slice none 0 0) rfl)
        have r0 := At.cell (i := 0) hz rfl
        have r1 := At.cell (i := 1) hz rfl
        have r2 := At.cell (i := 2) hz rfl
        have r3 := At.cell (i := 3) hz rfl
        have r4 := At.cell (i := 4) hz rfl
        have r5 := At.cell (i := 5) hz rfl
        have r6 := At.cell (i := 6) hz rfl
        have r7 := At.cell (i := 7) hz rfl
        refine bodyPost_ret (v := .tuple #[.agg #[.int .i64 0, .int .i64 0, .int .i64 0, .int .i64 0, .string ⟨#[]⟩, .string ⟨#[]⟩, .string ⟨#[]⟩, .slice none 0 0], .int .i64 0, .bool false]) (by simp [results, Try.results50, go_sem, r0, r1, r2, r3, r4, r5, r6, r7]) rfl ?_
        exact ⟨rfl, hz.r.r.r.r.r⟩
      | true =>
        have hd := HD2.out
        rw [hri, Bool.and_true, if_pos rfl] at hd
        subst hd
        clear HD2
        have m1 := M1.out
        go_wp2_with fail
        have hz := ((((((((h10.set' (d := #[.int .i64 x.kind, .int .i64 0, .int .i64 0, .int .i64 0, .string ⟨#[]⟩, .string ⟨#[]⟩, .string ⟨#[]⟩, .slice none 0 0]) 0 (.int .i64 x.kind) rfl).set' (d := #[.int .i64 x.kind, .int .i64 x.txn, .int .i64 0, .int .i64 0, .string ⟨#[]⟩, .string ⟨#[]⟩, .string ⟨#[]⟩, .slice none 0 0]) 1 (.int .i64 x.txn) rfl).set' (d := #[.int .i64 x.kind, .int .i64 x.txn, .int .i64 x.page, .int .i64 0, .string ⟨#[]⟩, .string ⟨#[]⟩, .string ⟨#[]⟩, .slice none 0 0]) 2 (.int .i64 x.page) rfl).set' (d := #[.int .i64 x.kind, .int .i64 x.txn, .int .i64 x.page, .int .i64 x.slot, .string ⟨#[]⟩, .string ⟨#[]⟩, .string ⟨#[]⟩, .slice none 0 0]) 3 (.int .i64 x.slot) rfl).set' (d := #[.int .i64 x.kind, .int .i64 x.txn, .int .i64 x.page, .int .i64 x.slot, .string x.before, .string ⟨#[]⟩, .string ⟨#[]⟩, .slice none 0 0]) 4 (.string x.before) rfl).set' (d := #[.int .i64 x.kind, .int .i64 x.txn, .int .i64 x.page, .int .i64 x.slot, .string x.before, .string x.after, .string ⟨#[]⟩, .slice none 0 0]) 5 (.string x.after) rfl).set' (d := #[.int .i64 x.kind, .int .i64 x.txn, .int .i64 x.page, .int .i64 x.slot, .string x.before, .string x.after, .string x.image, .slice none 0 0]) 6 (.string x.image) rfl).set' (d := #[.int .i64 x.kind, .int .i64 x.txn, .int .i64 x.page, .int .i64 x.slot, .string x.before, .string x.after, .string x.image, .slice a5 x.dirty.length c5]) 7 (.slice a5 x.dirty.length c5) rfl)
        have r0 := At.cell (i := 0) hz rfl
        have r1 := At.cell (i := 1) hz rfl
        have r2 := At.cell (i := 2) hz rfl
        have r3 := At.cell (i := 3) hz rfl
        have r4 := At.cell (i := 4) hz rfl
        have r5 := At.cell (i := 5) hz rfl
        have r6 := At.cell (i := 6) hz rfl
        have r7 := At.cell (i := 7) hz rfl
        refine bodyPost_ret (v := .tuple #[.agg #[.int .i64 x.kind, .int .i64 x.txn, .int .i64 x.page, .int .i64 x.slot, .string x.before, .string x.after, .string x.image, .slice a5 x.dirty.length c5], .int .i64 (2 + x1 : Nat), .bool true]) (by simp [results, Try.results50, go_sem, r0, r1, r2, r3, r4, r5, r6, r7]) rfl ?_
        exact ⟨a5, c5, rfl, hz.r.r.pull3.r.pull2.r⟩
end Go.Proofs.Ytmlifjfgelfbbaa
