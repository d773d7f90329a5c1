/-
  What the law's comparison comes to: a contract, no statement.
-/
import Derived.Test.YtmkcbadcmkhceaaTl
import Derived.Test.YtmkcbadcmkhceaaKp
import Derived.Test.YtmkcbadcmkhceaaAl
import Derived.BigQuiet
import Derived.Deep.QuietTactic
import Derived.Deep.DeepCutAuto
namespace Go.Proofs.Ytmkcbadcmkhceaa
open Go Go.RowKit Go.Shelf
attribute [local go_sem] Oper.semAt_some

theorem opensTo_next {p : Nat → Option Nat} {n b : Nat} (hn : n = 1 ∨ n = 2 ∨ n = 3) (h : p n = some b) : opensTo p (n + 1) = opensTo p n ++ [(n, b)] := by
  rcases hn with rfl | rfl | rfl
  · exact opens_one h
  · exact opens_two h
  · exact opens_three h
theorem opensTo_skip {p : Nat → Option Nat} {n : Nat} (hn : n = 1 ∨ n = 2 ∨ n = 3) (h : p n = none) : opensTo p (n + 1) = opensTo p n := by
  rcases hn with rfl | rfl | rfl
  · exact opens_no1 h
  · exact opens_no2 h
  · exact opens_no3 h
theorem opensTo_len (p : Nat → Option Nat) (n : Nat) : (opensTo p n).length ≤ 3 := by
  have h : ∀ i o, (one i o).length ≤ 1 := fun i o => by cases o <;> simp [one]
  have h1 := h 1 (p 1)
  have h2 := h 2 (p 2)
  have h3 := h 3 (p 3)
  unfold opensTo
  split <;> simp <;> omega
theorem opensTo_pre (p : Nat → Option Nat) (n : Nat) : opensTo p n <+: opens p := by
  unfold opens opensTo
  split <;> simp

theorem got_nat {p : Nat → Option Nat} {k : Nat} (hk : k = 1 ∨ k = 2 ∨ k = 3) : got p (k : Int) = p k := by
  rcases hk with rfl | rfl | rfl <;> rfl
theorem totOf_le {d : Nat → Td} (hd : ∀ i, (d i).l.length ≤ 1000) (l : List (Nat × Nat)) : totOf d l ≤ 1000 * l.length := by
  induction l with
  | nil => exact Nat.zero_le _
  | cons x l ih =>
    show (d x.1).l.length + totOf d l ≤ 1000 * (l.length + 1)
    have := hd x.1
    omega

def lastOf (l : List (Nat × Nat)) : Nat := (l.getLast?.map (·.1)).getD 0
theorem lastOf_snoc (l : List (Nat × Nat)) (x : Nat × Nat) : lastOf (l ++ [x]) = x.1 := by simp [lastOf]
theorem opens_sorted (p : Nat → Option Nat) : (opens p).Pairwise (fun a b => a.1 < b.1) := by
  unfold opens opensTo
  cases p 1 <;> cases p 2 <;> cases p 3 <;> simp [one]
theorem lastOf_lt {p : Nat → Option Nat} {pre : List (Nat × Nat)} {x : Nat × Nat} (h : pre ++ [x] <+: opens p) : lastOf pre < x.1 := by
  have hm := mem_opens (mem_pre h)
  have hs := (opens_sorted p).sublist h.sublist
  rw [List.pairwise_append] at hs
  unfold lastOf
  cases hl : pre.getLast? with
  | none => simp; rcases hm with h | h | h <;> omega
  | some y =>
    have := hs.2.2 y (List.mem_of_getLast? hl) x (by simp)
    simpa using this

set_option maxRecDepth 100000 in
set_option maxHeartbeats 8000000 in
theorem same_any (w0 w : World) (R : HP) (T : Nat) (st : St) (d : Nat → Td) (hd : ∀ i, (d i).l.length ≤ 1000) (h : At w0 (full T st d 1 * R) w) :
    Calls Try.prog 24 #[.pointer (some ⟨T, 0, none⟩), .agg #[.pointer none, ptr (pB st 1), ptr (pB st 2), ptr (pB st 3)]] w fun e w' => e = .returned (.bool true) ∧ At w0 (full T st d 1 * R) w' := by
  have i0 : ∀ w, (Instr.index 52 (.agg #[.pointer none, ptr (pB st 1), ptr (pB st 2), ptr (pB st 3)]) (.int .i64 0)).run Try.prog w = .ok (.pointer none) w := fun _ => by kernel_rfl
  have i1 : ∀ w, (Instr.index 52 (.agg #[.pointer none, ptr (pB st 1), ptr (pB st 2), ptr (pB st 3)]) (.int .i64 1)).run Try.prog w = .ok (ptr (pB st 1)) w := fun _ => by kernel_rfl
  have i2 : ∀ w, (Instr.index 52 (.agg #[.pointer none, ptr (pB st 1), ptr (pB st 2), ptr (pB st 3)]) (.int .i64 2)).run Try.prog w = .ok (ptr (pB st 2)) w := fun _ => by kernel_rfl
  have i3 : ∀ w, (Instr.index 52 (.agg #[.pointer none, ptr (pB st 1), ptr (pB st 2), ptr (pB st 3)]) (.int .i64 3)).run Try.prog w = .ok (ptr (pB st 3)) w := fun _ => by kernel_rfl
  have hidx : ∀ k : Nat, (k = 1 ∨ k = 2 ∨ k = 3) → ∀ w, (Instr.index 52 (.agg #[.pointer none, ptr (pB st 1), ptr (pB st 2), ptr (pB st 3)]) (.int .i64 k)).run Try.prog w = .ok (ptr (pB st k)) w := by
    rintro k (rfl | rfl | rfl) w
    · exact i1 w
    · exact i2 w
    · exact i3 w
  have Hidx := hide hidx
  clear i1 i2 i3 hidx
  refine (callsIn_wide (n := 9)).1 ?_
  refine callsIn_of_wp_marks Try.func24 rfl trivial (wpIn_wide.2 ?_)
  simp only [Try.ntmps24, List.size_toArray, List.length_cons, List.length_nil, Nat.reduceAdd, Nat.reduceSub, Array.replicate_succ, Array.replicate_zero, List.push_toArray, List.append_toArray, List.nil_append, List.cons_append]
  go_wp2_with fail
  obtain ⟨B3, hB3⟩ : ∃ N, w.heap.size = N := ⟨_, rfl⟩
  obtain ⟨RB, hRB⟩ : ∃ N, w.heap.size + 1 = N := ⟨_, rfl⟩
  obtain ⟨OP, hOP⟩ : ∃ N, w.heap.size + 1 + 1 = N := ⟨_, rfl⟩
  have h1 : At w0 (cel OP #[.int .i64 0] 3 * (cel RB #[.bool false] 4 * (cel B3 #[.pointer none, ptr (pB st 1), ptr (pB st 2), ptr (pB st 3)] 52 * (full T st d 1 * R))))
      (((w.alloc (.cells #[.pointer none, ptr (pB st 1), ptr (pB st 2), ptr (pB st 3)] 52)).alloc (.cells #[.bool false] 4)).alloc (.cells #[.int .i64 0] 3)) :=
    (((h.alloc' hB3 _).alloc' (show _ = RB by simp [hRB]) _).alloc' (show _ = OP by simp [hOP]) _)
  rw [hOP, hRB, hB3]
  clear hB3 hRB hOP h
  go_loopw [6, 15] (fun al i wr => ∃ k : Nat, k ≤ 4 ∧ i = .int .i64 k ∧ al = .int .i64 (totOf d (opensTo (pA st) k)) ∧
    At w0 (cel OP #[.int .i64 (opensTo (pA st) k).length] 3 * (cel RB #[.bool false] 4 * (cel B3 #[.pointer none, ptr (pB st 1), ptr (pB st 2), ptr (pB st 3)] 52 * (full T st d 1 * R)))) wr) (fun _ i _ => 4 - (intOf i).toNat)
  case atStart => exact ⟨0, Nat.zero_le _, rfl, rfl, h1⟩
  case round =>
    obtain ⟨k, hk, rfl, rfl, h2⟩ := hrel
    clear h1
    have hk4 : k = 0 ∨ (k = 1 ∨ k = 2 ∨ k = 3) ∨ k = 4 := by omega
    rcases hk4 with rfl | hk3 | rfl
    · have h3 := h2.cast (show _ = tbl T (pA st) * (cel OP #[.int .i64 (opensTo (pA st) 0).length] 3 * (cel RB #[.bool false] 4 * (cel B3 #[.pointer none, ptr (pB st 1), ptr (pB st 2), ptr (pB st 3)] 52 * ((1 * (two (st 1) (d 1) * (two (st 2) (d 2) * two (st 3) (d 3)))) * R)))) by unfold full; ac_rfl)
      go_wp2_with fail
      refine (get_any w0 _ _ T _ 0 h3).mono ?_
      rintro e4 w4 ⟨rfl, rfl⟩
      rw [show ptr (got (pA st) 0) = .pointer none from rfl]
      clear h3
      go_wp2_with fail
      refine (full_nil _).mono ?_
      rintro e5 w5 ⟨rfl, rfl⟩
      go_wp2_with fail
      refine (len_nil _).mono ?_
      rintro e5 w5 ⟨rfl, rfl⟩
      go_wp2_with fail
      go_roundw
      case rel => exact ⟨1, by omega, by go_num, rfl, h2⟩
      case measure => simp [intOf]
    · have hkz : (k : Int) < 4 := by omega
      have Hk3 := hide hk3
      have hix := Hidx.out k hk3
      have Hlen := hide (opensTo_len (pA st) k)
      have Htot := hide (totOf_le hd (opensTo (pA st) k))
      clear hk3 hk
      cases hst : st k with
      | none =>
        have hp : pA st k = none := by unfold pA; rw [hst]; rfl
        have hq : pB st k = none := by unfold pB; rw [hst]; rfl
        have hg := fun (R' : HP) (h : At w0 (tbl T (pA st) * R') wr) => get_any w0 wr R' T (pA st) (k : Int) h
        rw [got_nat Hk3.out, hp, ptr_none] at hg
        have hix' : ∀ w, (Instr.index 52 (.agg #[.pointer none, ptr (pB st 1), ptr (pB st 2), ptr (pB st 3)]) (.int .i64 k)).run Try.prog w = .ok (.pointer none) w := fun w => (hix w).trans (by rw [hq]; rfl)
        have Hn := hide (opensTo_skip Hk3.out hp)
        clear hix hp hq hst
        have h3 := h2.cast (show _ = tbl T (pA st) * (cel OP #[.int .i64 (opensTo (pA st) k).length] 3 * (cel RB #[.bool false] 4 * (cel B3 #[.pointer none, ptr (pB st 1), ptr (pB st 2), ptr (pB st 3)] 52 * ((1 * (two (st 1) (d 1) * (two (st 2) (d 2) * two (st 3) (d 3)))) * R)))) by unfold full; ac_rfl)
        go_wp2_with fail
        refine (hg _ h3).mono ?_
        rintro e4 w4 ⟨rfl, rfl⟩
        clear h3 hg
        go_wp2_with fail
        refine (full_nil _).mono ?_
        rintro e5 w5 ⟨rfl, rfl⟩
        go_wp2_with fail
        refine (len_nil _).mono ?_
        rintro e5 w5 ⟨rfl, rfl⟩
        go_wp2_with fail
        go_roundw
        case rel => exact ⟨k + 1, by omega, by go_num, by rw [Hn.out], by rw [Hn.out]; exact h2⟩
        case measure => simp [intOf]; omega
      | some x =>
        obtain ⟨b, b'⟩ := x
        have hp : pA st k = some b := by unfold pA; rw [hst]; rfl
        have hq : pB st k = some b' := by unfold pB; rw [hst]; rfl
        have hg := fun (R' : HP) (h : At w0 (tbl T (pA st) * R') wr) => get_any w0 wr R' T (pA st) (k : Int) h
        rw [got_nat Hk3.out, hp, ptr_some] at hg
        have hix' : ∀ w, (Instr.index 52 (.agg #[.pointer none, ptr (pB st 1), ptr (pB st 2), ptr (pB st 3)]) (.int .i64 k)).run Try.prog w = .ok (.pointer (some ⟨b', 0, none⟩)) w := fun w => (hix w).trans (by rw [hq]; rfl)
        have Hn := hide (opensTo_next Hk3.out hp)
        obtain ⟨C, hC, _⟩ := full_at0 (T := T) (d := d) (A := 1) Hk3.out hst
        have Hdk := hide (hd k)
        have HC := hide hC
        rw [hC] at h2
        clear hix hp hq hst hC
        have Hs := hide (totOf_snoc d (opensTo (pA st) k) (k, b))
        have Hlk : (d (k, b).1).l.length = (d k).l.length := rfl
        rw [Hlk] at Hs
        clear Hlk
        generalize (d k).l = ls at *
        generalize (d k).sv = sv at *
        generalize (d k).ops = op at *
        have h3 := h2.cast (show _ = tbl T (pA st) * (txb b ls sv op * (txl b' ls sv op * (cel OP #[.int .i64 (opensTo (pA st) k).length] 3 * (cel RB #[.bool false] 4 * (cel B3 #[.pointer none, ptr (pB st 1), ptr (pB st 2), ptr (pB st 3)] 52 * ((1 * C) * R)))))) by ac_rfl)
        clear h2
        go_wp2_with fail
        refine (hg _ h3).mono ?_
        rintro e4 w4 ⟨rfl, rfl⟩
        clear hg
        go_wp2_with fail
        refine (list_some w0 _ _ b ls sv op h3.pull2 Hdk.out).mono ?_
        rintro e5 w5 ⟨a5, c5, rfl, h5⟩
        clear h3
        obtain ⟨v, vs, h6⟩ := h5.pull4.txl_open
        obtain ⟨ar, cp, rfl⟩ := h6.pull2.row_len
        have hb0 := At.cell (i := 0) h6 rfl
        have hb2 := At.cell (i := 2) h6 rfl
        have hlen := fun n => len_some w0 (w5.drewN n) _ b ls sv op (h5.drewN n).pull2
        have hful := fun n => full_some w0 (w5.drewN n) _ b ls sv op (h5.drewN n).pull2
        clear h5
        have h7 := fun n => (h6.drewN n).cast (show _ = row 36 3 (.slice a5 ls.length c5) ls.length (chs ls) * (cel b' #[.slice ar ls.length cp, vs, .int .i64 op] 56 * (row 36 3 (.slice ar ls.length cp) ls.length (chs ls) * (row 3 1 vs sv.length (sv.map (.int .i64)) * (txb b ls sv op * (tbl T (pA st) * (cel OP #[.int .i64 (opensTo (pA st) k).length] 3 * (cel RB #[.bool false] 4 * (cel B3 #[.pointer none, ptr (pB st 1), ptr (pB st 2), ptr (pB st 3)] 52 * ((1 * C) * R))))))))) by ac_rfl)
        clear h6
        go_wp2_with fail
        go_quiet (first | (go_at_call 19; exact quiet_left (hlen _)) | (go_at_call 17; exact quiet_left (hful _)))
        go_wp2_with fail
        clear hlen hful hb0 hb2
        have h8 := h7 nq
        clear h7
        obtain ⟨wo, hwo⟩ : ∃ wo : World, wo = w5.drewN nq := ⟨_, rfl⟩
        rw [← hwo] at h8 ⊢
        clear hwo
        obtain ⟨wo2, rfl⟩ : ∃ wo2 : World, wo2 = wr := ⟨_, rfl⟩
        go_loopw [66] (fun i wy => ∃ j : Nat, j ≤ ls.length ∧ i = .int .i64 j ∧ At w0 (row 36 3 (.slice a5 ls.length c5) ls.length (chs ls) * (cel b' #[.slice ar ls.length cp, vs, .int .i64 op] 56 * (row 36 3 (.slice ar ls.length cp) ls.length (chs ls) * (row 3 1 vs sv.length (sv.map (.int .i64)) * (txb b ls sv op * (tbl T (pA st) * (cel OP #[.int .i64 (opensTo (pA st) k).length] 3 * (cel RB #[.bool false] 4 * (cel B3 #[.pointer none, ptr (pB st 1), ptr (pB st 2), ptr (pB st 3)] 52 * ((1 * C) * R)))))))))) wy) (fun i _ => ls.length - (intOf i).toNat)
        case atStart => exact ⟨0, Nat.zero_le _, rfl, h8⟩
        case round =>
          obtain ⟨j, hj, rfl, h9⟩ := hrel
          clear h8
          have hls : ls.length ≤ 1000 := Hdk.out
          by_cases hjl : j < ls.length
          · have hjz : (j : Int) < (ls.length : Int) := by omega
            obtain ⟨g, cp9, hv, hle, hcell⟩ := h9.row_ptr (by omega)
            simp at hv
            obtain ⟨rfl, rfl⟩ := hv
            obtain ⟨g2, cp8, hv2, hle2, hcell2⟩ := h9.pull3.row_ptr (by omega)
            simp at hv2
            obtain ⟨rfl, rfl⟩ := hv2
            obtain ⟨hx0, hx1, hx2⟩ := chs_trio ls j _ (List.getElem?_eq_getElem hjl)
            have hg0 := hcell _ _ hx0
            have hg1 := hcell _ _ hx1
            have hg2 := hcell _ _ hx2
            have hm0 := hcell2 _ _ hx0
            have hm1 := hcell2 _ _ hx1
            have hm2 := hcell2 _ _ hx2
            have hb0 := At.cell (i := 0) h9.pull2 rfl
            clear hcell hcell2 hx0 hx1 hx2
            generalize ls[j] = c at *
            go_wp2_with fail
            refine wp_region_line [0, 1, 2, 3, 4, 5, 6, 7, 8, 9, 10, 11] rfl (by kernel_rfl) ?_
            simp only [picks_cons, picks_nil, getD_zero, getD_succ]
            go_wp2_with fail
            refine ⟨by kernel_rfl, ?_⟩
            go_wp2_with fail
            go_roundw
            case rel => exact ⟨j + 1, by omega, by go_num, h9.drew⟩
            case measure => simp [intOf]; omega
          · have hjz : (ls.length : Int) ≤ (j : Int) := by omega
            have h10 := (At.txl_shut (h9.cast (show _ = cel b' #[.slice ar ls.length cp, vs, .int .i64 op] 56 * (row 36 3 (.slice ar ls.length cp) ls.length (chs ls) * (row 3 1 vs sv.length (sv.map (.int .i64)) * (row 36 3 (.slice a5 ls.length c5) ls.length (chs ls) * (txb b ls sv op * (tbl T (pA st) * (cel OP #[.int .i64 (opensTo (pA st) k).length] 3 * (cel RB #[.bool false] 4 * (cel B3 #[.pointer none, ptr (pB st 1), ptr (pB st 2), ptr (pB st 3)] 52 * ((1 * C) * R))))))))) by ac_rfl))).pull2.r
            have h11 := h10.cast (show _ = cel OP #[.int .i64 (opensTo (pA st) k).length] 3 * (cel RB #[.bool false] 4 * (cel B3 #[.pointer none, ptr (pB st 1), ptr (pB st 2), ptr (pB st 3)] 52 * (full T st d 1 * R))) by rw [HC.out]; ac_rfl)
            clear h9 h10 hjl
            have ho := At.cell (i := 0) h11 rfl
            have hfo := At.frz h11 0
            have hlo := At.lt h11
            have hn3 := Hlen.out
            have hd1 := Hdk.out
            have ht3 := Htot.out
            generalize hoa : (opensTo (pA st) k).length = oa at *
            generalize hob : totOf d (opensTo (pA st) k) = ob at *
            have Hoa := hide hoa
            have Hob := hide hob
            clear hoa hob
            go_wp2_with fail
            go_roundw
            case rel =>
              refine ⟨k + 1, by omega, by go_num, ?_, ?_⟩
              · rw [Hn.out, Hs.out]
                go_num
              · rw [Hn.out, List.length_append, Hoa.out]
                exact h11.set' 0 (.int .i64 ((oa : Int) + 1)) rfl
            case measure => simp [intOf]; omega
    · go_wp2_with fail
      obtain ⟨L, hL⟩ : ∃ N, wr.heap.size = N := ⟨_, rfl⟩
      have h3 : At w0 (cel L #[.int .i64 0] 3 * (cel OP #[.int .i64 (opensTo (pA st) 4).length] 3 * (cel RB #[.bool false] 4 * (cel B3 #[.pointer none, ptr (pB st 1), ptr (pB st 2), ptr (pB st 3)] 52 * (full T st d 1 * R))))) (wr.alloc (.cells #[.int .i64 0] 3)) := h2.alloc' hL _
      rw [hL]
      clear h2 hL
      refine wpIn_wide.1 (wp_rangeFunc_at (n := 9) (w0 := w0) rfl (enters_of Try.func25 (by kernel_rfl) rfl) (all_seq w0 T (pA st)) (fun _ => rfl)
        (fun pre => cel L #[.int .i64 (lastOf pre)] 3 * (cel OP #[.int .i64 (((opens (pA st)).length : Int) - pre.length)] 3 * (cel RB #[.bool false] 4 * (cel B3 #[.pointer none, ptr (pB st 1), ptr (pB st 2), ptr (pB st 3)] 52 * full T st d 1))))
        (fact False) R ⟨_, h3.cast (show _ = tbl T (pA st) * (cel L #[.int .i64 0] 3 * (cel OP #[.int .i64 (opensTo (pA st) 4).length] 3 * (cel RB #[.bool false] 4 * (cel B3 #[.pointer none, ptr (pB st 1), ptr (pB st 2), ptr (pB st 3)] 52 * ((1 * (two (st 1) (d 1) * (two (st 2) (d 2) * two (st 3) (d 3)))) * R))))) by unfold full; ac_rfl)⟩
        (h3.cast (show _ = (cel L #[.int .i64 0] 3 * (cel OP #[.int .i64 (opensTo (pA st) 4).length] 3 * (cel RB #[.bool false] 4 * (cel B3 #[.pointer none, ptr (pB st 1), ptr (pB st 2), ptr (pB st 3)] 52 * full T st d 1)))) * R by ac_rfl)) ?_ ?_ ?_)
      · intro l pre x B W hp hJ
        simp only [enc2, ptr_some]
        gi_wp2
        refine ⟨_, hJ, fun B2 W2 hJ => ?_⟩
        have hx := mem_opens (mem_pre hp)
        have hlast : (lastOf pre : Int) < (x.1 : Int) := by have := lastOf_lt hp; omega
        have hle : pre.length + 1 ≤ (opens (pA st)).length := by have := hp.length_le; simpa using this
        have h3l : (opens (pA st)).length ≤ 3 := opensTo_len (pA st) 4
        have hk3 : x.1 = 1 ∨ x.1 = 2 ∨ x.1 = 3 := by rcases hx with h | h | h <;> simp [h.1]
        have hpx : pA st x.1 = some x.2 := by
          rcases hx with ⟨h, h'⟩ | ⟨h, h'⟩ | ⟨h, h'⟩ <;> rw [h] <;> exact h'
        obtain ⟨b', hq⟩ : ∃ b', pB st x.1 = some b' := by
          unfold pA at hpx
          unfold pB
          cases hst : st x.1 with
          | none => rw [hst] at hpx; cases hpx
          | some y => exact ⟨y.2, rfl⟩
        have h4 := hJ.cast (show _ = cel L #[.int .i64 (lastOf pre)] 3 * (cel OP #[.int .i64 (((opens (pA st)).length : Int) - pre.length)] 3 * (cel RB #[.bool false] 4 * (cel B3 #[.pointer none, ptr (pB st 1), ptr (pB st 2), ptr (pB st 3)] 52 * (full T st d 1 * B2)))) by ac_rfl)
        have hl0 := At.cell (i := 0) h4 rfl
        have hlf := At.frz h4 0
        have hll := At.lt h4
        have ho0 := At.cell (i := 0) h4.pull2 rfl
        have hof := At.frz h4.pull2 0
        have hol := At.lt h4.pull2
        have hlo := At.ne h4
        have hm : W2.cell? ⟨B3, x.1, none⟩ = some (.pointer (some ⟨b', 0, none⟩)) := by
          rw [At.cells h4.pull4]
          have : #[Value.pointer none, ptr (pB st 1), ptr (pB st 2), ptr (pB st 3)][x.1]? = some (ptr (pB st x.1)) := by
            rcases hk3 with h | h | h <;> rw [h] <;> rfl
          rw [this, hq]; rfl
        have hx3 : x.1 ≤ 3 := by omega
        have Hle := hide (And.intro hle h3l)
        have Hk := hide hk3
        clear hx hpx hq hk3 hJ hle h3l
        have hsn : ∀ (W3 : World), At w0 (cel L #[.int .i64 x.1] 3 * (cel OP #[.int .i64 (((opens (pA st)).length : Int) - (pre ++ [x]).length)] 3 * (cel RB #[.bool false] 4 * (cel B3 #[.pointer none, ptr (pB st 1), ptr (pB st 2), ptr (pB st 3)] 52 * (full T st d 1 * B2))))) W3 →
            At w0 ((cel L #[.int .i64 (lastOf (pre ++ [x]))] 3 * (cel OP #[.int .i64 (((opens (pA st)).length : Int) - (pre ++ [x]).length)] 3 * (cel RB #[.bool false] 4 * (cel B3 #[.pointer none, ptr (pB st 1), ptr (pB st 2), ptr (pB st 3)] 52 * full T st d 1)))) * B2) W3 := fun W3 h => by
          rw [lastOf_snoc]
          exact h.cast (by ac_rfl)
        have Hsn := hide hsn
        clear hsn
        have hbo : 0 ≤ ((opens (pA st)).length : Int) - pre.length ∧ ((opens (pA st)).length : Int) - pre.length ≤ 3 := by have := Hle.out; omega
        have Heq : Hid (((opens (pA st)).length : Int) - (pre ++ [x]).length = (((opens (pA st)).length : Int) - pre.length) - 1) := hide (by simp; omega)
        rw [Heq.out] at Hsn
        generalize ((opens (pA st)).length : Int) - pre.length = oc at *
        obtain ⟨hbo1, hbo2⟩ := hbo
        gi_wp2
        exact (Hsn.out _ (((h4.set' 0 (.int .i64 x.1) rfl).pull2.set' 0 (.int .i64 (oc - 1)) rfl).pull2)).cast (by rw [Heq.out])
      · intro D W hJ
        obtain ⟨C, hC⟩ := full_tabl (T := T) (st := st) (d := d) (A := 1)
        have hto : tot (pA st) d ≤ 9223372036854775807 := by
          have h1 := totOf_le hd (opens (pA st))
          have h2 : (opens (pA st)).length ≤ 3 := opensTo_len (pA st) 4
          show totOf d (opens (pA st)) ≤ _
          omega
        rw [Int.sub_self] at hJ
        have h4 := hJ.cast (show _ = cel OP #[.int .i64 0] 3 * (cel RB #[.bool false] 4 * (pt D (.deferred (some [])) * (full T st d 1 * (cel L #[.int .i64 (lastOf (opens (pA st)))] 3 * (cel B3 #[.pointer none, ptr (pB st 1), ptr (pB st 2), ptr (pB st 3)] 52 * R))))) by ac_rfl)
        have ho0 := At.cell (i := 0) h4 rfl
        have h5 := h4
        rw [hC] at h5
        have HC := hide hC
        have h6 := h5.cast (show _ = tabl T (pA st) d * (cel OP #[.int .i64 0] 3 * (cel RB #[.bool false] 4 * (pt D (.deferred (some [])) * ((1 * C) * (cel L #[.int .i64 (lastOf (opens (pA st)))] 3 * (cel B3 #[.pointer none, ptr (pB st 1), ptr (pB st 2), ptr (pB st 3)] 52 * R)))))) by ac_rfl)
        clear hJ h4 h5 hC
        go_wp2_with fail
        refine (changes_any w0 _ _ T (pA st) d hto h6).mono ?_
        rintro e7 w7 ⟨rfl, h7⟩
        rw [show tot (pA st) d = totOf d (opensTo (pA st) 4) from rfl]
        have h8 := h7.cast (show _ = cel RB #[.bool false] 4 * (pt D (.deferred (some [])) * (cel OP #[.int .i64 0] 3 * (cel L #[.int .i64 (lastOf (opens (pA st)))] 3 * (cel B3 #[.pointer none, ptr (pB st 1), ptr (pB st 2), ptr (pB st 3)] 52 * (full T st d 1 * R))))) by rw [HC.out]; ac_rfl)
        have hr0 := At.cell (i := 0) h8 rfl
        have hrf := At.frz h8 0
        have hrl := At.lt h8
        clear h6 h7
        go_wp2_with fail
        have h9 := (h8.set' 0 (.bool true) rfl).pull2
        refine ⟨by simp, .inl ⟨_, _, rfl, run_takeDeferred (At.blk h9), ?_⟩⟩
        have h10 := At.putObj h9 (.deferred none)
        have hc := At.cell (i := 0) h10.pull2 rfl
        refine ⟨.bool true, ?_, rfl, h10.r.r.r.r.r⟩
        simp [results, Try.results24, go_sem, hc]
      · intro D W hJ
        exact hJ.factl.1.elim

end Go.Proofs.Ytmkcbadcmkhceaa
