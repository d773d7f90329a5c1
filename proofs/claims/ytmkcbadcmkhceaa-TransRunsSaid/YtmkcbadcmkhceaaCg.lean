/-
  Changes and Kept: contracts, no statement.
-/
import Derived.Test.YtmkcbadcmkhceaaTr3
import Derived.Test.YtmkcbadcmkhceaaAl
namespace Go.Proofs.Ytmkcbadcmkhceaa
open Go Go.RowKit Go.Shelf
attribute [local go_sem] Oper.semAt_some

/-- What a transaction holds. -/
structure Td where
  l : List Ch
  sv : List Int
  ops : Int
def otx (o : Option Nat) (d : Td) : HP := match o with
  | none => 1
  | some b => txb b d.l d.sv d.ops
/-- A table with all that its transactions hold. -/
def tabl (b : Nat) (p : Nat → Option Nat) (d : Nat → Td) : HP := tbl b p * (otx (p 1) (d 1) * (otx (p 2) (d 2) * otx (p 3) (d 3)))
def totOf (d : Nat → Td) (l : List (Nat × Nat)) : Nat := (l.map fun x => (d x.1).l.length).sum
def tot (p : Nat → Option Nat) (d : Nat → Td) : Nat := totOf d (opens p)
theorem totOf_snoc (d : Nat → Td) (l : List (Nat × Nat)) (x : Nat × Nat) : totOf d (l ++ [x]) = totOf d l + (d x.1).l.length := by simp [totOf]
theorem totOf_pre {d : Nat → Td} {l l' : List (Nat × Nat)} (h : l <+: l') : totOf d l ≤ totOf d l' := by
  obtain ⟨t, rfl⟩ := h
  simp [totOf]
theorem mem_one {i : Nat} {o : Option Nat} {x : Nat × Nat} (h : x ∈ one i o) : x.1 = i ∧ o = some x.2 := by
  cases o with
  | none => simp [one] at h
  | some b => simp [one] at h; simp [h]
theorem mem_opens {p : Nat → Option Nat} {x : Nat × Nat} (h : x ∈ opens p) : (x.1 = 1 ∧ p 1 = some x.2) ∨ (x.1 = 2 ∧ p 2 = some x.2) ∨ (x.1 = 3 ∧ p 3 = some x.2) := by
  simp only [opens, opensTo, List.mem_append] at h
  rcases h with (h | h) | h
  · exact .inl (mem_one h)
  · exact .inr (.inl (mem_one h))
  · exact .inr (.inr (mem_one h))
theorem mem_pre {p : Nat → Option Nat} {pre : List (Nat × Nat)} {x : Nat × Nat} (h : pre ++ [x] <+: opens p) : x ∈ opens p := h.subset (by simp)
theorem tabl_at {b : Nat} {p : Nat → Option Nat} {d : Nat → Td} {x : Nat × Nat} (h : x ∈ opens p) :
    ∃ C, tabl b p d = txb x.2 (d x.1).l (d x.1).sv (d x.1).ops * C := by
  unfold tabl
  rcases mem_opens h with ⟨h1, h2⟩ | ⟨h1, h2⟩ | ⟨h1, h2⟩
  · rw [h1, h2]; exact ⟨tbl b p * (otx (p 2) (d 2) * otx (p 3) (d 3)), by simp only [otx]; ac_rfl⟩
  · rw [h1, h2]; exact ⟨tbl b p * (otx (p 1) (d 1) * otx (p 3) (d 3)), by simp only [otx]; ac_rfl⟩
  · rw [h1, h2]; exact ⟨tbl b p * (otx (p 1) (d 1) * otx (p 2) (d 2)), by simp only [otx]; ac_rfl⟩

set_option maxHeartbeats 2000000 in
theorem changes_any (w0 w : World) (R : HP) (b : Nat) (p : Nat → Option Nat) (d : Nat → Td) (hs : tot p d ≤ 9223372036854775807) (h : At w0 (tabl b p d * R) w) :
    Calls Try.prog 20 #[.pointer (some ⟨b, 0, none⟩)] w fun e w' => e = .returned (.int .i64 (tot p d)) ∧ At w0 (tabl b p d * R) w' := by
  have hlt := At.lt h.assoc
  refine (callsIn_wide (n := 9)).1 ?_
  refine callsIn_of_wp_marks Try.func20 rfl trivial ?_
  simp only [Try.ntmps20, List.size_toArray, List.length_cons, List.length_nil, Nat.reduceAdd, Nat.reduceSub, Array.replicate_succ, Array.replicate_zero, List.push_toArray, List.append_toArray, List.nil_append, List.cons_append]
  gi_wp2
  obtain ⟨N, hN⟩ : ∃ N, w.heap.size = N := ⟨_, rfl⟩
  have h1 : At w0 (cel N #[.int .i64 0] 3 * (tabl b p d * R)) (w.alloc (.cells #[.int .i64 0] 3)) := h.alloc' hN (.cells #[.int .i64 0] 3)
  rw [hN] at hlt ⊢
  refine wp_rangeFunc_at (w0 := w0) rfl (enters_of Try.func25 (by kernel_rfl) rfl) (all_seq w0 b p) (fun _ => rfl)
    (fun pre => cel N #[.int .i64 (totOf d pre)] 3 * tabl b p d) (fact False) R ⟨_, (h1.cast (by unfold tabl; ac_rfl : _ = tbl b p * (cel N #[.int .i64 0] 3 * (otx (p 1) (d 1) * (otx (p 2) (d 2) * otx (p 3) (d 3)) * R))))⟩ (h1.cast (HP.mul_assoc _ _ _).symm) ?_ ?_ ?_
  · intro l pre x B W hp hJ
    simp only [enc2, ptr_some]
    gi_wp2
    refine ⟨_, hJ, fun B2 W2 hJ => ?_⟩
    obtain ⟨C, hC⟩ := tabl_at (b := b) (d := d) (mem_pre hp)
    have hJ0 := hJ
    rw [hC] at hJ0
    obtain ⟨v, vs, hx⟩ := (hJ0.cast (show _ = txb x.2 (d x.1).l (d x.1).sv (d x.1).ops * (cel N #[.int .i64 (totOf d pre)] 3 * (C * B2)) by ac_rfl)).txb_open
    obtain ⟨ar, cp, rfl⟩ := hx.pull2.row_len
    have hx0 := At.cell (i := 0) hx rfl
    have hn0 := At.cell (i := 0) hJ.assoc rfl
    have hnf := At.frz hJ.assoc 0
    have htot := hide (Nat.le_trans (totOf_pre hp) hs)
    have hset := hJ.assoc.set' 0 (.int .i64 (totOf d (pre ++ [x]))) rfl
    rw [totOf_snoc] at hset
    clear hx hJ0 hC
    gi_wp2
    refine wpIn_region_line [0, 1, 2, 3, 4, 5, 6, 7] rfl (by kernel_rfl) rfl ?_
    simp only [picks_cons, picks_nil, getD_zero, getD_succ]
    go_wp2
    refine ⟨by kernel_rfl, ?_⟩
    have hw : wrap64 ((totOf d pre : Int) + ((d x.1).l.length : Int)) = ((totOf d pre + (d x.1).l.length : Nat) : Int) := by
      have := htot.out
      rw [totOf_snoc] at this
      rw [IntWalk.wrap64_in _ (by omega)]
      simp
    rw [hw]
    have e : (cel N #[.int .i64 (totOf d (pre ++ [x]))] 3 * tabl b p d) * B2 = cel N #[.int .i64 ((totOf d pre + (d x.1).l.length : Nat) : Int)] 3 * (tabl b p d * B2) := by
      rw [totOf_snoc, HP.mul_assoc]
    exact (hset.drew).cast e.symm
  · intro D W hJ
    have hn0 := At.cell (i := 0) hJ.assoc rfl
    gi_wp2
    refine ⟨by simp, .inl ⟨_, _, rfl, run_takeDeferred (At.blk (hJ.cast (HP.mul_left_comm _ _ _))), ?_⟩⟩
    refine ⟨_, results_tmp rfl _ _ _, ?_, ?_⟩
    · rfl
    · have h2 := At.putObj (hJ.cast (HP.mul_left_comm _ _ _)) (.deferred none)
      exact (h2.cast (by ac_rfl : _ = cel N #[.int .i64 (totOf d (opens p))] 3 * (pt D (.deferred none) * (tabl b p d * R)))).r.r
  · intro D W hJ
    exact hJ.factl.1.elim

end Go.Proofs.Ytmkcbadcmkhceaa
