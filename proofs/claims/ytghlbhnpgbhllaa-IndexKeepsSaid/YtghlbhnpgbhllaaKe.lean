/-
  The statement IndexKeeps' walk. A contract, no statement.
-/
import Derived.Test.YtghlbhnpgbhllaaIg
import Derived.RegionTactic
import Derived.ChangeAlike
import Derived.BigRegion
namespace Go.Proofs.Ytghlbhnpgbhllaa
open Go Go.RowKit

theorem fnd_put {l : List It} (hs : Sorted l) (i : It) : fnd (put l i) i.t i.k = some i := (fnd_iff (sorted_put hs i)).2 ⟨mem_put.2 (.inl rfl), eqB_iff.2 ⟨rfl, rfl⟩⟩
theorem put_put (i j : It) (ht : j.t = i.t) (hk : j.k = i.k) : put (put [] i) j = [j] := by
  simp [put, lows, highs, ht, hk, ltB_irrefl]
theorem has_more (i : It) (k : ByteArray) (h : k.size ≠ i.k.size) : has [i] i.t k = false := by
  have h1 : eqB i.t i.k i.t k = false := by
    rw [Bool.eq_false_iff]
    intro he
    have := toList_inj (eqB_iff.1 he).2
    rw [this] at h
    exact h rfl
  simp [has, h1]

set_option maxRecDepth 100000 in
set_option maxHeartbeats 8000000 in
theorem keeps_walk (W : World) (i j : It) (hi : i.k.size ≤ 140737488355328 ∧ i.v.size ≤ 140737488355328) (hj : j.k.size ≤ 140737488355328 ∧ j.v.size ≤ 140737488355328) :
    Calls Try.prog 6 #[.agg #[.int .i64 i.t, .string i.k, .string i.v, .int .i64 i.p, .int .i64 i.s], .agg #[.int .i64 j.t, .string j.k, .string j.v, .int .i64 j.p, .int .i64 j.s]] W fun e W' => e = .returned (.bool true) ∧ Below W.heap.size W W' := by
  obtain ⟨BI, hBI⟩ : ∃ N, W.heap.size = N := ⟨_, rfl⟩
  obtain ⟨BJ, hBJ⟩ : ∃ N, W.heap.size + 1 = N := ⟨_, rfl⟩
  have h1 := ((At.startR W).alloc' hBI (.cells #[.int .i64 i.t, .string i.k, .string i.v, .int .i64 i.p, .int .i64 i.s] 31)).alloc' (show _ = BJ by simp [hBJ]) (.cells #[.int .i64 j.t, .string j.k, .string j.v, .int .i64 j.p, .int .i64 j.s] 31)
  have hfit := fit_any W _ _ h1
  have HBI := hide hBI
  have HBJ := hide hBJ
  clear hBI hBJ
  go_enter Try.func6, Try.ntmps6
  go_wp2_with fail
  refine hfit.mono ?_
  rintro e w1 ⟨rfl, h2⟩
  rw [HBJ.out, HBI.out]
  have hi0 := At.cell (i := 0) h2.pull2 rfl
  have hi1 := At.cell (i := 1) h2.pull2 rfl
  have hi2 := At.cell (i := 2) h2.pull2 rfl
  have hi3 := At.cell (i := 3) h2.pull2 rfl
  have hi4 := At.cell (i := 4) h2.pull2 rfl
  have hj0 := At.cell (i := 0) h2 rfl
  have hj1 := At.cell (i := 1) h2 rfl
  have hj2 := At.cell (i := 2) h2 rfl
  have hj3 := At.cell (i := 3) h2 rfl
  have hj4 := At.cell (i := 4) h2 rfl
  clear hfit h1
  have h3 := h2.alloc (.cells #[.int .i64 0, .int .i64 i.t, .string i.k, .string i.v, .int .i64 i.p, .int .i64 i.s, .int .i64 0, .int .i64 j.t, .string j.k, .string j.v, .int .i64 j.p, .int .i64 j.s] 33)
  have hli := light_any W _ _ (some ⟨w1.heap.size, 0, none⟩) 2 2 (fun q => if q = 0 then ⟨0, i⟩ else ⟨0, j⟩) (by omega) (fun q => by
      by_cases hq : q = 0
      · simp only [if_pos hq]; omega
      · simp only [if_neg hq]; omega) h3 (fun w' h q hq => by
    refine ⟨w1.heap.size, 0, rfl, ?_⟩
    have hc : q = 0 ∨ q = 1 := by omega
    rcases hc with rfl | rfl
    · exact ⟨h.cell (i := 0) rfl, h.cell (i := 1) rfl, h.cell (i := 2) rfl, h.cell (i := 3) rfl, h.cell (i := 4) rfl, h.cell (i := 5) rfl⟩
    · exact ⟨h.cell (i := 6) rfl, h.cell (i := 7) rfl, h.cell (i := 8) rfl, h.cell (i := 9) rfl, h.cell (i := 10) rfl, h.cell (i := 11) rfl⟩)
  clear h3
  go_wp2_with fail
  refine hli.mono ?_
  rintro e w2 ⟨h4, ⟨rfl, hl⟩ | rfl⟩
  · have hsz := hl.2 0 (by omega)
    simp only [if_true] at hsz
    have h5 := h4.r
    clear hli h2 hi0 hi1 hi2 hi3 hi4 hj0 hj1 hj2 hj3 hj4 hl
    have hi0 := At.cell (i := 0) h5.pull2 rfl
    have hi1 := At.cell (i := 1) h5.pull2 rfl
    have hj0 := At.cell (i := 0) h5 rfl
    have hj1 := At.cell (i := 1) h5 rfl
    have hjf := At.frz h5
    have hjl := At.lt h5
    have hne : BJ ≠ BI := At.ne h5
    go_wp2_with fail
    go_region
    have h6 := ((h5.set' 0 (.int .i64 i.t) (d := #[.int .i64 i.t, .string j.k, .string j.v, .int .i64 j.p, .int .i64 j.s]) rfl).set' (d := #[.int .i64 i.t, .string i.k, .string j.v, .int .i64 j.p, .int .i64 j.s]) 1 (.string i.k) rfl).drew
    generalize ((w2.setCell ⟨BJ, 0, none⟩ (.int .i64 i.t)).setCell ⟨BJ, 1, none⟩ (.string i.k)).drew = w3 at h6 ⊢
    clear hi0 hi1 hj0 hj1 hjf hjl hne h5 h4
    obtain ⟨X, hX⟩ : ∃ N, w3.heap.size = N := ⟨_, rfl⟩
    have h7 := At.ixb_new (h6.alloc' hX (.cells #[.slice none 0 0] 27))
    have hp := put_any W _ _ X [] i sorted_nil (by decide) h7
    have hi0 := At.cell (i := 0) h7.pull3 rfl
    have hi1 := At.cell (i := 1) h7.pull3 rfl
    have hi2 := At.cell (i := 2) h7.pull3 rfl
    have hi3 := At.cell (i := 3) h7.pull3 rfl
    have hi4 := At.cell (i := 4) h7.pull3 rfl
    clear h6 h7
    have HX := hide hX
    clear hX
    go_wp2_with fail
    rw [HX.out]
    clear HX
    refine hp.mono ?_
    rintro e w4 ⟨rfl, h8⟩
    have hf1 := find_yes W _ _ X (put [] i) i.t i.k i (sorted_put sorted_nil i) (by simp [put, lows, highs]) (fnd_put sorted_nil i) h8
    clear hp hi0 hi1 hi2 hi3 hi4
    have hi0 := At.cell (i := 0) h8.pull3 rfl
    have hi1 := At.cell (i := 1) h8.pull3 rfl
    unfold It.agg at hf1
    go_wp2_with fail
    refine hf1.mono ?_
    rintro e w5 ⟨rfl, h9⟩
    obtain ⟨FA, hFA⟩ : ∃ N, w5.heap.size = N := ⟨_, rfl⟩
    have h10 := h9.alloc' hFA (.cells #[.int .i64 i.t, .string i.k, .string i.v, .int .i64 i.p, .int .i64 i.s] 31)
    have hp2 := put_any W _ _ X (put [] i) ⟨i.t, i.k, j.v, j.p, j.s⟩ (sorted_put sorted_nil i) (by simp [put, lows, highs]) h10.pull2
    rw [put_put i ⟨i.t, i.k, j.v, j.p, j.s⟩ rfl rfl] at hp2
    clear hf1 hi0 hi1 h8
    have hj0 := At.cell (i := 0) h10.pull3 rfl
    have hj1 := At.cell (i := 1) h10.pull3 rfl
    have hj2 := At.cell (i := 2) h10.pull3 rfl
    have hj3 := At.cell (i := 3) h10.pull3 rfl
    have hj4 := At.cell (i := 4) h10.pull3 rfl
    have HFA := hide hFA
    clear hFA h9
    go_wp2_with fail
    rw [HFA.out]
    clear HFA
    refine hp2.mono ?_
    rintro e w6 ⟨rfl, h11⟩
    have hf2 := find_yes W _ _ X [⟨i.t, i.k, j.v, j.p, j.s⟩] i.t i.k ⟨i.t, i.k, j.v, j.p, j.s⟩ (by simp [Sorted]) (by simp) (by simp [fnd, eqB]) h11
    clear hp2 hj0 hj1 hj2 hj3 hj4 h10
    have hi0 := At.cell (i := 0) h11.pull4 rfl
    have hi1 := At.cell (i := 1) h11.pull4 rfl
    unfold It.agg at hf2
    go_wp2_with fail
    refine hf2.mono ?_
    rintro e w7 ⟨rfl, h12⟩
    obtain ⟨FB, hFB⟩ : ∃ N, w7.heap.size = N := ⟨_, rfl⟩
    have h13 := h12.alloc' hFB (.cells #[.int .i64 i.t, .string i.k, .string j.v, .int .i64 j.p, .int .i64 j.s] 31)
    have hf3 := find_no W _ _ X [⟨i.t, i.k, j.v, j.p, j.s⟩] i.t (i.k ++ ⟨#[120]⟩) (by simp [Sorted]) (by simp) (has_more ⟨i.t, i.k, j.v, j.p, j.s⟩ _ (by simp; decide)) h13.pull2
    unfold It.agg zeroIt at hf3
    clear hf2 hi0 hi1 h11
    have hi0 := At.cell (i := 0) h13.pull5 rfl
    have hi1 := At.cell (i := 1) h13.pull5 rfl
    have hik : (i.k.size : Int) + 1 ≤ 9223372036854775807 := by omega
    have HFB := hide hFB
    clear hFB h12
    go_wp2_with fail
    rw [HFB.out]
    clear HFB
    refine hf3.mono ?_
    rintro e w8 ⟨rfl, h14⟩
    have h15 := h14.alloc (.cells #[.int .i64 0, .string ⟨#[]⟩, .string ⟨#[]⟩, .int .i64 0, .int .i64 0] 31)
    have hln := len_any W _ _ X _ h15.pull2
    clear hf3 hi0 hi1 h13
    have hb0 := At.cell (i := 0) h15.pull3 rfl
    have hb1 := At.cell (i := 1) h15.pull3 rfl
    have hb2 := At.cell (i := 2) h15.pull3 rfl
    have hb3 := At.cell (i := 3) h15.pull3 rfl
    have hb4 := At.cell (i := 4) h15.pull3 rfl
    have ha0 := At.cell (i := 0) h15.pull5 rfl
    have ha1 := At.cell (i := 1) h15.pull5 rfl
    have ha2 := At.cell (i := 2) h15.pull5 rfl
    have ha3 := At.cell (i := 3) h15.pull5 rfl
    have ha4 := At.cell (i := 4) h15.pull5 rfl
    have hj0 := At.cell (i := 0) h15.pull4 rfl
    have hj1 := At.cell (i := 1) h15.pull4 rfl
    have hj2 := At.cell (i := 2) h15.pull4 rfl
    have hj3 := At.cell (i := 3) h15.pull4 rfl
    have hj4 := At.cell (i := 4) h15.pull4 rfl
    have hi0 := At.cell (i := 0) h15.pull6 rfl
    have hi1 := At.cell (i := 1) h15.pull6 rfl
    have hi2 := At.cell (i := 2) h15.pull6 rfl
    have hi3 := At.cell (i := 3) h15.pull6 rfl
    have hi4 := At.cell (i := 4) h15.pull6 rfl
    go_wp2_with fail
    refine hln.mono ?_
    rintro e w9 ⟨rfl, rfl⟩
    go_wp2_with fail
    go_ret
    exact ⟨rfl, h15.pull7.below⟩
  · go_wp2_with fail
    go_ret
    exact ⟨rfl, h4.r.r.r.below⟩
end Go.Proofs.Ytghlbhnpgbhllaa
