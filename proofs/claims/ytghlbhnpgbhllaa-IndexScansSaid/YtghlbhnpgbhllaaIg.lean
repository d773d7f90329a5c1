/-
  What the statements' own example comes to: true, and nothing that was there turns. A contract, no statement.
-/
import Derived.Test.YtghlbhnpgbhllaaIf
namespace Go.Proofs.Ytghlbhnpgbhllaa
open Go Go.RowKit Go.Shelf
attribute [local go_sem] Oper.semAt_some

/-- What the example's scan writes down. -/
def exS : List It → ByteArray
  | [] => ⟨#[]⟩
  | [_] => ⟨#[98, 32]⟩
  | _ => ⟨#[98, 32, 98, 98, 32]⟩
theorem ex_pre {pre : List It} {x : It} (h : pre ++ [x] <+: [exI 3, exI 1]) : (pre = [] ∧ x = exI 3) ∨ (pre = [exI 3] ∧ x = exI 1) := by
  obtain ⟨t, ht⟩ := h
  match pre, ht with
  | [], ht => simp at ht; exact .inl ⟨rfl, ht.1⟩
  | [y], ht => simp at ht; exact .inr ⟨by rw [ht.1], ht.2.1⟩
  | y :: z :: r, ht => simp at ht

theorem exL_len : ∀ k, (exL k).length ≤ k
  | 0 => Nat.le_refl _
  | k + 1 => by
    have h1 := exL_len k
    show (put (exL k) _).length ≤ _
    rw [len_put (exL_sorted k)]
    split <;> omega
set_option maxRecDepth 100000 in
set_option maxHeartbeats 4000000 in
theorem fit_any (w0 w : World) (A : HP) (h : At w0 A w) :
    Calls Try.prog 10 #[] w fun e w' => e = .returned (.bool true) ∧ At w0 A w' := by
  refine (callsIn_wide (n := 9)).1 ?_
  refine callsIn_of_wp_marks Try.func10 rfl trivial (wpIn_wide.2 ?_)
  simp only [Try.ntmps10, List.size_toArray, List.length_nil, Nat.reduceSub, Array.replicate_succ, Array.replicate_zero, List.push_toArray, List.append_toArray, List.nil_append, List.cons_append]
  go_wp2_with fail
  obtain ⟨X, hX⟩ : ∃ N, w.heap.size = N := ⟨_, rfl⟩
  obtain ⟨S, hS⟩ : ∃ N, w.heap.size + 1 = N := ⟨_, rfl⟩
  have h1 : At w0 (ixb X [] * (cel S #[.string ⟨#[100]⟩, .string ⟨#[98, 98]⟩, .string ⟨#[97]⟩, .string ⟨#[98]⟩] 9 * A)) ((w.alloc (.cells #[.slice none 0 0] 27)).alloc (.cells #[.string ⟨#[100]⟩, .string ⟨#[98, 98]⟩, .string ⟨#[97]⟩, .string ⟨#[98]⟩] 9)) :=
    At.ixb_new (((h.alloc' hX _).alloc' (show _ = S by simp [hS]) _).pull2)
  rw [hS, hX]
  clear hX hS
  go_loopw [8] (fun i wr => ∃ k : Nat, k ≤ 4 ∧ i = .int .i64 k ∧ At w0 (ixb X (exL k) * (cel S #[.string ⟨#[100]⟩, .string ⟨#[98, 98]⟩, .string ⟨#[97]⟩, .string ⟨#[98]⟩] 9 * A)) wr) (fun i _ => 4 - (intOf i).toNat)
  case atStart => exact ⟨0, by omega, rfl, h1⟩
  case round =>
    obtain ⟨k, hk, rfl, h2⟩ := hrel
    clear h1
    have hc0 := At.cell (i := 0) h2.pull2 rfl
    have hc1 := At.cell (i := 1) h2.pull2 rfl
    have hc2 := At.cell (i := 2) h2.pull2 rfl
    have hc3 := At.cell (i := 3) h2.pull2 rfl
    have hlen := exL_len k
    have hput := put_any w0 _ _ X (exL k) (exI k) (exL_sorted k) (by omega) h2
    have : k = 0 ∨ k = 1 ∨ k = 2 ∨ k = 3 ∨ k = 4 := by omega
    clear hk
    rcases this with rfl | rfl | rfl | rfl | rfl
    · go_wp2_with fail
      refine hput.mono ?_
      rintro e w3 ⟨rfl, h3⟩
      go_wp2_with fail
      go_roundw
      case rel => exact ⟨1, by omega, by go_num, h3⟩
      case measure => simp [intOf]
    · go_wp2_with fail
      refine hput.mono ?_
      rintro e w3 ⟨rfl, h3⟩
      go_wp2_with fail
      go_roundw
      case rel => exact ⟨2, by omega, by go_num, h3⟩
      case measure => simp [intOf]
    · go_wp2_with fail
      refine hput.mono ?_
      rintro e w3 ⟨rfl, h3⟩
      go_wp2_with fail
      go_roundw
      case rel => exact ⟨3, by omega, by go_num, h3⟩
      case measure => simp [intOf]
    · go_wp2_with fail
      refine hput.mono ?_
      rintro e w3 ⟨rfl, h3⟩
      go_wp2_with fail
      go_roundw
      case rel => exact ⟨4, by omega, by go_num, h3⟩
      case measure => simp [intOf]
    · have hln := len_any w0 _ _ X (exL 4) h2
      have e4 : (exL 4).length = 4 := by rw [exL4]; rfl
      rw [e4] at hln
      have E4 := hide e4
      clear hput e4 hc0 hc1 hc2 hc3 hlen
      go_wp2_with fail
      refine hln.mono ?_
      rintro e w3 ⟨rfl, rfl⟩
      obtain ⟨B, hB⟩ : ∃ N, wr.heap.size = N := ⟨_, rfl⟩
      have h3 := h2.alloc' hB (.cells #[.string ⟨#[]⟩] 9)
      have hsc := scan_any w0 _ _ (some X) 0 ⟨#[98]⟩ ⟨#[99]⟩ h3
      simp only at hsc
      clear hln h2
      go_wp2_with fail
      refine hsc.mono ?_
      rintro e w4 ⟨b1, b2, b3, b4, rfl, h4⟩
      clear hsc h3 hB
      go_wp2_with fail
      have hon := scan_on w0 X b1 b2 b3 b4 (exL 4) 0 ⟨#[98]⟩ ⟨#[99]⟩ (exL_sorted 4) (by rw [E4.out]; omega)
      rw [ex_scan] at hon
      refine wpIn_wide.1 (wp_rangeFunc_on (n := 9) (w0 := w0) rfl (enters_of Try.func22 (by kernel_rfl) rfl) hon (fun _ => rfl)
        (fun pre => cel B #[.string (exS pre)] 9) (fun _ => fact False) (cel S #[.string ⟨#[100]⟩, .string ⟨#[98, 98]⟩, .string ⟨#[97]⟩, .string ⟨#[98]⟩] 9 * A)
        (h4.cast (show _ = (scb b1 b2 b3 b4 (some X) 0 ⟨#[98]⟩ ⟨#[99]⟩ * ixb X (exL 4)) * (cel B #[.string ⟨#[]⟩] 9 * (cel S #[.string ⟨#[100]⟩, .string ⟨#[98, 98]⟩, .string ⟨#[97]⟩, .string ⟨#[98]⟩] 9 * A)) by
          show _ * (cel B _ _ * _) = _
          ac_rfl)) ?_ ?_ ?_)
      · intro l pre x B1 W hp hJ
        simp only [encIt]
        rcases ex_pre hp with ⟨rfl, rfl⟩ | ⟨rfl, rfl⟩
        · gi_wp2
          obtain ⟨O, hO⟩ : ∃ N, W.heap.size = N := ⟨_, rfl⟩
          have hJ1 := (hJ.alloc' hO (.cells #[.int .i64 0, .string ⟨#[98]⟩, .string ⟨#[]⟩, .int .i64 0, .int .i64 0] 31)).cast (show _ = (pt O _ * ((scb b1 b2 b3 b4 (some X) 0 ⟨#[98]⟩ ⟨#[99]⟩ * ixb X (exL 4)) * cel B #[.string (exS [])] 9)) * B1 by ac_rfl)
          rw [hO]
          clear hO
          refine ⟨_, hJ1, fun B2 W2 hJ2 => ?_⟩
          have h5 := hJ2.cast (show _ = cel B #[.string ⟨#[]⟩] 9 * (pt O (.cells #[.int .i64 0, .string ⟨#[98]⟩, .string ⟨#[]⟩, .int .i64 0, .int .i64 0] 31) * ((scb b1 b2 b3 b4 (some X) 0 ⟨#[98]⟩ ⟨#[99]⟩ * ixb X (exL 4)) * B2)) by
            show (pt O _ * (_ * cel B _ _)) * B2 = cel B _ _ * _
            ac_rfl)
          have hb0 := At.cell (i := 0) h5 rfl
          have hbf := At.frz h5 0
          have hbl := At.lt h5
          have hk1 := At.cell (i := 1) (b := O) h5.pull2 rfl
          clear hJ hJ1 hJ2
          gi_wp2
          have h6 := (h5.set' 0 (.string ⟨#[98, 32]⟩) rfl).pull2.r
          exact h6.cast (show cel B _ _ * (_ * B2) = (_ * cel B _ _) * B2 by ac_rfl)
        · gi_wp2
          obtain ⟨O, hO⟩ : ∃ N, W.heap.size = N := ⟨_, rfl⟩
          have hJ1 := (hJ.alloc' hO (.cells #[.int .i64 0, .string ⟨#[98, 98]⟩, .string ⟨#[]⟩, .int .i64 0, .int .i64 0] 31)).cast (show _ = (pt O _ * ((scb b1 b2 b3 b4 (some X) 0 ⟨#[98]⟩ ⟨#[99]⟩ * ixb X (exL 4)) * cel B #[.string (exS [exI 3])] 9)) * B1 by ac_rfl)
          rw [hO]
          clear hO
          refine ⟨_, hJ1, fun B2 W2 hJ2 => ?_⟩
          have h5 := hJ2.cast (show _ = cel B #[.string ⟨#[98, 32]⟩] 9 * (pt O (.cells #[.int .i64 0, .string ⟨#[98, 98]⟩, .string ⟨#[]⟩, .int .i64 0, .int .i64 0] 31) * ((scb b1 b2 b3 b4 (some X) 0 ⟨#[98]⟩ ⟨#[99]⟩ * ixb X (exL 4)) * B2)) by
            show (pt O _ * (_ * cel B _ _)) * B2 = cel B _ _ * _
            ac_rfl)
          have hb0 := At.cell (i := 0) h5 rfl
          have hbf := At.frz h5 0
          have hbl := At.lt h5
          have hk1 := At.cell (i := 1) (b := O) h5.pull2 rfl
          clear hJ hJ1 hJ2
          gi_wp2
          have h6 := (h5.set' 0 (.string ⟨#[98, 32, 98, 98, 32]⟩) rfl).pull2.r
          exact h6.cast (show cel B _ _ * (_ * B2) = (_ * cel B _ _) * B2 by ac_rfl)
      · intro D W hJ
        have h5 := hJ.cast (show _ = cel B #[.string ⟨#[98, 32, 98, 98, 32]⟩] 9 * (ixb X (exL 4) * (pt D (.deferred (some [])) * (scb b1 b2 b3 b4 (some X) 0 ⟨#[98]⟩ ⟨#[99]⟩ * (cel S #[.string ⟨#[100]⟩, .string ⟨#[98, 98]⟩, .string ⟨#[97]⟩, .string ⟨#[98]⟩] 9 * A)))) by
          show (_ * ixb X (exL 4)) * (cel B _ _ * (pt D _ * (cel S _ _ * A))) = cel B _ _ * (_ * (_ * (_ * (cel S _ _ * A))))
          ac_rfl)
        have hb0 := At.cell (i := 0) h5 rfl
        have hln := len_any w0 _ _ X (exL 4) h5.pull2
        rw [E4.out] at hln
        clear hJ
        go_wp2_with fail
        refine hln.mono ?_
        rintro e7 w7 ⟨rfl, rfl⟩
        go_wp2_with fail
        have h6 := h5.pull3
        refine ⟨by simp, .inl ⟨_, _, rfl, run_takeDeferred (At.blk h6), ?_⟩⟩
        have h7 := At.putObj h6 (.deferred none)
        refine ⟨_, results_tmp rfl _ _ _, rfl, ?_⟩
        exact h7.r.r.r.r.r
      · intro o D W hJ
        exact hJ.factl.1.elim
end Go.Proofs.Ytghlbhnpgbhllaa
