/-
  row.Encode: what it comes to, in terms of blocks: a contract, no statement.
-/
import Derived.Test.YtmlifjfgelfbbaaPn
import Derived.Test.YtmlifjfgelfbbaaBB
import Derived.Test.YtmlifjfgelfbbaaEn
import Derived.Deep.CutBlock
namespace Go.Proofs.Ytmlifjfgelfbbaa
open Go Go.RowKit

set_option maxRecDepth 100000 in
set_option maxHeartbeats 4000000 in
theorem rowEncode_any (w0 w : World) (A : HP) (t : Nat) (k v : ByteArray) (ht : t < 4) (hk : k.size ≤ 15) (hv : v.size ≤ 21) (h : At w0 A w) :
    Calls Try.prog 22 #[.agg #[.int .i64 t, .string k, .string v]] w fun e w' => ∃ a c, e = .returned (.slice a 40 c) ∧ At w0 (row 5 1 (.slice a 40 c) 40 (bys (rowEnc t k.data.toList v.data.toList)) * A) w' := by
  obtain ⟨i0, hi, hz0, hz1, hz2⟩ := info_parts Try.info8
  obtain ⟨B, hB⟩ : ∃ N, w.heap.size = N := ⟨_, rfl⟩
  have h1 := h.alloc' hB (.cells #[.int .i64 t, .string k, .string v] 57)
  obtain ⟨F, hF⟩ : ∃ N, B + 1 = N := ⟨_, rfl⟩
  go_enter Try.func22, Try.ntmps22
  go_upto_region 1 with fail
  generalize hw1 : w.alloc _ = w1 at h1 ⊢
  clear hw1 hB hF
  have h2 : At w0 (row 5 1 (.slice (some ⟨w1.heap.size, 0, none⟩) 1 1) 1 (bys [1]) * (cel B #[.int .i64 t, .string k, .string v] 57 * A)) (w1.alloc (.cells #[.int .u8 1] 5)).drew :=
    (At.row_new (xs := [.int .u8 1]) (m := 1) (h1.alloc (.cells #[.int .u8 1] 5)) rfl (by simp [maxLen])).drew
  have hwr := wrap_u64 (x := (t : Int)) (by omega) (by omega)
  obtain ⟨o1, ho1⟩ : ∃ o, o = [(1 : UInt8)] ++ be 1 t := ⟨_, rfl⟩
  obtain ⟨o2, ho2⟩ : ∃ o, o = o1 ++ be 1 k.size ++ k.data.toList := ⟨_, rfl⟩
  have l1 : o1.length = 2 := by rw [ho1, List.length_append, be_len]; rfl
  have l2 : o2.length = 3 + k.size := by rw [ho2, List.length_append, List.length_append, l1, be_len, Array.length_toList]; rfl
  have t1 := packPut_m w0 _ _ _ [1] 1 t 2 o1 rfl ho1 (by decide) (by omega) (by decide) h2 h2.rd
  change Calls _ _ #[_, .int .i64 1, _] _ _ at t1
  have H2 := hide ho2
  have L1 := hide l1
  have L2 := hide l2
  have hl2 : o2.length ≤ 100 := by omega
  have H1 := hide ho1
  clear ho1 ho2 l1 l2
  go_region_held3 (fun w' => w'.cell? ⟨B, 0, none⟩ = some (.int .i64 t) ∧ w'.cell? ⟨B, 1, none⟩ = some (.string k)) (first | exact ⟨At.cell h1.drew rfl, At.cell h1.drew rfl⟩ | exact ⟨At.cell h2.pull2 rfl, At.cell h2.pull2 rfl⟩ | exact ⟨At.cell h3.pull3 rfl, At.cell h3.pull3 rfl⟩ | exact ⟨At.cell h4.pull4 rfl, At.cell h4.pull4 rfl⟩)
    (first | ((with_reducible refine t1.mono ?_); rintro e w3 ⟨a3, c3, rfl, h3⟩) | (have t2 := packText_m w0 _ _ _ o1 k o2.length o2 (by have := L1.out; have := L2.out; omega) H2.out (by omega) (by rw [L1.out]; decide) h3 h3.rd; (with_reducible refine t2.mono ?_); rintro e w4 ⟨a4, c4, rfl, h4⟩))
  have h5 := (h4.cast (show _ = row 5 1 (.slice a4 o2.length c4) o2.length (bys o2) * (cel B #[.int .i64 t, .string k, .string v] 57 * A) * (row 5 1 (.slice a3 2 c3) 2 (bys o1) * row 5 1 (.slice (some ⟨w1.heap.size, 0, none⟩) 1 1) 1 (bys [1])) by ac_rfl)).l
  clear h1 h2 h3 h4 t1 hwr
  rename_i t2 hheld
  clear t2 hheld
  obtain ⟨z1, hzz1⟩ : ∃ z, 15 - k.size = z := ⟨_, rfl⟩
  have e1 : (15 : Int) - (k.size : Int) = (z1 : Int) := by omega
  have g1 := IntWalk.i64_in (z1 : Int) (by omega)
  have q1 := At.cell (i := 1) h5.pull2 rfl
  go_wp2_with (at_builtin; go_loud (refine wpList_append_zeros rfl (.tmp 12) (.tmp 16) 32 3 rfl 5 i0 .i64 .i64 Try.underlying32 Try.underlying3 hi hz0 hz1 hz2 (bs := o2) (k := z1) rfl h5 rfl (by omega) ?_))
  intro a5 c5 w5 h6
  obtain ⟨o3, ho3⟩ : ∃ o, o = o2 ++ List.replicate z1 (0 : UInt8) := ⟨_, rfl⟩
  have n3 : o2.length + z1 = 18 := by have := L2.out; omega
  rw [← ho3, n3] at h6
  rw [n3]
  have l3 : o3.length = 18 := by rw [ho3, List.length_append, List.length_replicate]; exact n3
  obtain ⟨o4, ho4⟩ : ∃ o, o = o3 ++ be 1 v.size ++ v.data.toList := ⟨_, rfl⟩
  have t3 := packText_m w0 _ _ _ o3 v (19 + v.size) o4 (by rw [l3]) ho4 (by omega) (by rw [l3]; decide) h6 h6.rd
  have q2 := At.cell (i := 2) h6.pull2 rfl
  have H3 := hide ho3
  have H4 := hide ho4
  clear h5 q1 e1 g1 n3 l3 ho3 ho4
  go_wp2_with fail
  refine t3.mono ?_
  rintro e w6 ⟨a6, c6, rfl, h7⟩
  have h8 := (h7.cast (show _ = row 5 1 (.slice a6 (19 + v.size) c6) (19 + v.size) (bys o4) * (cel B #[.int .i64 t, .string k, .string v] 57 * A) * row 5 1 (.slice a5 18 c5) 18 (bys o3) by ac_rfl)).l
  clear t3 q2 h6 h7
  obtain ⟨n4, hn4⟩ : ∃ n, 19 + v.size = n := ⟨_, rfl⟩
  obtain ⟨z2, hzz2⟩ : ∃ z, 21 - v.size = z := ⟨_, rfl⟩
  rw [hn4] at h8 ⊢
  have e2 : (40 : Int) - (n4 : Int) = (z2 : Int) := by omega
  have g2 := IntWalk.i64_in (z2 : Int) (by omega)
  have n5 : n4 + z2 = 40 := by omega
  go_wp2_with (at_builtin; go_loud (refine wpList_append_zeros rfl (.tmp 22) (.tmp 25) 32 3 rfl 5 i0 .i64 .i64 Try.underlying32 Try.underlying3 hi hz0 hz1 hz2 (bs := o4) (k := z2) rfl h8 rfl (by omega) ?_))
  intro a7 c7 w7 h9
  try rw [n5] at h9 ⊢
  go_wp2_with fail
  go_ret
  refine ⟨a7, c7, rfl, ?_⟩
  have e5 : o4 ++ List.replicate z2 0 = rowEnc t k.data.toList v.data.toList := by
    rw [H4.out, H3.out, H2.out, H1.out, ← hzz1, ← hzz2]
    unfold rowEnc zs
    rw [Array.length_toList, Array.length_toList]
    rfl
  rw [e5] at h9
  exact (h9.cast (show _ = row 5 1 (.slice a7 40 c7) 40 (bys (rowEnc t k.data.toList v.data.toList)) * A * cel B #[.int .i64 t, .string k, .string v] 57 by ac_rfl)).l
end Go.Proofs.Ytmlifjfgelfbbaa
