/-
  The package lane: Append: what it comes to: a contract, no statement.
-/
import Derived.Test.YtmlifjfgelfbbaaLy
import Derived.Test.YtmlifjfgelfbbaaDe
import Derived.Test.YtmlifjfgelfbbaaEn
import Derived.Test.YtmlifjfgelfbbaaDe
namespace Go.Proofs.Ytmlifjfgelfbbaa
open Go Go.RowKit

theorem cellB_size {s : ByteArray} (h : cellB s = true) : s.size < 256 := by
  unfold cellB at h
  simp only [Bool.or_eq_true, List.isEmpty_iff, beq_iff_eq] at h
  rcases h with h | h
  · have : s.toList.length = 0 := by rw [h]; rfl
    rw [ByteArray.toList_eq, Array.length_toList] at this
    have : s.size = 0 := this
    omega
  · omega
theorem Rec.fair {r : Rec} (h : r.right = true) (hn : ∀ d ∈ r.dirty, d < 2 ^ 64) : r.Fair := by
  unfold Rec.right at h
  simp only [Bool.and_eq_true, Bool.not_eq_true', Bool.or_eq_false_iff, decide_eq_false_iff_not] at h
  obtain ⟨⟨hk, ⟨hb, ha⟩, hi⟩, hd⟩ := h
  refine ⟨⟨by omega, by omega⟩, ⟨by omega, by omega⟩, ⟨by omega, by omega⟩, ⟨by omega, by omega⟩, cellB_size hb, cellB_size ha, ?_, ?_, hn⟩
  · simp only [Bool.or_eq_true, List.isEmpty_iff, beq_iff_eq] at hi
    rcases hi with hi | hi
    · have : r.image.toList.length = 0 := by rw [hi]; rfl
      rw [ByteArray.toList_eq, Array.length_toList] at this
      have : r.image.size = 0 := this
      omega
    · omega
  · simp only [Bool.or_eq_true, Bool.and_eq_true, beq_iff_eq] at hd
    omega
theorem Rec.enc_len {r : Rec} (h : r.Fair) : r.enc.length ≤ 80000 := by
  have h1 := h.before
  have h2 := h.after
  have h3 := h.image
  have h4 := h.dirty
  unfold Rec.enc Rec.body
  simp only [List.length_append, be_len, Array.length_toList, flat_len, List.length_cons, List.length_nil]
  have e1 : r.before.data.size = r.before.size := rfl
  have e2 : r.after.data.size = r.after.size := rfl
  have e3 : r.image.data.size = r.image.size := rfl
  omega

/-- Append, and what it answers. -/
def Ln.append (L : Ln) (r : Rec) : Nat × Nat × Ln :=
  if r.right = false then (0, 1, L) else if 14336 - L.b.length < r.enc.length then (0, 7, L) else (L.place L.b.length, 0, { L with b := L.b ++ r.enc })
theorem Rec.cells_len (r : Rec) (v : Value) : (r.cells v).length = 8 := rfl

set_option maxRecDepth 100000 in
set_option maxHeartbeats 4000000 in
theorem laneAppend_any (w0 w : World) (R : HP) (p d r' : Nat) (L : Ln) (r : Rec) (a : Option Addr) (c : Nat) (hn : ∀ d ∈ r.dirty, d < 2 ^ 64) (hA : ∀ w', At w0 R w' → Rd w' (.slice a r.dirty.length c) (nus r.dirty)) (h : At w0 (lan p d r' L * R) w) :
    Calls Try.prog 17 #[.pointer (some ⟨p, 0, none⟩), .agg (r.cells (.slice a r.dirty.length c)).toArray] w fun e w' => e = .returned (.tuple #[.int .u64 (L.append r).1, .int .i64 (L.append r).2.1]) ∧ At w0 (lan p d r' (L.append r).2.2 * R) w' := by
  obtain ⟨i0, hi, hz0, hz1, hz2⟩ := info_parts Try.info8
  obtain ⟨ys, hys⟩ : ∃ ys, r.cells (.slice a r.dirty.length c) = ys := ⟨_, rfl⟩
  have hyl : ys.length = 8 := by rw [← hys]; rfl
  have h1 := h.alloc (.cells ys.toArray 52)
  have hrt := fun w1 h1 => recRight_any w0 w1 (pt w.heap.size (.cells ys.toArray 52) * (lan p d r' L * R)) r a c h1
  rw [hys] at hrt ⊢
  have Hys := hide hys
  obtain ⟨B, hB⟩ : ∃ N, w.heap.size = N := ⟨_, rfl⟩
  rw [hB] at h1 hrt
  have Hrt := hide hrt
  have Hyl := hide hyl
  clear hys hrt hyl
  go_enter Try.func17, Try.ntmps17
  go_upto_region 1 with fail
  obtain ⟨W1, hW1⟩ : ∃ W1, w.alloc (.cells ys.toArray 52) = W1 := ⟨_, rfl⟩
  rw [hW1] at h1 ⊢
  have hrt1 := Hrt.out W1 h1
  refine wp_region_lit ?_
  refine wpList_load_agg rfl (.tmp 3) 52 rfl _ Try.underlying52 rfl (ys := ys) (by rw [Hyl.out]; kernel_rfl) (g := B) (off := 0) (by go_simp) (fun j u hu => by rw [Nat.zero_add]; exact At.cell h1 (by simpa using hu)) ?_
  go_wp2_with fail
  refine hrt1.mono ?_
  rintro e w2 ⟨rfl, h2⟩
  have Hn := hide hn
  have HA := hide hA
  have Hi := hide hi
  clear hW1 h h1 hrt1 hn hA
  cases hr : r.right with
  | false =>
    have e0 : L.append r = (0, 1, L) := by unfold Ln.append; rw [if_pos hr]
    have E0 := hide e0
    clear e0
    go_wp2_with fail
    go_ret2
    rw [E0.out]
    exact ⟨rfl, h2.r⟩
  | true =>
    have hfair := Rec.fair hr Hn.out
    have hel := Rec.enc_len hfair
    have hen := recEncode_any w0 w2 _ r a c hfair (fun w' hw' => HA.out w' hw'.r.r) h2
    rw [Hys.out] at hen
    obtain ⟨hL, a1, c1, h3⟩ := h2.pull2.lan_open
    have hll := hL.len
    have Hfair := hide hfair
    obtain ⟨q, hq⟩ : ∃ q, r.enc = q := ⟨_, rfl⟩
    have Hq := hide hq
    rw [hq] at hen hel
    clear hfair hL h3 hq
    go_upto_region 3 with fail
    refine wp_region_lit ?_
    refine wpList_load_agg rfl (.tmp 3) 52 rfl _ Try.underlying52 rfl (ys := ys) (by rw [Hyl.out]; kernel_rfl) (g := B) (off := 0) (by go_simp) (fun j u hu => by rw [Nat.zero_add]; exact At.cell h2 (by simpa using hu)) ?_
    go_wp2_with fail
    refine hen.mono ?_
    rintro e w3 ⟨a3, c3, rfl, h3⟩
    have h4 := h3.pull3
    have hrm := laneRoom_any w0 w3 _ p d r' L h4
    clear hen h2 h3
    obtain ⟨n, hn⟩ : ∃ n, L.b.length = n := ⟨_, rfl⟩
    have Hln := hide hn
    rw [hn] at hll
    rw [hn] at hrm
    obtain ⟨k, hk⟩ : ∃ k, 14336 - n = k := ⟨_, rfl⟩
    rw [hk] at hrm
    by_cases hfit : k < q.length
    · have e0 : L.append r = (0, 7, L) := by unfold Ln.append; rw [if_neg (by rw [hr]; simp), Hq.out, Hln.out, hk, if_pos hfit]
      have E0 := hide e0
      clear e0
      have hfz : (k : Int) < (q.length : Int) := by omega
      clear hfit
      go_wp2_with fail
      refine hrm.mono ?_
      rintro e w4 ⟨rfl, rfl⟩
      clear hrm
      go_wp2_with fail
      go_ret2
      rw [E0.out]
      exact ⟨rfl, (h4.cast (show _ = lan p d r' L * R * (row 5 1 (.slice a3 q.length c3) q.length (bys q) * pt B (.cells ys.toArray 52)) by ac_rfl)).l⟩
    · have e0 : L.append r = (L.place n, 0, { L with b := L.b ++ q }) := by unfold Ln.append; rw [if_neg (by rw [hr]; simp), Hq.out, Hln.out, hk, if_neg hfit]
      have E0 := hide e0
      clear e0
      have hfz : ¬ ((k : Int) < (q.length : Int)) := by omega
      have hpl := lanePlace_any w0 w3 _ p d r' L n (by omega) h4
      obtain ⟨hL, a5, c5, h5⟩ := h4.lan_open
      rw [Hln.out] at h5
      have k4 : w3.cell? ⟨p, 4, none⟩ = some (.slice a5 n c5) := by
        have := At.cell (i := 4) (v := .slice a5 n c5) h5 rfl
        exact this
      have HL := hide hL
      have h6 := h5.pull2
      have hs6 := h6.pull3.rd
      clear hfit h4 hL
      go_wp2_with fail
      refine hrm.mono ?_
      rintro e w4 ⟨rfl, rfl⟩
      clear hrm
      go_wp2_with fail
      refine hpl.mono ?_
      rintro e w4 ⟨rfl, rfl⟩
      clear hpl
      have hnb : (bys L.b).length = n := by rw [bys_len, Hln.out]
      go_wp2_with (at_builtin; go_loud (refine wpList_append_rdm rfl _ _ _ rfl 5 i0 _ 1 Try.underlying32 Hi.out hz0 hz1 hz2 rfl rfl rfl h6 hs6 (bys_one _) (by rw [bys_len]; unfold maxLen; omega) (by rw [bys_len]; omega) (n + q.length) (bys (L.b ++ q)) (by rw [bys_len]) (by rw [bys_append]) ?_))
      intro a7 c7 w7 h7
      have k5 : w7.cell? ⟨p, 4, none⟩ = some (.slice a5 n c5) := At.cell (i := 4) (v := .slice a5 n c5) h7.pull2 rfl
      have k6 := At.frz h7.pull2 4
      have k7 := At.lt h7.pull2
      clear h5 h6 hs6 k4
      go_wp2_with fail
      go_ret2
      rw [E0.out]
      refine ⟨rfl, ?_⟩
      have h8 := h7.pull2.set' (d := L.cells d r' (.slice a7 (n + q.length) c7)) 4 (.slice a7 (n + q.length) c7) rfl
      have h9 := (h8.cast (show _ = cel p (L.cells d r' (.slice a7 (n + q.length) c7)) 84 * (row 5 1 (.slice a7 (n + q.length) c7) (n + q.length) (bys (L.b ++ q)) * R) * (row 5 1 (.slice a3 q.length c3) q.length (bys q) * pt B (.cells ys.toArray 52)) by ac_rfl)).l
      have hlen : (L.b ++ q).length = n + q.length := by rw [List.length_append, Hln.out]
      have hw := HL.out
      refine At.lan_shut (L := { L with b := L.b ++ q }) (vb := .slice a7 (n + q.length) c7) ⟨hw.gen, hw.bank, ?_, ?_⟩ ?_
      · show (L.b ++ q).length ≤ 14336
        omega
      · show L.sure ≤ (L.b ++ q).length
        have := hw.sure
        have := Hln.out
        omega
      · show At w0 (cel p _ _ * (row _ 1 _ (L.b ++ q).length (bys (L.b ++ q)) * R)) _
        rw [hlen]
        exact h9
end Go.Proofs.Ytmlifjfgelfbbaa
