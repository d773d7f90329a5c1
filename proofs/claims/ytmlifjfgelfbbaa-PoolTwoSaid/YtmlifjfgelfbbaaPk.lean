/-
  The package pack: what its functions come to, in terms of blocks: contracts, no statement.
-/
import Derived.Test.YtmlifjfgelfbbaaBB
import Derived.Test.YtmlifjfgelfbbaaProg
import Derived.Deep.LoopGhost
namespace Go.Proofs.Ytmlifjfgelfbbaa
open Go Go.RowKit

theorem Try.info8 : (Try.prog.info? 5).map (fun i => (i.zero, i.size, i.bytes)) = some (some (.int .u8 0), 1, 1) := by kernel_rfl

set_option maxRecDepth 100000 in
set_option maxHeartbeats 2000000 in
theorem packPut_any (w0 w : World) (A : HP) (v : Value) (bs : List UInt8) (n x : Nat) (hn : n ≤ 8) (hx : x < 2 ^ 64) (hl : bs.length ≤ 1000000000) (h : At w0 A w) (hb : Rd w v (bys bs)) :
    Calls Try.prog 44 #[v, .int .i64 n, .int .u64 x] w fun e w' => ∃ a c, e = .returned (.slice a (bs.length + n) c) ∧ At w0 (row 5 1 (.slice a (bs.length + n) c) (bs.length + n) (bys (bs ++ be n x)) * A) w' := by
  obtain ⟨i0, hi, hz0, hz1, hz2⟩ := info_parts Try.info8
  have h0 := h.row_nil 5 1
  have hbl := bys_len bs
  have Hx := hide hx
  clear hx
  go_enter Try.func44, Try.ntmps44
  go_wp2_with (at_builtin; go_loud (refine wpList_append_rd rfl _ _ _ rfl 5 i0 _ 1 Try.underlying32 hi hz0 hz1 hz2 rfl rfl rfl h0 hb (bys_one _) (by unfold maxLen; omega) (by omega) ?_))
  intro a1 c1 w1 h1
  have hmn : bs.length + (n - n) = bs.length := by omega
  go_wp2_with fail
  go_loopw [7, 8] (fun u7 u8 wr => ∃ (m : Nat) (hd : List UInt8) (ar : Option Addr) (cp : Nat), m ≤ n ∧ u8 = .int .i64 ((m : Int) - 1) ∧ u7 = .slice ar (bs.length + hd.length) cp ∧ hd.length + m = n ∧ hd ++ be m x = be n x ∧ At w0 (row 5 1 (.slice ar (bs.length + hd.length) cp) (bs.length + hd.length) (bys (bs ++ hd)) * A) wr) (fun _ u _ => (intOf u + 1).toNat)
  case atStart => exact ⟨n, [], a1, c1, Nat.le_refl _, rfl, rfl, by simp, rfl, by simpa using h1⟩
  case round =>
    obtain ⟨m, hd, ar, cp, hm, rfl, rfl, hlen, hbe, h2⟩ := hrel
    clear h1
    have Hbe := hide hbe
    clear hbe
    cases m with
    | zero =>
      have hd0 : hd = be n x := by have := Hbe.out; simpa [be] using this
      subst hd0
      have hbn := be_len n x
      rw [hbn] at h2 ⊢
      go_wp2_with fail
      go_ret
      exact ⟨ar, cp, rfl, h2⟩
    | succ m =>
      have hk : ((m + 1 : Nat) : Int) - 1 = (m : Int) := by omega
      rw [hk]
      clear hk
      have hby := byte_shr x m
      have Hby := hide hby
      clear hby
      have h3 := (h2.alloc (.cells #[.int .u8 ((x : Int) / 2 ^ (8 * m) % 256)] 5)).pull2
      have hbl2 := bys_len (bs ++ hd)
      go_wp2_with (at_builtin; go_loud (refine wpList_append_rd rfl _ _ _ rfl 5 i0 _ 1 Try.underlying32 hi hz0 hz1 hz2 rfl rfl rfl h3 (Rd.new wr [.int .u8 ((x : Int) / 2 ^ (8 * m) % 256)] 5 rfl rfl) (one_cells1 rfl) (by unfold maxLen; simp; omega) (by simp; omega) ?_))
      intro a3 c3 w3 h4
      rw [Hby.out] at h4
      go_wp2_with fail
      go_roundw
      case rel =>
        refine ⟨m, hd ++ [UInt8.ofNat (x / 256 ^ m)], a3, c3, by omega, by go_num, ?_, by rw [List.length_append, List.length_singleton]; omega, by rw [List.append_assoc]; exact Hbe.out, ?_⟩
        · simp [Nat.add_assoc]
        · have h5 := h4.pull2.r
          rw [show bs ++ (hd ++ [UInt8.ofNat (x / 256 ^ m)]) = (bs ++ hd) ++ [UInt8.ofNat (x / 256 ^ m)] by rw [List.append_assoc], bys_append, List.length_append, ← Nat.add_assoc]
          exact h5
      case measure => simp [intOf]

theorem packNew_any (w0 w : World) (A : HP) (v : Value) (h : At w0 A w) (hv : ∃ a n c, v = .slice a n c) :
    Calls Try.prog 47 #[v] w fun e w' => ∃ b, e = .returned (.pointer (some ⟨b, 0, none⟩)) ∧ At w0 (cel b #[v, .bool false] 133 * A) w' := by
  obtain ⟨a, n, c, rfl⟩ := hv
  go_enter Try.func47, Try.ntmps47
  go_wp2
  go_ret
  exact ⟨_, rfl, h.alloc _⟩

/-- What a reader has left, and whether it failed. -/
structure Rs where
  bs : List UInt8
  bad : Bool
def Rs.fails (s : Rs) (n : Nat) : Bool := s.bad || decide (s.bs.length < n)
def Rs.take (s : Rs) (n : Nat) : List UInt8 × Rs := if s.fails n then ([], ⟨s.bs, true⟩) else (s.bs.take n, ⟨s.bs.drop n, false⟩)

theorem packBad_any (w0 w : World) (A : HP) (b : Nat) (v : Value) (bad : Bool) (h : At w0 (cel b #[v, .bool bad] 133 * A) w) :
    Calls Try.prog 60 #[.pointer (some ⟨b, 0, none⟩)] w fun e w' => e = .returned (.bool bad) ∧ w = w' := by
  have h1 := At.cell (i := 1) h rfl
  clear h
  go_enter Try.func60, Try.ntmps60
  go_wp2
  go_ret
  exact ⟨rfl, rfl⟩
theorem packRest_any (w0 w : World) (A : HP) (b : Nat) (a : Option Addr) (n c : Nat) (bad : Bool) (h : At w0 (cel b #[.slice a n c, .bool bad] 133 * A) w) :
    Calls Try.prog 64 #[.pointer (some ⟨b, 0, none⟩)] w fun e w' => e = .returned (.int .i64 n) ∧ w = w' := by
  have h1 := At.cell (i := 0) h rfl
  clear h
  go_enter Try.func64, Try.ntmps64
  go_wp2
  go_ret
  exact ⟨rfl, rfl⟩

set_option maxHeartbeats 2000000 in
theorem packTake_bad (w0 w : World) (A : HP) (b : Nat) (a : Option Addr) (m c : Nat) (bad : Bool) (n : Int) (hf : (bad || decide (n < 0) || decide ((m : Int) < n)) = true) (h : At w0 (cel b #[.slice a m c, .bool bad] 133 * A) w) :
    Calls Try.prog 56 #[.pointer (some ⟨b, 0, none⟩), .int .i64 n] w fun e w' => e = .returned (.slice none 0 0) ∧ At w0 (cel b #[.slice a m c, .bool true] 133 * A) w' := by
  have hbad := packBad_any w0 w A b _ bad h
  have h0 := At.cell (i := 0) h rfl
  have h1 := At.cell (i := 1) h rfl
  have hfz := At.frz h 1
  have hlt := At.lt h
  cases bad with
  | true =>
    clear hf
    go_enter Try.func56, Try.ntmps56
    go_wp2_with fail
    refine hbad.mono ?_
    rintro e w1 ⟨rfl, rfl⟩
    go_wp2_with fail
    go_ret
    exact ⟨rfl, h.set' 1 (.bool true) rfl⟩
  | false =>
    simp only [Bool.false_or, Bool.or_eq_true, decide_eq_true_eq] at hf
    by_cases hn : n < 0
    · clear hf
      go_enter Try.func56, Try.ntmps56
      go_wp2_with fail
      refine hbad.mono ?_
      rintro e w1 ⟨rfl, rfl⟩
      go_wp2_with fail
      go_ret
      exact ⟨rfl, h.set' 1 (.bool true) rfl⟩
    · have hmn : (m : Int) < n := hf.resolve_left hn
      clear hf
      go_enter Try.func56, Try.ntmps56
      go_wp2_with fail
      refine hbad.mono ?_
      rintro e w1 ⟨rfl, rfl⟩
      go_wp2_with fail
      go_ret
      exact ⟨rfl, h.set' 1 (.bool true) rfl⟩

set_option maxRecDepth 100000 in
set_option maxHeartbeats 2000000 in
theorem packTake_good (w0 w : World) (A F : HP) (b : Nat) (a : Option Addr) (c : Nat) (n : Nat) (bs : List UInt8) (hn : n ≤ bs.length) (hm : bs.length ≤ 1000000000) (hA : ∀ w', At w0 A w' → Rd w' (.slice a bs.length c) (bys bs)) (h : At w0 (cel b #[.slice a bs.length c, .bool false] 133 * (F * A)) w) :
    Calls Try.prog 56 #[.pointer (some ⟨b, 0, none⟩), .int .i64 n] w fun e w' => ∃ a1 c1 a2 c2, e = .returned (.slice a1 n c1) ∧ (∀ w', At w0 A w' → Rd w' (.slice a2 (bs.length - n) c2) (bys (bs.drop n))) ∧
      At w0 (row 5 1 (.slice a1 n c1) n (bys (bs.take n)) * (cel b #[.slice a2 (bs.length - n) c2, .bool false] 133 * (F * A))) w' := by
  obtain ⟨i0, hi, hz0, hz1, hz2⟩ := info_parts Try.info8
  have hbad := packBad_any w0 w _ b _ false h
  have h0 := At.cell (i := 0) h rfl
  have h1 := At.cell (i := 1) h rfl
  have hrd := hA w h.r.r
  have hmc := hrd.len.2
  have hsrc := (hrd.take hn)
  rw [bys_take] at hsrc
  have hdr := fun w' h => (hA w' h).drop hn
  simp only [bys_drop] at hdr
  have HA := hide hdr
  have hbt : (bys (bs.take n)).length = n := by rw [bys_len, List.length_take]; omega
  clear hA hrd hdr
  obtain ⟨len, hlen⟩ : ∃ len, bs.length = len := ⟨_, rfl⟩
  rw [hlen] at h0 hmc hn h HA hm ⊢
  have Hlen := hide hlen
  clear hlen
  have Hbt := hide hbt
  clear hbt
  go_enter Try.func56, Try.ntmps56
  go_wp2_with fail
  refine hbad.mono ?_
  rintro e w1 ⟨rfl, rfl⟩
  clear hbad
  go_wp2_with (at_builtin; go_loud (refine wpList_append_rd rfl _ _ _ rfl 5 i0 _ 1 Try.underlying32 hi hz0 hz1 hz2 rfl rfl rfl (h.row_nil 5 1) hsrc (bys_one _) (by rw [Hbt.out]; unfold maxLen; omega) (by rw [Hbt.out]; omega) ?_))
  intro a3 c3 w3 h3
  rw [Hbt.out] at h3 ⊢
  have k0 := At.cell (i := 0) h3.pull2 rfl
  have kf := At.frz h3.pull2 0
  have kl := At.lt h3.pull2
  clear h0 h1
  by_cases hcn : c = n
  · have Hcn := hide hcn
    go_wp2_with fail
    go_ret
    refine ⟨a3, c3, a, 0, rfl, fun w' h => ?_, (h3.pull2.set' (d := #[.slice a (len - n) 0, .bool false]) 0 (.slice a (len - n) 0) rfl).pull2⟩
    have := HA.out w' h
    rw [if_pos Hcn.out, Hcn.out, Nat.sub_self] at this
    exact this
  · have Hcn := hide hcn
    go_wp2_with fail
    go_ret
    refine ⟨a3, c3, a.map (fun x => x.add n), c - n, rfl, fun w' h => ?_, (h3.pull2.set' (d := #[.slice (a.map fun x => x.add n) (len - n) (c - n), .bool false]) 0 (.slice (a.map fun x => x.add n) (len - n) (c - n)) rfl).pull2⟩
    have := HA.out w' h
    rw [if_neg Hcn.out] at this
    simp only [Nat.mul_one] at this
    exact this

/-- A slice that reads so as long as A holds. -/
def RdIn (w0 : World) (A : HP) (v : Value) (bs : List UInt8) : Prop := ∀ w', At w0 A w' → Rd w' v (bys bs)
/-- A reader. -/
def rdr (b : Nat) (a : Option Addr) (c : Nat) (s : Rs) : HP := cel b #[.slice a s.bs.length c, .bool s.bad] 133
theorem Rs.take_fails {s : Rs} {n : Nat} (h : s.fails n = true) : s.take n = ([], ⟨s.bs, true⟩) := if_pos h
theorem Rs.take_ok {s : Rs} {n : Nat} (h : s.fails n = false) : s.take n = (s.bs.take n, ⟨s.bs.drop n, false⟩) ∧ n ≤ s.bs.length ∧ s.bad = false := by
  unfold Rs.take
  rw [if_neg (by rw [h]; simp)]
  unfold Rs.fails at h
  simp only [Bool.or_eq_false_iff, decide_eq_false_iff_not] at h
  exact ⟨rfl, by omega, h.1⟩
theorem packTake_any (w0 w : World) (A F : HP) (b : Nat) (a : Option Addr) (c : Nat) (n : Nat) (s : Rs) (hm : s.bs.length ≤ 1000000000) (hA : RdIn w0 A (.slice a s.bs.length c) s.bs) (h : At w0 (rdr b a c s * (F * A)) w) :
    Calls Try.prog 56 #[.pointer (some ⟨b, 0, none⟩), .int .i64 n] w fun e w' => ∃ a1 c1 a2 c2, e = .returned (.slice a1 (s.take n).1.length c1) ∧ RdIn w0 A (.slice a2 (s.take n).2.bs.length c2) (s.take n).2.bs ∧
      At w0 (row 5 1 (.slice a1 (s.take n).1.length c1) (s.take n).1.length (bys (s.take n).1) * (rdr b a2 c2 (s.take n).2 * (F * A))) w' := by
  cases hf : s.fails n with
  | true =>
    rw [Rs.take_fails hf]
    refine (packTake_bad w0 w _ b a s.bs.length c s.bad n (by unfold Rs.fails at hf; simp only [Bool.or_eq_true, decide_eq_true_eq] at hf ⊢; exact hf.elim (fun h => .inl (.inl h)) fun h => .inr (by omega)) h).mono ?_
    rintro e w1 ⟨rfl, h1⟩
    exact ⟨none, 0, a, c, rfl, hA, h1.row_nil _ _⟩
  | false =>
    obtain ⟨e, hk, hb⟩ := Rs.take_ok hf
    rw [e]
    obtain ⟨bs, bad⟩ := s
    obtain rfl : bad = false := hb
    refine (packTake_good w0 w A F b a c n bs hk hm hA h).mono ?_
    rintro e w1 ⟨a1, c1, a2, c2, rfl, h1, h2⟩
    have e1 : (bs.take n).length = n := by rw [List.length_take]; exact Nat.min_eq_left hk
    have e2 : (bs.drop n).length = bs.length - n := List.length_drop
    refine ⟨a1, c1, a2, c2, by simp only [e1], by simp only [e2]; exact h1, ?_⟩
    unfold rdr
    simp only [e1, e2]
    exact h2
end Go.Proofs.Ytmlifjfgelfbbaa
