/-
  The package pack: numbers and texts out of a reader, in terms of blocks: contracts, no statement.
-/
import Derived.Test.YtmlifjfgelfbbaaPk
namespace Go.Proofs.Ytmlifjfgelfbbaa
open Go Go.RowKit

set_option maxRecDepth 100000 in
set_option maxHeartbeats 2000000 in
theorem packNum_any (w0 w : World) (A F : HP) (b : Nat) (a : Option Addr) (c : Nat) (n : Nat) (s : Rs) (h1 : 1 ≤ n) (h8 : n ≤ 8) (hm : s.bs.length ≤ 1000000000) (hA : RdIn w0 A (.slice a s.bs.length c) s.bs) (h : At w0 (rdr b a c s * (F * A)) w) :
    Calls Try.prog 48 #[.pointer (some ⟨b, 0, none⟩), .int .i64 n] w fun e w' => ∃ a2 c2, e = .returned (.int .u64 (num (s.take n).1)) ∧ RdIn w0 A (.slice a2 (s.take n).2.bs.length c2) (s.take n).2.bs ∧
      At w0 (rdr b a2 c2 (s.take n).2 * (F * A)) w' := by
  have htk := packTake_any w0 w A F b a c n s hm hA h
  have hlen : (s.take n).1.length ≤ n := by
    unfold Rs.take
    split
    · simp
    · simp only [List.length_take]; omega
  generalize (s.take n).1 = t at *
  generalize (s.take n).2 = s2 at *
  have HA := hide hA
  clear hA
  go_enter Try.func48, Try.ntmps48
  go_wp2_with fail
  refine htk.mono ?_
  rintro e w1 ⟨a1, c1, a2, c2, rfl, hrd, h2⟩
  have Hrd := hide hrd
  clear htk h hm hrd
  go_wp2_with fail
  go_loopw [5, 18] (fun u5 u18 wr => ∃ i : Nat, i ≤ t.length ∧ u18 = .int .i64 i ∧ u5 = .int .u64 (num (t.take i)) ∧ At w0 (row 5 1 (.slice a1 t.length c1) t.length (bys t) * (rdr b a2 c2 s2 * (F * A))) wr) (fun _ u _ => t.length - (intOf u).toNat)
  case atStart => exact ⟨0, Nat.zero_le _, rfl, rfl, h2⟩
  case round =>
    obtain ⟨i, hi, rfl, rfl, h3⟩ := hrel
    clear h2
    by_cases hil : i < t.length
    · obtain ⟨g, cq, q1, hle1, hcell1⟩ := h3.row_ptr (by omega)
      cases q1
      have d0 := hcell1 i (byv t[i]) (by simp [bys, List.getElem?_eq_getElem hil])
      unfold byv at d0
      have hx := num_lt (t.take i)
      have hxl : num (t.take i) < 256 ^ 7 := Nat.lt_of_lt_of_le hx (Nat.pow_le_pow_right (by decide) (by rw [List.length_take]; omega))
      have hb := (t[i]).toNat_lt
      have Hs := hide (show num (t.take (i + 1)) = num (t.take i) * 256 + (t[i]).toNat by rw [List.take_succ_eq_append_getElem hil, num_snoc])
      have Ho := hide (or_byte (num (t.take i)) t[i])
      have Hb := hide hb
      clear hb
      generalize num (t.take i) = x at *
      generalize (t[i]).toNat = y at *
      clear hx hcell1
      have Hx := hide hxl
      clear hxl
      go_wp2_with fail
      go_roundw
      case rel => exact ⟨i + 1, by omega, by go_num, by rw [Hs.out, wrap_u64 (x := (y : Int)) (by omega) (by have := Hb.out; omega), or_u64 x y Hx.out Hb.out Ho.out], h3⟩
      case measure => simp [intOf]; omega
    · obtain rfl : i = t.length := by omega
      go_wp2_with fail
      go_ret
      rw [List.take_length]
      exact ⟨a2, c2, rfl, Hrd.out, h3.r⟩

/-- A text out of a reader. -/
def Rs.text (s : Rs) : List UInt8 × Rs := (s.take 1).2.take (num (s.take 1).1)
theorem Rs.take_len (s : Rs) (n : Nat) : (s.take n).1.length ≤ s.bs.length ∧ (s.take n).2.bs.length ≤ s.bs.length := by
  unfold Rs.take
  split
  · exact ⟨by simp, Nat.le_refl _⟩
  · exact ⟨by rw [List.length_take]; omega, by rw [List.length_drop]; omega⟩
theorem Rs.take_num (s : Rs) (n : Nat) : num (s.take n).1 < 256 ^ n := by
  have h1 : (s.take n).1.length ≤ n := by
    unfold Rs.take
    split
    · simp
    · simp only [List.length_take]; omega
  exact Nat.lt_of_lt_of_le (num_lt _) (Nat.pow_le_pow_right (by decide) h1)

set_option maxRecDepth 100000 in
set_option maxHeartbeats 2000000 in
theorem packRText_any (w0 w : World) (A F : HP) (b : Nat) (a : Option Addr) (c : Nat) (s : Rs) (hm : s.bs.length ≤ 1000000000) (hA : RdIn w0 A (.slice a s.bs.length c) s.bs) (h : At w0 (rdr b a c s * (F * A)) w) :
    Calls Try.prog 63 #[.pointer (some ⟨b, 0, none⟩)] w fun e w' => ∃ a2 c2, e = .returned (str s.text.1) ∧ RdIn w0 A (.slice a2 s.text.2.bs.length c2) s.text.2.bs ∧
      At w0 (rdr b a2 c2 s.text.2 * (F * A)) w' := by
  have hnum := packNum_any w0 w A F b a c 1 s (Nat.le_refl _) (by decide) hm hA h
  have hs := (s.take_len 1).2
  have hnl := s.take_num 1
  have Htx := hide (show s.text = (s.take 1).2.take (num (s.take 1).1) from rfl)
  generalize s.text = tx at *
  generalize num (s.take 1).1 = q at *
  generalize (s.take 1).2 = s2 at *
  obtain rfl := Htx.out
  clear Htx h hA
  have Hnl := hide hnl
  clear hnl
  have hq8 : q < 256 := Hnl.out
  go_enter Try.func63, Try.ntmps63
  go_wp2_with fail
  refine hnum.mono ?_
  rintro e w1 ⟨a2, c2, rfl, hrd, h2⟩
  have htk := packTake_any w0 w1 A F b a2 c2 q s2 (by omega) hrd h2
  clear hnum
  have Hrd := hide hrd
  clear hrd
  go_wp2_with fail
  refine htk.mono ?_
  rintro e w2 ⟨a3, c3, a4, c4, rfl, hrd, h3⟩
  have Hrd2 := hide hrd
  clear htk hrd
  have hcv := run_txt (P := Try.prog) 32 5 9 Try.underlying32 Try.underlying5 Try.underlying9 h3.rd
  go_wp2_with fail
  go_ret
  exact ⟨a4, c4, rfl, Hrd2.out, h3.r⟩

set_option maxRecDepth 100000 in
set_option maxHeartbeats 2000000 in
theorem packText_any (w0 w : World) (A : HP) (v : Value) (bs : List UInt8) (t : ByteArray) (ht : t.size < 256) (hl : bs.length ≤ 100000000) (h : At w0 A w) (hb : Rd w v (bys bs)) :
    Calls Try.prog 43 #[v, .string t] w fun e w' => ∃ a c, e = .returned (.slice a (bs.length + 1 + t.size) c) ∧ At w0 (row 5 1 (.slice a (bs.length + 1 + t.size) c) (bs.length + 1 + t.size) (bys (bs ++ be 1 t.size ++ t.data.toList)) * A) w' := by
  obtain ⟨i0, hi, hz0, hz1, hz2⟩ := info_parts Try.info8
  have hput := packPut_any w0 w A v bs 1 t.size (by decide) (by omega) (by omega) h hb
  clear h hb
  go_enter Try.func43, Try.ntmps43
  go_wp2_with fail
  refine hput.mono ?_
  rintro e w1 ⟨a1, c1, rfl, h1⟩
  clear hput
  go_wp2_with (at_builtin; go_loud (refine wpList_append_txt rfl _ _ _ _ rfl 5 i0 _ Try.underlying32 Try.underlying9 hi hz0 hz1 hz2 rfl t rfl rfl h1 (by omega) ?_))
  intro a2 c2 w2 h2
  go_wp2_with fail
  go_ret
  rw [bys_append]
  exact ⟨a2, c2, rfl, h2⟩

/-- The same, the length under a name. -/
theorem packText_m (w0 w : World) (A : HP) (v : Value) (bs : List UInt8) (t : ByteArray) (m : Nat) (out : List UInt8) (hm : m = bs.length + 1 + t.size) (ho : out = bs ++ be 1 t.size ++ t.data.toList) (ht : t.size < 256) (hl : bs.length ≤ 100000000) (h : At w0 A w) (hb : Rd w v (bys bs)) :
    Calls Try.prog 43 #[v, .string t] w fun e w' => ∃ a c, e = .returned (.slice a m c) ∧ At w0 (row 5 1 (.slice a m c) m (bys out) * A) w' := by
  subst hm ho
  exact packText_any w0 w A v bs t ht hl h hb
theorem packPut_m (w0 w : World) (A : HP) (v : Value) (bs : List UInt8) (n x : Nat) (m : Nat) (out : List UInt8) (hm : m = bs.length + n) (ho : out = bs ++ be n x) (hn : n ≤ 8) (hx : x < 2 ^ 64) (hl : bs.length ≤ 1000000000) (h : At w0 A w) (hb : Rd w v (bys bs)) :
    Calls Try.prog 44 #[v, .int .i64 n, .int .u64 x] w fun e w' => ∃ a c, e = .returned (.slice a m c) ∧ At w0 (row 5 1 (.slice a m c) m (bys out) * A) w' := by
  subst hm ho
  exact packPut_any w0 w A v bs n x hn hx hl h hb
end Go.Proofs.Ytmlifjfgelfbbaa
