/-
  What the name of a key comes to: a contract, no statement.
-/
import Derived.Test.YtghlbhnpgbhllaaPl
import Derived.Laws.IdiomStrings
namespace Go.Proofs.Ytghlbhnpgbhllaa
open Go Go.RowKit

/-- A row's table and key as one text. -/
def nmB (i : It) : ByteArray := ⟨#[UInt8.ofNat i.t.toNat]⟩ ++ i.k
theorem nmB_eq {i j : It} (hi : 0 ≤ i.t ∧ i.t ≤ 3) (hj : 0 ≤ j.t ∧ j.t ≤ 3) : ((nmB i).toList == (nmB j).toList) = eqB i.t i.k j.t j.k := by
  have e : ∀ x : It, (nmB x).toList = UInt8.ofNat x.t.toNat :: x.k.toList := fun x => by
    unfold nmB
    rw [toList_append, ByteArray.toList_eq]
    rfl
  rw [e, e, Bool.eq_iff_iff, eqB_iff, beq_iff_eq, List.cons.injEq]
  have : (UInt8.ofNat i.t.toNat = UInt8.ofNat j.t.toNat) ↔ i.t = j.t := by
    constructor
    · intro h
      have h1 := congrArg UInt8.toNat h
      simp only [UInt8.toNat_ofNat'] at h1
      omega
    · intro h; rw [h]
  rw [this]

set_option maxHeartbeats 1000000 in
theorem name_any (w0 w : World) (A : HP) (i : It) (hi : 0 ≤ i.t ∧ i.t ≤ 3) (hk : i.k.size ≤ 1000000) (h : At w0 A w) :
    Calls Try.prog 14 #[.agg #[.int .i64 i.t, .string i.k, .string i.v, .int .i64 i.p, .int .i64 i.s]] w fun e w' => e = .returned (.string (nmB i)) ∧ At w0 A w' := by
  have h1 := (h.alloc (.cells #[.int .i64 i.t, .string i.k, .string i.v, .int .i64 i.p, .int .i64 i.s] 31))
  have hk2 : (i.k.size : Int) + 1 ≤ 9223372036854775807 := by omega
  have hb : bits .and .i64 i.t 3 % 256 = ((UInt8.ofNat i.t.toNat).toNat : Int) := by
    have ht : i.t = 0 ∨ i.t = 1 ∨ i.t = 2 ∨ i.t = 3 := by omega
    rcases ht with e | e | e | e <;> rw [e] <;> rfl
  have h2 := h1.alloc' (show _ = w.heap.size + 1 by simp) (.cells #[.int .u8 (bits .and .i64 i.t 3 % 256)] 5)
  have hconv := run_convert_bytes_back (P := Try.prog) ((w.alloc (.cells #[.int .i64 i.t, .string i.k, .string i.v, .int .i64 i.p, .int .i64 i.s] 31)).alloc (.cells #[.int .u8 (bits .and .i64 i.t 3 % 256)] 5)) 57 9 5 ⟨w.heap.size + 1, 0, none⟩ 1 [UInt8.ofNat i.t.toNat]
    Try.underlying57 Try.underlying5 Try.underlying9 (fun j hj => by
      obtain rfl : j = 0 := by simpa using hj
      have := At.cell (i := 0) h2 rfl
      show _ = some (Value.int .u8 ((UInt8.ofNat i.t.toNat).toNat : Int))
      rw [← hb]
      exact this)
  simp only [List.length_cons, List.length_nil, Nat.zero_add] at hconv
  have Hq := hide (show (.string (⟨#[UInt8.ofNat i.t.toNat]⟩ ++ i.k) : Value) = .string (nmB i) from rfl)
  have hsz1 : ((⟨#[UInt8.ofNat i.t.toNat]⟩ : ByteArray).size : Int) = 1 := rfl
  clear hb h hk hi
  go_enter Try.func14, Try.ntmps14
  go_wp2
  go_ret
  exact ⟨by rw [← Hq.out]; rfl, h2.r.r⟩
end Go.Proofs.Ytghlbhnpgbhllaa
