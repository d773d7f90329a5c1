/-
  Numbers as bytes, the highest first. No program of Go's is spoken of.
-/
import Derived.Test.YtgkibjjcdcpkfaaBy
import Derived.IntWalk
namespace Go.Proofs.Ytgkibjjcdcpkfaa
open Go Go.RowKit

/-- A number in n bytes. -/
def be : Nat → Nat → List UInt8
  | 0, _ => []
  | k + 1, x => UInt8.ofNat (x / 256 ^ k) :: be k x
/-- What bytes say. -/
def num (l : List UInt8) : Nat := l.foldl (fun x c => x * 256 + c.toNat) 0
theorem be_len : ∀ k x, (be k x).length = k
  | 0, _ => rfl
  | k + 1, x => by rw [be, List.length_cons, be_len]
theorem num_snoc (l : List UInt8) (c : UInt8) : num (l ++ [c]) = num l * 256 + c.toNat := by
  unfold num
  rw [List.foldl_append]
  rfl
theorem foldl_num (l : List UInt8) : ∀ x, l.foldl (fun x c => x * 256 + c.toNat) x = x * 256 ^ l.length + num l := by
  induction l with
  | nil => intro x; simp [num]
  | cons c l ih =>
    intro x
    rw [List.foldl_cons, ih, List.length_cons]
    have : num (c :: l) = c.toNat * 256 ^ l.length + num l := by
      unfold num
      rw [List.foldl_cons, ih, Nat.zero_mul, Nat.zero_add]
      rfl
    rw [this, Nat.pow_succ, Nat.add_mul, Nat.mul_assoc, Nat.mul_comm 256]
    omega
theorem num_cons (c : UInt8) (l : List UInt8) : num (c :: l) = c.toNat * 256 ^ l.length + num l := by
  unfold num
  rw [List.foldl_cons, foldl_num, Nat.zero_mul, Nat.zero_add]
  rfl
theorem num_lt : ∀ (l : List UInt8), num l < 256 ^ l.length
  | [] => by simp [num]
  | c :: l => by
    rw [num_cons, List.length_cons, Nat.pow_succ]
    have h1 := num_lt l
    have h2 : c.toNat < 256 := c.toNat_lt
    have h3 : c.toNat * 256 ^ l.length ≤ 255 * 256 ^ l.length := Nat.mul_le_mul_right _ (by omega)
    omega
theorem num_be : ∀ {k x : Nat}, x < 256 ^ k → num (be k x) = x := by
  intro k
  have h : ∀ x, num (be k x) = x % 256 ^ k := by
    induction k with
    | zero => intro x; simp [be, num, Nat.mod_one]
    | succ k ih =>
      intro x
      rw [be, num_cons, ih, be_len, UInt8.toNat_ofNat']
      have h1 : x % 256 ^ (k + 1) = 256 ^ k * (x / 256 ^ k % 256) + x % 256 ^ k := by
        rw [Nat.pow_succ, Nat.mod_mul]
        omega
      rw [h1, Nat.mul_comm]
  intro x hx
  rw [h, Nat.mod_eq_of_lt hx]
theorem be_mod (k x : Nat) : ∀ j, k ≤ j → be k (x % 256 ^ j) = be k x := by
  induction k with
  | zero => intro j _; rfl
  | succ k ih =>
    intro j hj
    rw [be, be, ih j (by omega)]
    congr 1
    apply UInt8.toNat_inj.1
    rw [UInt8.toNat_ofNat', UInt8.toNat_ofNat']
    have e : 256 ^ j = 256 ^ k * 256 * 256 ^ (j - k - 1) := by
      rw [← Nat.pow_succ, ← Nat.pow_add]
      congr 1
      omega
    rw [e, Nat.mul_assoc, Nat.mod_mul_right_div_self, Nat.mod_mul_right_mod]
theorem be_num (l : List UInt8) : be l.length (num l) = l := by
  induction l with
  | nil => rfl
  | cons c l ih =>
    rw [List.length_cons, be, num_cons]
    have hl := num_lt l
    congr 1
    · apply UInt8.toNat_inj.1
      rw [UInt8.toNat_ofNat', Nat.add_comm, Nat.add_mul_div_right _ _ (Nat.pow_pos (by decide)), Nat.div_eq_of_lt hl, Nat.zero_add]
      exact Nat.mod_eq_of_lt c.toNat_lt
    · rw [← be_mod l.length _ l.length (Nat.le_refl _), Nat.add_comm, Nat.add_mul_mod_self_right, be_mod _ _ _ (Nat.le_refl _)]
      exact ih
theorem be_ext {k x y : Nat} (hx : x < 256 ^ k) (hy : y < 256 ^ k) (h : be k x = be k y) : x = y := by
  rw [← num_be hx, ← num_be hy, h]

/-- A byte of a number, as Go makes it. -/
theorem byte_shr (x k : Nat) : Value.int .u8 ((x : Int) / 2 ^ (8 * k) % 256) = byv (UInt8.ofNat (x / 256 ^ k)) := by
  unfold byv
  rw [UInt8.toNat_ofNat', show (256 : Nat) = 2 ^ 8 from rfl, ← Nat.pow_mul]
  congr 1
/-- A byte more, as Go makes it. -/
theorem or_byte (x : Nat) (c : UInt8) : x * 256 ||| c.toNat = x * 256 + c.toNat := by
  have := Nat.shiftLeft_add_eq_or_of_lt (i := 8) (b := c.toNat) (by exact c.toNat_lt) x
  rw [Nat.shiftLeft_eq] at this
  exact this.symm
theorem wrap_u64 {x : Int} (h0 : 0 ≤ x) (h : x < 18446744073709551616) : IntKind.u64.wrap x = x := by
  simp only [IntKind.wrap, IntKind.signed, IntKind.bits]
  simp
  omega
theorem or_u64 (x y : Nat) (hx : x < 256 ^ 7) (hy : y < 256) (ho : x * 256 ||| y = x * 256 + y) : bits .or .u64 (IntKind.u64.wrap ((x : Int) * 256)) (y : Int) = ((x * 256 + y : Nat) : Int) := by
  have h7 : (256 : Nat) ^ 7 = 72057594037927936 := by decide
  rw [wrap_u64 (by omega) (by omega)]
  show IntKind.u64.wrap ((BitVec.ofInt 64 ((x : Int) * 256) ||| BitVec.ofInt 64 (y : Int)).toNat : Int) = _
  have e : (BitVec.ofInt 64 ((x : Int) * 256) ||| BitVec.ofInt 64 (y : Int)).toNat = x * 256 + y := by
    rw [BitVec.toNat_or, ← ho]
    have h1 : (BitVec.ofInt 64 ((x : Int) * 256)).toNat = x * 256 := by
      rw [BitVec.toNat_ofInt]
      omega
    have h2 : (BitVec.ofInt 64 (y : Int)).toNat = y := by
      rw [BitVec.toNat_ofInt]
      omega
    rw [h1, h2]
  rw [e, wrap_u64 (by omega) (by omega)]
end Go.Proofs.Ytgkibjjcdcpkfaa
