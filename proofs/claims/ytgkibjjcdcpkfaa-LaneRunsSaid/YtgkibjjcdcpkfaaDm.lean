/-
  A disk as plain lists, and as blocks. No walk, no statement.
-/
import Derived.Test.YtgkibjjcdcpkfaaWr
namespace Go.Proofs.Ytgkibjjcdcpkfaa
open Go Go.RowKit

/-- A region: its writes that are not sure, whether it is armed, how many more writes there may be. -/
structure Reg where
  waits : List (Nat × List UInt8)
  armed : Bool
  left : Nat
structure Dk where
  size : Nat
  data : List (List UInt8)
  regs : List Reg
  writes : Nat
structure Dk.Wf (m : Dk) : Prop where
  data : m.data.length = m.regs.length * m.size
  regs : m.regs.length ≤ 64
  size0 : 0 < m.size
  size : m.size ≤ 65536
  secs : ∀ s ∈ m.data, s.length = 64
  waits : ∀ r ∈ m.regs, r.waits.length ≤ m.writes ∧ ∀ p ∈ r.waits, p.2.length = 64 ∧ p.1 < m.size
  lefts : ∀ r ∈ m.regs, r.left ≤ 9223372036854775807

def wcs (p : Nat × List UInt8) : List Value := .int .i64 p.1 :: bys p.2
def wcss (l : List (Nat × List UInt8)) : List Value := l.flatMap wcs
def secs (l : List (List UInt8)) : List Value := l.flatMap bys
theorem flat_sized {α : Type} {f : α → List Value} {k : Nat} : ∀ {l : List α}, (∀ x ∈ l, (f x).length = k) → (l.flatMap f).length = l.length * k
  | [], _ => by simp
  | x :: l, h => by
    rw [List.flatMap_cons, List.length_append, h x List.mem_cons_self, flat_sized fun y hy => h y (List.mem_cons_of_mem _ hy), List.length_cons, Nat.add_mul]
    omega
/-- Element i of a row of elements of one size. -/
theorem flat_at {α : Type} {f : α → List Value} {k : Nat} : ∀ {l : List α}, (∀ x ∈ l, (f x).length = k) → ∀ (i j : Nat) (hi : i < l.length), j < k → (l.flatMap f)[i * k + j]? = (f l[i])[j]?
  | [], _, i, j, hi, _ => by simp at hi
  | x :: l, h, 0, j, _, hj => by
    have hx := h x List.mem_cons_self
    rw [List.flatMap_cons, Nat.zero_mul, Nat.zero_add, List.getElem?_append_left (by omega)]
    rfl
  | x :: l, h, i + 1, j, hi, hj => by
    have hx := h x List.mem_cons_self
    rw [List.flatMap_cons, List.getElem?_append_right (by rw [hx, Nat.add_mul]; omega), hx, show (i + 1) * k + j - k = i * k + j by rw [Nat.add_mul]; omega]
    rw [flat_at (fun y hy => h y (List.mem_cons_of_mem _ hy)) i j (by simpa using hi) hj]
    rfl
theorem flat_set {α : Type} {f : α → List Value} {k : Nat} : ∀ {l : List α}, (∀ x ∈ l, (f x).length = k) → ∀ (i : Nat) (y : α), (f y).length = k → i < l.length →
    (l.set i y).flatMap f = (l.flatMap f).take (i * k) ++ f y ++ (l.flatMap f).drop (i * k + (f y).length)
  | [], _, i, y, _, hi => by simp at hi
  | x :: l, h, 0, y, hy, _ => by
    have hx := h x List.mem_cons_self
    rw [List.set_cons_zero, List.flatMap_cons, List.flatMap_cons, Nat.zero_mul, List.take_zero, List.nil_append, Nat.zero_add, hy, ← hx, List.drop_left]
  | x :: l, h, i + 1, y, hy, hi => by
    have hx := h x List.mem_cons_self
    rw [List.set_cons_succ, List.flatMap_cons, List.flatMap_cons, flat_set (fun z hz => h z (List.mem_cons_of_mem _ hz)) i y hy (by simpa using hi), Nat.add_mul, Nat.one_mul]
    have e1 : ∀ n, (f x ++ l.flatMap f).take (n + k) = f x ++ (l.flatMap f).take n := fun n => by
      rw [show n + k = (f x).length + n by omega]
      simp [List.take_append]
      exact List.take_of_length_le (by omega)
    have e2 : ∀ n, (f x ++ l.flatMap f).drop (n + k) = (l.flatMap f).drop n := fun n => by
      rw [show n + k = (f x).length + n by omega, ← List.drop_drop, List.drop_left]
    rw [e1, show i * k + k + (f y).length = (i * k + (f y).length) + k by omega, e2]
    simp only [List.append_assoc]

theorem wcs_len {p : Nat × List UInt8} (h : p.2.length = 64) : (wcs p).length = 65 := by simp [wcs, bys_len, h]
theorem bys64 {s : List UInt8} (h : s.length = 64) : (bys s).length = 64 := by rw [bys_len, h]

/-- The regions' cells, and the rows of their writes. -/
def rgcs : List Reg → List Value → List Value
  | r :: rs, v :: vs => v :: .bool r.armed :: .int .i64 r.left :: rgcs rs vs
  | _, _ => []
def rgsP : List Reg → List Value → HP
  | r :: rs, v :: vs => row 86 65 v r.waits.length (wcss r.waits) * rgsP rs vs
  | _, _ => 1
/-- The rows of all regions but one. -/
def rgsX : Nat → List Reg → List Value → HP
  | 0, _ :: rs, _ :: vs => rgsP rs vs
  | i + 1, r :: rs, v :: vs => row 86 65 v r.waits.length (wcss r.waits) * rgsX i rs vs
  | _, _, _ => 1
theorem rgsP_get : ∀ {rs : List Reg} {vs : List Value} {i : Nat} (hi : i < rs.length) (hv : vs.length = rs.length), rgsP rs vs = row 86 65 (vs[i]'(by omega)) rs[i].waits.length (wcss rs[i].waits) * rgsX i rs vs
  | [], _, _, hi, _ => by simp at hi
  | r :: rs, [], _, _, hv => by simp at hv
  | r :: rs, v :: vs, 0, _, _ => rfl
  | r :: rs, v :: vs, i + 1, hi, hv => by
    have hvi : i < vs.length := by simp at hi hv; omega
    show row _ _ _ _ _ * rgsP rs vs = row _ _ vs[i] _ _ * (row _ _ _ _ _ * rgsX i rs vs)
    rw [rgsP_get (i := i) (by simpa using hi) (by simpa using hv), HP.mul_left_comm]
    rfl
theorem rgsP_set : ∀ {rs : List Reg} {vs : List Value} {i : Nat} (_hi : i < rs.length) (_hv : vs.length = rs.length) (r : Reg) (v : Value), rgsP (rs.set i r) (vs.set i v) = row 86 65 v r.waits.length (wcss r.waits) * rgsX i rs vs
  | [], _, _, hi, _, _, _ => by simp at hi
  | _ :: rs, [], _, _, hv, _, _ => by simp at hv
  | _ :: rs, _ :: vs, 0, _, _, _, _ => rfl
  | r0 :: rs, v0 :: vs, i + 1, hi, hv, r, v => by
    show row _ _ _ _ _ * rgsP (rs.set i r) (vs.set i v) = _ * (row _ _ _ _ _ * rgsX i rs vs)
    rw [rgsP_set (by simpa using hi) (by simpa using hv), HP.mul_left_comm]
theorem rgcs_len : ∀ {rs : List Reg} {vs : List Value} (_hv : vs.length = rs.length), (rgcs rs vs).length = rs.length * 3
  | [], [], _ => rfl
  | [], _ :: _, hv => by simp at hv
  | _ :: _, [], hv => by simp at hv
  | r :: rs, v :: vs, hv => by
    have := rgcs_len (rs := rs) (vs := vs) (by simpa using hv)
    simp only [rgcs, List.length_cons, this]
    omega
theorem rgcs_at : ∀ {rs : List Reg} {vs : List Value} {i : Nat} (hi : i < rs.length) (hv : vs.length = rs.length),
    (rgcs rs vs)[i * 3]? = some (vs[i]'(by omega)) ∧ (rgcs rs vs)[i * 3 + 1]? = some (.bool rs[i].armed) ∧ (rgcs rs vs)[i * 3 + 2]? = some (.int .i64 rs[i].left)
  | [], _, _, hi, _ => by simp at hi
  | r :: rs, [], _, _, hv => by simp at hv
  | r :: rs, v :: vs, 0, _, _ => ⟨rfl, rfl, rfl⟩
  | r :: rs, v :: vs, i + 1, hi, hv => by
    have := rgcs_at (rs := rs) (vs := vs) (i := i) (by simpa using hi) (by simpa using hv)
    have e : (i + 1) * 3 = i * 3 + 3 := by omega
    rw [e]
    exact this
theorem rgcs_set0 : ∀ {rs : List Reg} {vs : List Value} {i : Nat} (_hi : i < rs.length) (_hv : vs.length = rs.length) (r : Reg) (v : Value), (((rgcs rs vs).set (i * 3) v).set (i * 3 + 1) (.bool r.armed)).set (i * 3 + 2) (.int .i64 r.left) = rgcs (rs.set i r) (vs.set i v)
  | [], _, _, hi, _, _, _ => by simp at hi
  | _ :: rs, [], _, _, hv, _, _ => by simp at hv
  | _ :: rs, _ :: vs, 0, _, _, _, _ => rfl
  | r0 :: rs, v0 :: vs, i + 1, hi, hv, r, v => by
    have := rgcs_set0 (rs := rs) (vs := vs) (i := i) (by simpa using hi) (by simpa using hv) r v
    have e : (i + 1) * 3 = i * 3 + 3 := by omega
    rw [e]
    show v0 :: .bool r0.armed :: .int .i64 r0.left :: (((rgcs rs vs).set (i * 3) v).set (i * 3 + 1) (.bool r.armed)).set (i * 3 + 2) (.int .i64 r.left) = _
    rw [this]
    rfl

/-- A disk in memory. -/
def dskO (b : Nat) (m : Dk) (dv rv : Value) (vs : List Value) : HP :=
  cel b #[.int .i64 m.size, dv, rv, .int .i64 m.writes] 78 * (row 84 64 dv m.data.length (secs m.data) * (row 83 3 rv m.regs.length (rgcs m.regs vs) * rgsP m.regs vs))
def dsk (b : Nat) (m : Dk) : HP := hex fun p : Value × Value × List Value => fact (m.Wf ∧ p.2.2.length = m.regs.length) * dskO b m p.1 p.2.1 p.2.2
section
variable {w0 w : World} {R : HP} {b : Nat} {m : Dk}
theorem At.dsk_open (h : At w0 (dsk b m * R) w) : m.Wf ∧ ∃ dv rv vs, vs.length = m.regs.length ∧ At w0 (cel b #[.int .i64 m.size, dv, rv, .int .i64 m.writes] 78 * (row 84 64 dv m.data.length (secs m.data) * (row 83 3 rv m.regs.length (rgcs m.regs vs) * (rgsP m.regs vs * R)))) w := by
  obtain ⟨⟨dv, rv, vs⟩, h⟩ := h.exl
  obtain ⟨⟨h1, h2⟩, h3⟩ := h.assoc.factl
  refine ⟨h1, dv, rv, vs, h2, h3.cast ?_⟩
  unfold dskO
  ac_rfl
theorem At.dsk_shut {dv rv : Value} {vs : List Value} (hm : m.Wf) (hv : vs.length = m.regs.length) (h : At w0 (cel b #[.int .i64 m.size, dv, rv, .int .i64 m.writes] 78 * (row 84 64 dv m.data.length (secs m.data) * (row 83 3 rv m.regs.length (rgcs m.regs vs) * (rgsP m.regs vs * R)))) w) : At w0 (dsk b m * R) w := by
  refine At.mkex (F := fun p : Value × Value × List Value => fact (m.Wf ∧ p.2.2.length = m.regs.length) * dskO b m p.1 p.2.1 p.2.2) (dv, rv, vs) (At.cast (At.mkfact (show m.Wf ∧ vs.length = m.regs.length from ⟨hm, hv⟩) h) ?_)
  unfold dskO
  ac_rfl
end
end Go.Proofs.Ytgkibjjcdcpkfaa
