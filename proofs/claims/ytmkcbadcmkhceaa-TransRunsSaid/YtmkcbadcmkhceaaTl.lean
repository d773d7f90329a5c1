/-
  The law's own transactions beside those of the table. No statement.
-/
import Derived.Test.YtmkcbadcmkhceaaCg
import Derived.Test.YtmkcbadcmkhceaaTf
namespace Go.Proofs.Ytmkcbadcmkhceaa
open Go Go.RowKit

/-- A transaction of the law's. -/
def txl (b : Nat) (l : List Ch) (saves : List Int) (ops : Int) : HP :=
  hex fun v => hex fun vs => cel b #[v, vs, .int .i64 ops] 56 * (row 36 3 v l.length (chs l) * row 3 1 vs saves.length (saves.map (.int .i64)))
section
variable {w0 w : World} {R : HP} {b : Nat} {l : List Ch} {saves : List Int} {ops : Int} {v vs : Value}
theorem At.txl_open (h : At w0 (txl b l saves ops * R) w) :
    ∃ v vs, At w0 (cel b #[v, vs, .int .i64 ops] 56 * (row 36 3 v l.length (chs l) * (row 3 1 vs saves.length (saves.map (.int .i64)) * R))) w := by
  obtain ⟨v, h⟩ := h.exl
  obtain ⟨vs, h⟩ := h.exl
  exact ⟨v, vs, h.cast (by ac_rfl)⟩
theorem At.txl_shut (h : At w0 (cel b #[v, vs, .int .i64 ops] 56 * (row 36 3 v l.length (chs l) * (row 3 1 vs saves.length (saves.map (.int .i64)) * R))) w) : At w0 (txl b l saves ops * R) w :=
  At.mkex v (At.mkex vs (h.cast (by ac_rfl)))
theorem At.txl_new (h : At w0 (cel b #[.slice none 0 0, .slice none 0 0, .int .i64 0] 56 * R) w) : At w0 (txl b [] [] 0 * R) w :=
  At.txl_shut (v := .slice none 0 0) (vs := .slice none 0 0) (h.cast (by
    show _ = cel b _ _ * (row _ 3 (.slice none 0 0) 0 [] * (row _ 1 (.slice none 0 0) 0 [] * R))
    rw [Go.Proofs.Ytmkcbadcmkhceaa.row_nil, Go.Proofs.Ytmkcbadcmkhceaa.row_nil, HP.one_mul, HP.one_mul]))
end

/-- Of each number: the table's transaction and the law's. -/
abbrev St := Nat → Option (Nat × Nat)
def pA (st : St) : Nat → Option Nat := fun i => (st i).map (·.1)
def pB (st : St) : Nat → Option Nat := fun i => (st i).map (·.2)
def sel (st : St) (n : Nat) : Option Nat := if n = 0 then none else pB st n
def lcells (st : St) : Array Value := #[.pointer none, ptr (pB st 1), ptr (pB st 2), ptr (pB st 3)]
def lar (M : Nat) (st : St) : HP := cel M (lcells st) 52
theorem lcells_at (st : St) (n : Nat) (hn : n ≤ 3) : (lcells st)[n]? = some (ptr (sel st n)) := by
  have : n = 0 ∨ n = 1 ∨ n = 2 ∨ n = 3 := by omega
  rcases this with rfl | rfl | rfl | rfl <;> rfl
theorem lcells_upd (st : St) (n : Nat) (h0 : n ≠ 0) (hn : n ≤ 3) (x : Option (Nat × Nat)) : (lcells st).setIfInBounds n (ptr (x.map (·.2))) = lcells (upd st n x) := by
  have : n = 1 ∨ n = 2 ∨ n = 3 := by omega
  rcases this with rfl | rfl | rfl <;> simp [lcells, pB, upd]
theorem lcells_zero (st : St) : (lcells st).setIfInBounds 0 (.pointer none) = lcells st := by simp [lcells]

def two (o : Option (Nat × Nat)) (t : Td) : HP := match o with
  | none => 1
  | some (b, b') => txb b t.l t.sv t.ops * txl b' t.l t.sv t.ops
/-- The table and the law's array, with all that they hold. -/
def full (T : Nat) (st : St) (d : Nat → Td) (A : HP) : HP := tbl T (pA st) * (A * (two (st 1) (d 1) * (two (st 2) (d 2) * two (st 3) (d 3))))
theorem upd_self {α : Type} (d : Nat → α) (n : Nat) : upd d n (d n) = d := by
  funext i
  unfold upd
  split
  · rename_i h; rw [h]
  · rfl
theorem full_at {T n b b' : Nat} {st : St} {d : Nat → Td} {A : HP} (hn : n = 1 ∨ n = 2 ∨ n = 3) (h : st n = some (b, b')) :
    ∃ C, ∀ t, full T st (upd d n t) A = txb b t.l t.sv t.ops * (txl b' t.l t.sv t.ops * (tbl T (pA st) * (A * C))) := by
  unfold full
  rcases hn with rfl | rfl | rfl
  · refine ⟨two (st 2) (d 2) * two (st 3) (d 3), fun t => ?_⟩
    rw [h]
    show _ * (A * ((txb b _ _ _ * txl b' _ _ _) * (two (st 2) (d 2) * two (st 3) (d 3)))) = _
    ac_rfl
  · refine ⟨two (st 1) (d 1) * two (st 3) (d 3), fun t => ?_⟩
    rw [h]
    show _ * (A * (two (st 1) (d 1) * ((txb b _ _ _ * txl b' _ _ _) * two (st 3) (d 3)))) = _
    ac_rfl
  · refine ⟨two (st 1) (d 1) * two (st 2) (d 2), fun t => ?_⟩
    rw [h]
    show _ * (A * (two (st 1) (d 1) * (two (st 2) (d 2) * (txb b _ _ _ * txl b' _ _ _)))) = _
    ac_rfl
theorem full_at0 {T n b b' : Nat} {st : St} {d : Nat → Td} {A : HP} (hn : n = 1 ∨ n = 2 ∨ n = 3) (h : st n = some (b, b')) :
    ∃ C, full T st d A = txb b (d n).l (d n).sv (d n).ops * (txl b' (d n).l (d n).sv (d n).ops * (tbl T (pA st) * (A * C))) ∧
      ∀ t, full T st (upd d n t) A = txb b t.l t.sv t.ops * (txl b' t.l t.sv t.ops * (tbl T (pA st) * (A * C))) := by
  obtain ⟨C, hC⟩ := full_at (T := T) (d := d) (A := A) hn h
  refine ⟨C, ?_, hC⟩
  have := hC (d n)
  rwa [upd_self] at this
/-- One more, or one less. -/
theorem full_new {T n : Nat} {st : St} {d : Nat → Td} {A : HP} (hn : n = 1 ∨ n = 2 ∨ n = 3) (h : st n = none) :
    ∃ C, full T st d A = tbl T (pA st) * (A * C) ∧ ∀ b b' t A', full T (upd st n (some (b, b'))) (upd d n t) A' = tbl T (upd (pA st) n (some b)) * (A' * (txb b t.l t.sv t.ops * (txl b' t.l t.sv t.ops * C))) := by
  have hp : ∀ x, pA (upd st n x) = upd (pA st) n (x.map (·.1)) := fun x => by
    funext i
    unfold pA upd
    split <;> rfl
  unfold full
  rcases hn with rfl | rfl | rfl
  · refine ⟨two (st 2) (d 2) * two (st 3) (d 3), ?_, fun b b' t A' => ?_⟩
    · rw [h]; show _ * (A * (1 * _)) = _; rw [HP.one_mul]
    · rw [hp]
      show _ * (A' * ((txb b _ _ _ * txl b' _ _ _) * (two (st 2) (d 2) * two (st 3) (d 3)))) = _
      simp only [Option.map_some]
      ac_rfl
  · refine ⟨two (st 1) (d 1) * two (st 3) (d 3), ?_, fun b b' t A' => ?_⟩
    · rw [h]; show _ * (A * (_ * (1 * _))) = _; rw [HP.one_mul]
    · rw [hp]
      show _ * (A' * (two (st 1) (d 1) * ((txb b _ _ _ * txl b' _ _ _) * two (st 3) (d 3)))) = _
      simp only [Option.map_some]
      ac_rfl
  · refine ⟨two (st 1) (d 1) * two (st 2) (d 2), ?_, fun b b' t A' => ?_⟩
    · rw [h]; show _ * (A * (_ * (_ * 1))) = _; rw [HP.mul_one]
    · rw [hp]
      show _ * (A' * (two (st 1) (d 1) * (two (st 2) (d 2) * (txb b _ _ _ * txl b' _ _ _)))) = _
      simp only [Option.map_some]
      ac_rfl
theorem full_end {T n : Nat} {st : St} {d : Nat → Td} {A : HP} (hn : n = 1 ∨ n = 2 ∨ n = 3) :
    ∃ C G, full T st d A = tbl T (pA st) * (A * (C * G)) ∧ ∀ A', full T (upd st n none) d A' = tbl T (upd (pA st) n none) * (A' * C) := by
  have hp : ∀ x, pA (upd st n x) = upd (pA st) n (x.map (·.1)) := fun x => by
    funext i
    unfold pA upd
    split <;> rfl
  unfold full
  rcases hn with rfl | rfl | rfl
  · refine ⟨two (st 2) (d 2) * two (st 3) (d 3), two (st 1) (d 1), by ac_rfl, fun A' => ?_⟩
    rw [hp]
    show _ * (A' * (1 * (two (st 2) (d 2) * two (st 3) (d 3)))) = _
    rw [HP.one_mul]; rfl
  · refine ⟨two (st 1) (d 1) * two (st 3) (d 3), two (st 2) (d 2), by ac_rfl, fun A' => ?_⟩
    rw [hp]
    show _ * (A' * (two (st 1) (d 1) * (1 * two (st 3) (d 3)))) = _
    rw [HP.one_mul]; rfl
  · refine ⟨two (st 1) (d 1) * two (st 2) (d 2), two (st 3) (d 3), by ac_rfl, fun A' => ?_⟩
    rw [hp]
    show _ * (A' * (two (st 1) (d 1) * (two (st 2) (d 2) * 1))) = _
    rw [HP.mul_one]; rfl
/-- As a table alone. -/
theorem full_tabl {T : Nat} {st : St} {d : Nat → Td} {A : HP} : ∃ C, full T st d A = tabl T (pA st) d * (A * C) := by
  have h : ∀ (o : Option (Nat × Nat)) (t : Td), ∃ C, two o t = otx (o.map (·.1)) t * C := fun o t => by
    cases o with
    | none => exact ⟨1, (HP.one_mul _).symm⟩
    | some x => obtain ⟨b, b'⟩ := x; exact ⟨txl b' t.l t.sv t.ops, rfl⟩
  obtain ⟨C1, h1⟩ := h (st 1) (d 1)
  obtain ⟨C2, h2⟩ := h (st 2) (d 2)
  obtain ⟨C3, h3⟩ := h (st 3) (d 3)
  refine ⟨C1 * (C2 * C3), ?_⟩
  unfold full tabl
  rw [h1, h2, h3]
  show _ = tbl T (pA st) * (otx ((st 1).map (·.1)) (d 1) * (otx ((st 2).map (·.1)) (d 2) * otx ((st 3).map (·.1)) (d 3))) * _
  ac_rfl

end Go.Proofs.Ytmkcbadcmkhceaa
