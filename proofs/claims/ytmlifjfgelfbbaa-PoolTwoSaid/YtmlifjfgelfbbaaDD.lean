/-
  Rows of structs and arrays: whole elements out of them and into them. Laws of the model's memory; no statement.
  A disk as plain lists, and as blocks. No walk, no statement.
  A slice of one element that is a whole struct; copies into a block that is owned. Laws of the model's memory; no statement.
-/
import Derived.Test.YtmlifjfgelfbbaaPn
import Derived.Laws.Rows
import Derived.Laws.Tables
import Derived.Great.BuildSlice
import Derived.Laws.CopyOwn
/-! ## Wr -/
namespace Go.Proofs.Ytmlifjfgelfbbaa
open Go Go.RowKit

section
variable {w0 w : World} {R : HP} {e : TypeId} {size n cap g : Nat} {xs : List Value}

theorem At.row_fz (h : At w0 (row e size (.slice (some ⟨g, 0, none⟩) n cap) n xs * R) w) (j : Nat) : w.frozen? ⟨g, j, none⟩ = false := by
  rcases h.row_cases.2 with ⟨hv, _⟩ | ⟨g', cap', cur, hv, _, _, _, _, hat⟩
  · cases hv
  · simp at hv
    obtain ⟨rfl, _⟩ := hv
    exact At.frz hat j
theorem At.row_lt (h : At w0 (row e size (.slice (some ⟨g, 0, none⟩) n cap) n xs * R) w) : g < w.heap.size := by
  rcases h.row_cases.2 with ⟨hv, _⟩ | ⟨g', cap', cur, hv, _, _, _, _, hat⟩
  · cases hv
  · simp at hv
    obtain ⟨rfl, _⟩ := hv
    exact At.lt (o := .cells cur e) hat
theorem At.row_blk (h : At w0 (row e size (.slice (some ⟨g, 0, none⟩) n cap) n xs * R) w) : ∃ cur : Array Value, w.heap[g]? = some (.cells cur e (0, 0)) ∧ xs.length ≤ cur.size ∧ cur.toList.take xs.length = xs ∧
    ∀ ys : List Value, ys.length = cur.size → ∀ w', w' = w.setRow g ys.toArray → At w0 (row e size (.slice (some ⟨g, 0, none⟩) n cap) n (ys.take xs.length) * R) w' := by
  obtain ⟨hl, hc⟩ := h.row_cases
  rcases hc with ⟨hv, _⟩ | ⟨g', cap', cur, hv, h1, h2, h3, h4, hat⟩
  · cases hv
  · simp at hv
    obtain ⟨rfl, rfl⟩ := hv
    have hle : n * size ≤ cap * size := Nat.mul_le_mul_right _ h1
    refine ⟨cur, At.blk (o := .cells cur e) hat, by omega, by rw [hl]; exact h4, fun ys hy w' hw => ?_⟩
    subst hw
    refine (hat.setRow ys.toArray).mkrow h1 h2 (by simp; omega) ?_
    rw [hl]
theorem At.row_set (h : At w0 (row e size (.slice (some ⟨g, 0, none⟩) n cap) n xs * R) w) (j : Nat) (u : Value) : At w0 (row e size (.slice (some ⟨g, 0, none⟩) n cap) n (xs.set j u) * R) (w.setCell ⟨g, j, none⟩ u) := by
  obtain ⟨hl, hc⟩ := h.row_cases
  rcases hc with ⟨hv, _⟩ | ⟨g', cap', cur, hv, h1, h2, h3, h4, hat⟩
  · cases hv
  · simp at hv
    obtain ⟨rfl, rfl⟩ := hv
    refine (hat.set j u).mkrow h1 h2 (by simpa using h3) ?_
    rw [Array.toList_setIfInBounds, List.take_set, h4]
theorem At.row_set' {ys : List Value} (h : At w0 (row e size (.slice (some ⟨g, 0, none⟩) n cap) n xs * R) w) (j : Nat) (u : Value) (hy : xs.set j u = ys) : At w0 (row e size (.slice (some ⟨g, 0, none⟩) n cap) n ys * R) (w.setCell ⟨g, j, none⟩ u) := hy ▸ h.row_set j u
theorem At.row_some {v : Value} (h : At w0 (row e size v n xs * R) w) (hn : 0 < n) : ∃ g cap, v = .slice (some ⟨g, 0, none⟩) n cap ∧ n ≤ cap := by
  rcases h.row_cases.2 with ⟨_, h0, _⟩ | ⟨g, cap, cur, hv, h1, _⟩
  · omega
  · exact ⟨g, cap, hv, h1⟩

variable {P : Program} {ops : Array Oper} {o : Oper} {a : Act} {K : Act → World → Prop} {Q : Exit → Act → World → Prop}

/-- A whole struct or array out of memory. -/
theorem run_load_agg (ty : TypeId) (d : TypeDesc) (hu : P.underlying ty = some d) (hd : (match d with | .struct _ | .array _ _ => true | _ => false) = true) {ys : List Value} (hi : (P.info? ty).map (·.size) = some ys.length)
    {g o : Nat} (hc : ∀ j u, ys[j]? = some u → w.cell? ⟨g, o + j, none⟩ = some u) : (loadVar ty ⟨g, o, none⟩).run P w = .ok (.agg ys.toArray) w := by
  have hl : (loadCells ⟨g, o, none⟩ ys.length).run P w = .ok ys.toArray w :=
    run_loadCells_list (P := P) w ⟨g, o, none⟩ ys (fun j v hv => by rw [Addr.add_lit]; exact hc j v hv)
  cases hq : P.info? ty with
  | none => simp [hq] at hi
  | some i =>
    have hs : i.size = ys.length := by simpa [hq] using hi
    have ha : (isAgg ty).run P w = .ok true w := by
      unfold isAgg
      cases d <;> simp_all [run_underlying hu]
    simp [loadVar, Sem.run_bind, ha, sizeOf, typeInfo, hq, hs, hl]
theorem wpList_load_agg {rest : List Oper} (hgd : o.guard = none) (p : Operand) (ty : TypeId) (ho : o.op = .load ty p) (d : TypeDesc) (hu : P.underlying ty = some d) (hd : (match d with | .struct _ | .array _ _ => true | _ => false) = true)
    {ys : List Value} (hi : (P.info? ty).map (·.size) = some ys.length) {g off : Nat} (hp : a.eval p = .pointer (some ⟨g, off, none⟩)) (hc : ∀ j u, ys[j]? = some u → w.cell? ⟨g, off + j, none⟩ = some u)
    (hK : wpList P ops Q rest (a.put o.dst (.agg ys.toArray)) w) : wpList P ops Q (o :: rest) a w := by
  refine wpList_plain hgd fun K hK' => ?_
  have hr := run_load_agg (P := P) (w := w) ty d hu hd hi hc
  unfold Oper.wp execOp
  simp only [ho, Instr.loadAt, Instr.sureAddr, Sem.run_bind, Sem.run_pure, Result.andThen_ok, hp, hr]
  exact hK' _ _ hK

/-- A whole struct or array into a row. -/
theorem run_store_agg (ty : TypeId) {ys zs : List Value} (hi : (P.info? ty).map (·.size) = some ys.length) (h : At w0 (row e size (.slice (some ⟨g, 0, none⟩) n cap) n xs * R) w) (off : Nat) (hfit : off + ys.length ≤ xs.length)
    (h1 : ∀ u ∈ ys, u.oneCell' = true) (hz : zs = xs.take off ++ ys ++ xs.drop (off + ys.length)) :
    ∃ w', (storeVar ty ⟨g, off, none⟩ (.agg ys.toArray)).run P w = .ok () w' ∧ At w0 (row e size (.slice (some ⟨g, 0, none⟩) n cap) n zs * R) w' := by
  subst hz
  obtain ⟨cur, hg, hcl, htk, hset⟩ := h.row_blk
  have hst := run_storeCells_at P g off e ys 0 cur w hg (by simp; omega) h1
  simp only [Nat.add_zero] at hst
  refine ⟨w.setRow g (cur.toList.take off ++ ys ++ cur.toList.drop (off + ys.length)).toArray, ?_, ?_⟩
  · cases hq : P.info? ty with
    | none => simp [hq] at hi
    | some i =>
      have hs : i.size = ys.length := by simpa [hq] using hi
      simp [storeVar, Sem.run_bind, sizeOf, typeInfo, hq, hs, Value.cells, hst]
  · have h2 := hset (cur.toList.take off ++ ys ++ cur.toList.drop (off + ys.length)) (by simp; omega) _ rfl
    have e : (cur.toList.take off ++ ys ++ cur.toList.drop (off + ys.length)).take xs.length = xs.take off ++ ys ++ xs.drop (off + ys.length) := by
      obtain ⟨D, hD⟩ : ∃ D, cur.toList = xs ++ D := ⟨cur.toList.drop xs.length, by conv => lhs; rw [← List.take_append_drop xs.length cur.toList, htk]⟩
      have a1 : (xs ++ D).take off = xs.take off := List.take_append_of_le_length (by omega)
      have a2 : (xs ++ D).drop (off + ys.length) = xs.drop (off + ys.length) ++ D := List.drop_append_of_le_length (by omega)
      rw [hD, a1, a2, ← List.append_assoc]
      have hl : (xs.take off ++ ys ++ xs.drop (off + ys.length)).length = xs.length := by simp; omega
      rw [← hl]
      exact List.take_left
    rw [e] at h2
    exact h2
theorem wpList_store_agg {rest : List Oper} (hgd : o.guard = none) (p x : Operand) (ty : TypeId) (ho : o.op = .store ty p x) {ys zs : List Value} (hi : (P.info? ty).map (·.size) = some ys.length)
    (h : At w0 (row e size (.slice (some ⟨g, 0, none⟩) n cap) n xs * R) w) (off : Nat) (hfit : off + ys.length ≤ xs.length) (h1 : ∀ u ∈ ys, u.oneCell' = true) (hz : zs = xs.take off ++ ys ++ xs.drop (off + ys.length))
    (hp : a.eval p = .pointer (some ⟨g, off, none⟩)) (hx : a.eval x = .agg ys.toArray)
    (hK : ∀ w', At w0 (row e size (.slice (some ⟨g, 0, none⟩) n cap) n zs * R) w' → wpList P ops Q rest (a.put o.dst undef) w') : wpList P ops Q (o :: rest) a w := by
  refine wpList_plain hgd fun K hK' => ?_
  obtain ⟨w', hr, h2⟩ := run_store_agg (P := P) ty hi h off hfit h1 hz
  unfold Oper.wp execOp
  simp only [ho, Instr.storeAt, Instr.sureAddr, Sem.run_bind, Sem.run_pure, Result.andThen_ok, hp, hx, hr]
  exact hK' _ _ (hK w' h2)
end
end Go.Proofs.Ytmlifjfgelfbbaa

/-! ## Dm -/
namespace Go.Proofs.Ytmlifjfgelfbbaa
open Go Go.RowKit

/-- A region: its writes that are not sure, whether it is armed, how many more writes there may be. -/
structure Reg where
  waits : List (Nat × List UInt8)
  armed : Bool
  left : Nat
structure Dk where
  size : Nat
  data : List (List UInt8)
  regs : List Reg
  writes : Nat
structure Dk.Wf (m : Dk) : Prop where
  data : m.data.length = m.regs.length * m.size
  regs : m.regs.length ≤ 64
  size0 : 0 < m.size
  size : m.size ≤ 65536
  secs : ∀ s ∈ m.data, s.length = 64
  waits : ∀ r ∈ m.regs, r.waits.length ≤ m.writes ∧ ∀ p ∈ r.waits, p.2.length = 64 ∧ p.1 < m.size
  lefts : ∀ r ∈ m.regs, r.left ≤ 9223372036854775807

def wcs (p : Nat × List UInt8) : List Value := .int .i64 p.1 :: bys p.2
def wcss (l : List (Nat × List UInt8)) : List Value := l.flatMap wcs
def secs (l : List (List UInt8)) : List Value := l.flatMap bys
theorem flat_sized {α : Type} {f : α → List Value} {k : Nat} : ∀ {l : List α}, (∀ x ∈ l, (f x).length = k) → (l.flatMap f).length = l.length * k
  | [], _ => by simp
  | x :: l, h => by
    rw [List.flatMap_cons, List.length_append, h x List.mem_cons_self, flat_sized fun y hy => h y (List.mem_cons_of_mem _ hy), List.length_cons, Nat.add_mul]
    omega
/-- Element i of a row of elements of one size. -/
theorem flat_at {α : Type} {f : α → List Value} {k : Nat} : ∀ {l : List α}, (∀ x ∈ l, (f x).length = k) → ∀ (i j : Nat) (hi : i < l.length), j < k → (l.flatMap f)[i * k + j]? = (f l[i])[j]?
  | [], _, i, j, hi, _ => by simp at hi
  | x :: l, h, 0, j, _, hj => by
    have hx := h x List.mem_cons_self
    rw [List.flatMap_cons, Nat.zero_mul, Nat.zero_add, List.getElem?_append_left (by omega)]
    rfl
  | x :: l, h, i + 1, j, hi, hj => by
    have hx := h x List.mem_cons_self
    rw [List.flatMap_cons, List.getElem?_append_right (by rw [hx, Nat.add_mul]; omega), hx, show (i + 1) * k + j - k = i * k + j by rw [Nat.add_mul]; omega]
    rw [flat_at (fun y hy => h y (List.mem_cons_of_mem _ hy)) i j (by simpa using hi) hj]
    rfl
theorem flat_set {α : Type} {f : α → List Value} {k : Nat} : ∀ {l : List α}, (∀ x ∈ l, (f x).length = k) → ∀ (i : Nat) (y : α), (f y).length = k → i < l.length →
    (l.set i y).flatMap f = (l.flatMap f).take (i * k) ++ f y ++ (l.flatMap f).drop (i * k + (f y).length)
  | [], _, i, y, _, hi => by simp at hi
  | x :: l, h, 0, y, hy, _ => by
    have hx := h x List.mem_cons_self
    rw [List.set_cons_zero, List.flatMap_cons, List.flatMap_cons, Nat.zero_mul, List.take_zero, List.nil_append, Nat.zero_add, hy, ← hx, List.drop_left]
  | x :: l, h, i + 1, y, hy, hi => by
    have hx := h x List.mem_cons_self
    rw [List.set_cons_succ, List.flatMap_cons, List.flatMap_cons, flat_set (fun z hz => h z (List.mem_cons_of_mem _ hz)) i y hy (by simpa using hi), Nat.add_mul, Nat.one_mul]
    have e1 : ∀ n, (f x ++ l.flatMap f).take (n + k) = f x ++ (l.flatMap f).take n := fun n => by
      rw [show n + k = (f x).length + n by omega]
      simp [List.take_append]
      exact List.take_of_length_le (by omega)
    have e2 : ∀ n, (f x ++ l.flatMap f).drop (n + k) = (l.flatMap f).drop n := fun n => by
      rw [show n + k = (f x).length + n by omega, ← List.drop_drop, List.drop_left]
    rw [e1, show i * k + k + (f y).length = (i * k + (f y).length) + k by omega, e2]
    simp only [List.append_assoc]

theorem wcs_len {p : Nat × List UInt8} (h : p.2.length = 64) : (wcs p).length = 65 := by simp [wcs, bys_len, h]
theorem bys64 {s : List UInt8} (h : s.length = 64) : (bys s).length = 64 := by rw [bys_len, h]

/-- The regions' cells, and the rows of their writes. -/
def rgcs : List Reg → List Value → List Value
  | r :: rs, v :: vs => v :: .bool r.armed :: .int .i64 r.left :: rgcs rs vs
  | _, _ => []
def rgsP : List Reg → List Value → HP
  | r :: rs, v :: vs => row 98 65 v r.waits.length (wcss r.waits) * rgsP rs vs
  | _, _ => 1
/-- The rows of all regions but one. -/
def rgsX : Nat → List Reg → List Value → HP
  | 0, _ :: rs, _ :: vs => rgsP rs vs
  | i + 1, r :: rs, v :: vs => row 98 65 v r.waits.length (wcss r.waits) * rgsX i rs vs
  | _, _, _ => 1
theorem rgsP_get : ∀ {rs : List Reg} {vs : List Value} {i : Nat} (hi : i < rs.length) (hv : vs.length = rs.length), rgsP rs vs = row 98 65 (vs[i]'(by omega)) rs[i].waits.length (wcss rs[i].waits) * rgsX i rs vs
  | [], _, _, hi, _ => by simp at hi
  | r :: rs, [], _, _, hv => by simp at hv
  | r :: rs, v :: vs, 0, _, _ => rfl
  | r :: rs, v :: vs, i + 1, hi, hv => by
    have hvi : i < vs.length := by simp at hi hv; omega
    show row _ _ _ _ _ * rgsP rs vs = row _ _ vs[i] _ _ * (row _ _ _ _ _ * rgsX i rs vs)
    rw [rgsP_get (i := i) (by simpa using hi) (by simpa using hv), HP.mul_left_comm]
    rfl
theorem rgsP_set : ∀ {rs : List Reg} {vs : List Value} {i : Nat} (_hi : i < rs.length) (_hv : vs.length = rs.length) (r : Reg) (v : Value), rgsP (rs.set i r) (vs.set i v) = row 98 65 v r.waits.length (wcss r.waits) * rgsX i rs vs
  | [], _, _, hi, _, _, _ => by simp at hi
  | _ :: rs, [], _, _, hv, _, _ => by simp at hv
  | _ :: rs, _ :: vs, 0, _, _, _, _ => rfl
  | r0 :: rs, v0 :: vs, i + 1, hi, hv, r, v => by
    show row _ _ _ _ _ * rgsP (rs.set i r) (vs.set i v) = _ * (row _ _ _ _ _ * rgsX i rs vs)
    rw [rgsP_set (by simpa using hi) (by simpa using hv), HP.mul_left_comm]
theorem rgcs_len : ∀ {rs : List Reg} {vs : List Value} (_hv : vs.length = rs.length), (rgcs rs vs).length = rs.length * 3
  | [], [], _ => rfl
  | [], _ :: _, hv => by simp at hv
  | _ :: _, [], hv => by simp at hv
  | r :: rs, v :: vs, hv => by
    have := rgcs_len (rs := rs) (vs := vs) (by simpa using hv)
    simp only [rgcs, List.length_cons, this]
    omega
theorem rgcs_at : ∀ {rs : List Reg} {vs : List Value} {i : Nat} (hi : i < rs.length) (hv : vs.length = rs.length),
    (rgcs rs vs)[i * 3]? = some (vs[i]'(by omega)) ∧ (rgcs rs vs)[i * 3 + 1]? = some (.bool rs[i].armed) ∧ (rgcs rs vs)[i * 3 + 2]? = some (.int .i64 rs[i].left)
  | [], _, _, hi, _ => by simp at hi
  | r :: rs, [], _, _, hv => by simp at hv
  | r :: rs, v :: vs, 0, _, _ => ⟨rfl, rfl, rfl⟩
  | r :: rs, v :: vs, i + 1, hi, hv => by
    have := rgcs_at (rs := rs) (vs := vs) (i := i) (by simpa using hi) (by simpa using hv)
    have e : (i + 1) * 3 = i * 3 + 3 := by omega
    rw [e]
    exact this
theorem rgcs_set0 : ∀ {rs : List Reg} {vs : List Value} {i : Nat} (_hi : i < rs.length) (_hv : vs.length = rs.length) (r : Reg) (v : Value), (((rgcs rs vs).set (i * 3) v).set (i * 3 + 1) (.bool r.armed)).set (i * 3 + 2) (.int .i64 r.left) = rgcs (rs.set i r) (vs.set i v)
  | [], _, _, hi, _, _, _ => by simp at hi
  | _ :: rs, [], _, _, hv, _, _ => by simp at hv
  | _ :: rs, _ :: vs, 0, _, _, _, _ => rfl
  | r0 :: rs, v0 :: vs, i + 1, hi, hv, r, v => by
    have := rgcs_set0 (rs := rs) (vs := vs) (i := i) (by simpa using hi) (by simpa using hv) r v
    have e : (i + 1) * 3 = i * 3 + 3 := by omega
    rw [e]
    show v0 :: .bool r0.armed :: .int .i64 r0.left :: (((rgcs rs vs).set (i * 3) v).set (i * 3 + 1) (.bool r.armed)).set (i * 3 + 2) (.int .i64 r.left) = _
    rw [this]
    rfl

/-- A disk in memory. -/
def dskO (b : Nat) (m : Dk) (dv rv : Value) (vs : List Value) : HP :=
  cel b #[.int .i64 m.size, dv, rv, .int .i64 m.writes] 82 * (row 96 64 dv m.data.length (secs m.data) * (row 95 3 rv m.regs.length (rgcs m.regs vs) * rgsP m.regs vs))
def dsk (b : Nat) (m : Dk) : HP := hex fun p : Value × Value × List Value => fact (m.Wf ∧ p.2.2.length = m.regs.length) * dskO b m p.1 p.2.1 p.2.2
section
variable {w0 w : World} {R : HP} {b : Nat} {m : Dk}
theorem At.dsk_open (h : At w0 (dsk b m * R) w) : m.Wf ∧ ∃ dv rv vs, vs.length = m.regs.length ∧ At w0 (cel b #[.int .i64 m.size, dv, rv, .int .i64 m.writes] 82 * (row 96 64 dv m.data.length (secs m.data) * (row 95 3 rv m.regs.length (rgcs m.regs vs) * (rgsP m.regs vs * R)))) w := by
  obtain ⟨⟨dv, rv, vs⟩, h⟩ := h.exl
  obtain ⟨⟨h1, h2⟩, h3⟩ := h.assoc.factl
  refine ⟨h1, dv, rv, vs, h2, h3.cast ?_⟩
  unfold dskO
  ac_rfl
theorem At.dsk_shut {dv rv : Value} {vs : List Value} (hm : m.Wf) (hv : vs.length = m.regs.length) (h : At w0 (cel b #[.int .i64 m.size, dv, rv, .int .i64 m.writes] 82 * (row 96 64 dv m.data.length (secs m.data) * (row 95 3 rv m.regs.length (rgcs m.regs vs) * (rgsP m.regs vs * R)))) w) : At w0 (dsk b m * R) w := by
  refine At.mkex (F := fun p : Value × Value × List Value => fact (m.Wf ∧ p.2.2.length = m.regs.length) * dskO b m p.1 p.2.1 p.2.2) (dv, rv, vs) (At.cast (At.mkfact (show m.Wf ∧ vs.length = m.regs.length from ⟨hm, hv⟩) h) ?_)
  unfold dskO
  ac_rfl
end
end Go.Proofs.Ytmlifjfgelfbbaa

/-! ## Bs -/
namespace Go.Proofs.Ytmlifjfgelfbbaa
open Go Go.RowKit

theorem fold_set (ys : List Value) : ∀ (k : Nat) (base : Array Value) (i : Nat), k + ys.length ≤ base.size →
    ((ys.zipIdx k).foldl (fun (cs : Array Value) (p : Value × Nat) => cs.setIfInBounds (0 + p.2) p.1) base)[i]? = if k ≤ i ∧ i < k + ys.length then ys[i - k]? else base[i]? := by
  induction ys with
  | nil => intro k base i _; simp; omega
  | cons y ys ih =>
    intro k base i h
    simp only [List.length_cons] at h
    rw [List.zipIdx_cons, List.foldl_cons, ih (k + 1) _ i (by simp; omega)]
    simp only [Nat.zero_add, List.length_cons]
    by_cases h1 : i = k
    · subst h1
      have hib : i < base.size := by omega
      rw [if_neg (by omega), if_pos (by omega), Nat.sub_self]
      simp [hib]
    · by_cases h2 : k + 1 ≤ i ∧ i < k + 1 + ys.length
      · rw [if_pos h2, if_pos (by omega), show i - k = (i - (k + 1)) + 1 by omega]
        rfl
      · rw [if_neg h2, if_neg (by omega), Array.getElem?_setIfInBounds_ne (fun e => h1 e.symm)]
theorem fill_one (size : Nat) (base : Array Value) (ys : List Value) (hb : base.size = size) (hy : ys.length = size) : Instr.fill (fun i => some (i * size, size)) base [(0, .agg ys.toArray)] = some ys.toArray := by
  have e : (ys.toArray.zipIdx.foldl (fun (cs : Array Value) (p : Value × Nat) => cs.setIfInBounds (0 + p.2) p.1) base) = ys.toArray := by
    apply Array.ext_getElem?
    intro i
    have h1 : ys.toArray.zipIdx = (ys.zipIdx 0).toArray := by simp
    rw [h1, List.foldl_toArray, fold_set ys 0 base i (by omega)]
    by_cases h : i < ys.length
    · simp [h]
    · rw [if_neg (by omega)]
      simp only [List.getElem?_toArray]
      rw [List.getElem?_eq_none (by omega), Array.getElem?_eq_none (by omega)]
  simp only [Instr.fill, Value.cells, Nat.zero_mul, List.size_toArray, hy, hb, ne_eq, not_true_eq_false, Nat.zero_add, Nat.lt_irrefl, decide_false, gt_iff_lt, Bool.or_self, Bool.false_eq_true, if_false]
  simpa using e

section
variable {P : Program} {ops : Array Oper} {rest : List Oper} {o : Oper} {a : Act} {Q : Exit → Act → World → Prop} {w0 w : World} {R : HP}
theorem wpList_buildSlice1 (hg : o.guard = none) (t e : TypeId) (x : Operand) (ho : o.op = .buildSlice t 1 #[(0, x)]) (ie : TypeInfo) (z : Value) {ys : List Value}
    (hu : P.underlying t = some (.slice e)) (hie : P.info? e = some ie) (hz : ie.zero = some z) (hy : ys.length = ie.size) (hs : 0 < ie.size) (hs2 : ie.size ≤ 1000) (hx : a.eval x = .agg ys.toArray)
    (h : wpList P ops Q rest (a.put o.dst (.slice (some ⟨w.heap.size, 0, none⟩) 1 1)) (w.alloc (.cells ys.toArray e))) : wpList P ops Q (o :: rest) a w := by
  refine wpList_buildSlice hg t e 1 _ ho ys.toArray ie z hu hie hz (by omega) (by omega) ?_ h
  simp only [List.map_toArray, List.map_cons, List.map_nil, hx]
  exact fill_one ie.size _ ys (by simp) hy

theorem run_loadFrom {ys : List Value} {g off k : Nat} (hk : k = ys.length) (hc : ∀ j u, ys[j]? = some u → w.cell? ⟨g, off + j, none⟩ = some u) : (loadCellsFrom ⟨g, off, none⟩ 0 k #[]).run P w = .ok ys.toArray w := by
  subst hk
  have := run_loadCells_list (P := P) w ⟨g, off, none⟩ ys (fun j v hv => by rw [Addr.add_lit]; exact hc j v hv)
  simpa [loadCells] using this
theorem run_build1 (t e : TypeId) (ie : TypeInfo) (z : Value) {ys : List Value} (hu : P.underlying t = some (.slice e)) (hie : P.info? e = some ie) (hz : ie.zero = some z) (hy : ys.length = ie.size) (hs : 0 < ie.size) (hs2 : ie.size ≤ 1000) :
    (Instr.buildSlice t 1 #[(0, .agg ys.toArray)]).run P w = .ok (.slice (some ⟨w.heap.size, 0, none⟩) 1 1) (w.alloc (.cells ys.toArray e)) :=
  run_buildSlice w t e 1 _ ys.toArray ie z hu hie hz (by omega) (by omega) (fill_one ie.size _ ys (by simp) hy)
theorem wpList_value (hg : o.guard = none) {v : Value} (hr : (execOp a.eval o).run P w = .ok (.value v) w) (h : wpList P ops Q rest (a.put o.dst v) w) : wpList P ops Q (o :: rest) a w := by
  refine wpList_plain hg fun K hK => ?_
  unfold Oper.wp
  rw [hr]
  exact hK _ _ h
theorem wpList_move_at (hg : o.guard = none) (x : Operand) (ho : o.op = .move x) {v : Value} (hx : a.eval x = v) (h : wpList P ops Q rest (a.put o.dst v) w) : wpList P ops Q (o :: rest) a w := by
  refine wpList_plain hg fun K hK => ?_
  unfold Oper.wp execOp
  simp only [ho, hx, Sem.run_pure]
  exact hK _ _ h
theorem wpList_build_at (hg : o.guard = none) (t : TypeId) (x : Operand) (ho : o.op = .build t #[(0, x)]) {v u : Value} (hx : a.eval x = v) (hr : (Instr.build t #[(0, v)]).run P w = .ok u w)
    (h : wpList P ops Q rest (a.put o.dst u) w) : wpList P ops Q (o :: rest) a w := by
  refine wpList_plain hg fun K hK => ?_
  unfold Oper.wp execOp
  simp only [ho, List.map_toArray, List.map_cons, List.map_nil, hx, Sem.run_bind, hr, Result.andThen_ok]
  exact hK _ _ h
theorem wpList_alloc_at (hg : o.guard = none) (t : TypeId) (ho : o.op = .alloc t) {c : Array Value} (hr : (zeroValue t).run P w = .ok (.agg c) w)
    (h : wpList P ops Q rest (a.put o.dst (.pointer (some ⟨w.heap.size, 0, none⟩))) (w.alloc (.cells c t))) : wpList P ops Q (o :: rest) a w := by
  refine wpList_plain hg fun K hK => ?_
  unfold Oper.wp execOp
  simp only [ho, Instr.alloc, newVar, newRow, Sem.run_bind, hr, Result.andThen_ok, Value.cells]
  exact hK _ _ h
theorem wpList_store_at (hg : o.guard = none) (p x : Operand) (t : TypeId) (ho : o.op = .store t p x) {g : Nat} {t2 : TypeId} {c : Array Value} {ys : List Value} (hp : a.eval p = .pointer (some ⟨g, 0, none⟩)) (hx : a.eval x = .agg ys.toArray)
    (hi : (P.info? t).map (·.size) = some ys.length) (hc : c.size = ys.length) (h1 : ys.toArray.all (·.oneCell') = true) (h : At w0 (cel g c t2 * R) w)
    (hK : ∀ w', At w0 (cel g ys.toArray t2 * R) w' → wpList P ops Q rest (a.put o.dst undef) w') : wpList P ops Q (o :: rest) a w := by
  refine wpList_plain hg fun K hK' => ?_
  have hr := run_storeVar_row (P := P) w g t2 t c ys.toArray (At.blk (o := .cells c t2) h) (by simpa using hi) (by simpa using hc) h1
  unfold Oper.wp execOp
  simp only [ho, Instr.storeAt, Instr.sureAddr, Sem.run_bind, Sem.run_pure, Result.andThen_ok, hp, hx, hr]
  exact hK' _ _ (hK _ (h.setRow _))

/-- 'copy' of a slice that is read into a block that is owned. -/
theorem wpList_copy_rd (hgd : o.guard = none) (d s : Operand) (dT sT : TypeId)
    (ho : o.op = .call { callee := .builtin .copy, args := #[d, s], argTypes := #[dT, sT] }) (elem : TypeId) (hu : P.underlying dT = some (.slice elem)) (hsz : (P.info? elem).map (·.size) = some 1)
    (g off dLen dCap : Nat) (hd : a.eval d = .slice (some ⟨g, off, none⟩) dLen dCap) {vx : Value} (hs : a.eval s = vx) {ys xs zs : List Value} {t : TypeId} (hx : Rd w vx ys) (hle : ys.length ≤ dLen)
    (h : At w0 (cel g xs.toArray t * R) w) (hfit : off + ys.length ≤ xs.length) (h1 : ∀ v ∈ ys, v.oneCell' = true) (hz : zs = xs.take off ++ (ys ++ xs.drop (off + ys.length)))
    (hK : ∀ w', At w0 (cel g zs.toArray t * R) w' → wpList P ops Q rest (a.put o.dst (goInt ys.length)) w') : wpList P ops Q (o :: rest) a w := by
  subst hz
  rcases hx with ⟨rfl, rfl⟩ | ⟨g2, o2, c2, rfl, hc, hr⟩
  · refine wpList_copy_nothing hgd d s dT sT ho elem hu hsz (some ⟨g, off, none⟩) none dLen dCap 0 0 hd hs (by simp) (hK w ?_)
    simpa using h
  · refine wpList_copy_own hgd d s dT sT ho elem hu hsz g off dLen dCap ⟨g2, o2, none⟩ ys.length c2 hd hs xs.toArray t (At.blk (o := .cells xs.toArray t) h) ys (by simp [Nat.min_eq_left hle])
      (fun j v hv => by rw [Addr.add_lit]; exact hr j v hv) (by simpa using hfit) h1 ?_
    exact hK _ (h.setRow _)
end
end Go.Proofs.Ytmlifjfgelfbbaa
