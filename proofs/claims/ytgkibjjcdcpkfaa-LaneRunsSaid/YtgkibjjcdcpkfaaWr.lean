/-
  Rows of structs and arrays: whole elements out of them and into them. Laws of the model's memory; no statement.
-/
import Derived.Test.YtgkibjjcdcpkfaaPn
import Derived.Laws.Rows
import Derived.Laws.Tables
namespace Go.Proofs.Ytgkibjjcdcpkfaa
open Go Go.RowKit

section
variable {w0 w : World} {R : HP} {e : TypeId} {size n cap g : Nat} {xs : List Value}

theorem At.row_fz (h : At w0 (row e size (.slice (some ⟨g, 0, none⟩) n cap) n xs * R) w) (j : Nat) : w.frozen? ⟨g, j, none⟩ = false := by
  rcases h.row_cases.2 with ⟨hv, _⟩ | ⟨g', cap', cur, hv, _, _, _, _, hat⟩
  · cases hv
  · simp at hv
    obtain ⟨rfl, _⟩ := hv
    exact At.frz hat j
theorem At.row_lt (h : At w0 (row e size (.slice (some ⟨g, 0, none⟩) n cap) n xs * R) w) : g < w.heap.size := by
  rcases h.row_cases.2 with ⟨hv, _⟩ | ⟨g', cap', cur, hv, _, _, _, _, hat⟩
  · cases hv
  · simp at hv
    obtain ⟨rfl, _⟩ := hv
    exact At.lt (o := .cells cur e) hat
theorem At.row_blk (h : At w0 (row e size (.slice (some ⟨g, 0, none⟩) n cap) n xs * R) w) : ∃ cur : Array Value, w.heap[g]? = some (.cells cur e (0, 0)) ∧ xs.length ≤ cur.size ∧ cur.toList.take xs.length = xs ∧
    ∀ ys : List Value, ys.length = cur.size → ∀ w', w' = w.setRow g ys.toArray → At w0 (row e size (.slice (some ⟨g, 0, none⟩) n cap) n (ys.take xs.length) * R) w' := by
  obtain ⟨hl, hc⟩ := h.row_cases
  rcases hc with ⟨hv, _⟩ | ⟨g', cap', cur, hv, h1, h2, h3, h4, hat⟩
  · cases hv
  · simp at hv
    obtain ⟨rfl, rfl⟩ := hv
    have hle : n * size ≤ cap * size := Nat.mul_le_mul_right _ h1
    refine ⟨cur, At.blk (o := .cells cur e) hat, by omega, by rw [hl]; exact h4, fun ys hy w' hw => ?_⟩
    subst hw
    refine (hat.setRow ys.toArray).mkrow h1 h2 (by simp; omega) ?_
    rw [hl]
theorem At.row_set (h : At w0 (row e size (.slice (some ⟨g, 0, none⟩) n cap) n xs * R) w) (j : Nat) (u : Value) : At w0 (row e size (.slice (some ⟨g, 0, none⟩) n cap) n (xs.set j u) * R) (w.setCell ⟨g, j, none⟩ u) := by
  obtain ⟨hl, hc⟩ := h.row_cases
  rcases hc with ⟨hv, _⟩ | ⟨g', cap', cur, hv, h1, h2, h3, h4, hat⟩
  · cases hv
  · simp at hv
    obtain ⟨rfl, rfl⟩ := hv
    refine (hat.set j u).mkrow h1 h2 (by simpa using h3) ?_
    rw [Array.toList_setIfInBounds, List.take_set, h4]
theorem At.row_set' {ys : List Value} (h : At w0 (row e size (.slice (some ⟨g, 0, none⟩) n cap) n xs * R) w) (j : Nat) (u : Value) (hy : xs.set j u = ys) : At w0 (row e size (.slice (some ⟨g, 0, none⟩) n cap) n ys * R) (w.setCell ⟨g, j, none⟩ u) := hy ▸ h.row_set j u
theorem At.row_some {v : Value} (h : At w0 (row e size v n xs * R) w) (hn : 0 < n) : ∃ g cap, v = .slice (some ⟨g, 0, none⟩) n cap ∧ n ≤ cap := by
  rcases h.row_cases.2 with ⟨_, h0, _⟩ | ⟨g, cap, cur, hv, h1, _⟩
  · omega
  · exact ⟨g, cap, hv, h1⟩

variable {P : Program} {ops : Array Oper} {o : Oper} {a : Act} {K : Act → World → Prop} {Q : Exit → Act → World → Prop}

/-- A whole struct or array out of memory. -/
theorem run_load_agg (ty : TypeId) (d : TypeDesc) (hu : P.underlying ty = some d) (hd : (match d with | .struct _ | .array _ _ => true | _ => false) = true) {ys : List Value} (hi : (P.info? ty).map (·.size) = some ys.length)
    {g o : Nat} (hc : ∀ j u, ys[j]? = some u → w.cell? ⟨g, o + j, none⟩ = some u) : (loadVar ty ⟨g, o, none⟩).run P w = .ok (.agg ys.toArray) w := by
  have hl : (loadCells ⟨g, o, none⟩ ys.length).run P w = .ok ys.toArray w :=
    run_loadCells_list (P := P) w ⟨g, o, none⟩ ys (fun j v hv => by rw [Addr.add_lit]; exact hc j v hv)
  cases hq : P.info? ty with
  | none => simp [hq] at hi
  | some i =>
    have hs : i.size = ys.length := by simpa [hq] using hi
    have ha : (isAgg ty).run P w = .ok true w := by
      unfold isAgg
      cases d <;> simp_all [run_underlying hu]
    simp [loadVar, Sem.run_bind, ha, sizeOf, typeInfo, hq, hs, hl]
theorem wpList_load_agg {rest : List Oper} (hgd : o.guard = none) (p : Operand) (ty : TypeId) (ho : o.op = .load ty p) (d : TypeDesc) (hu : P.underlying ty = some d) (hd : (match d with | .struct _ | .array _ _ => true | _ => false) = true)
    {ys : List Value} (hi : (P.info? ty).map (·.size) = some ys.length) {g off : Nat} (hp : a.eval p = .pointer (some ⟨g, off, none⟩)) (hc : ∀ j u, ys[j]? = some u → w.cell? ⟨g, off + j, none⟩ = some u)
    (hK : wpList P ops Q rest (a.put o.dst (.agg ys.toArray)) w) : wpList P ops Q (o :: rest) a w := by
  refine wpList_plain hgd fun K hK' => ?_
  have hr := run_load_agg (P := P) (w := w) ty d hu hd hi hc
  unfold Oper.wp execOp
  simp only [ho, Instr.loadAt, Instr.sureAddr, Sem.run_bind, Sem.run_pure, Result.andThen_ok, hp, hr]
  exact hK' _ _ hK

/-- A whole struct or array into a row. -/
theorem run_store_agg (ty : TypeId) {ys zs : List Value} (hi : (P.info? ty).map (·.size) = some ys.length) (h : At w0 (row e size (.slice (some ⟨g, 0, none⟩) n cap) n xs * R) w) (off : Nat) (hfit : off + ys.length ≤ xs.length)
    (h1 : ∀ u ∈ ys, u.oneCell' = true) (hz : zs = xs.take off ++ ys ++ xs.drop (off + ys.length)) :
    ∃ w', (storeVar ty ⟨g, off, none⟩ (.agg ys.toArray)).run P w = .ok () w' ∧ At w0 (row e size (.slice (some ⟨g, 0, none⟩) n cap) n zs * R) w' := by
  subst hz
  obtain ⟨cur, hg, hcl, htk, hset⟩ := h.row_blk
  have hst := run_storeCells_at P g off e ys 0 cur w hg (by simp; omega) h1
  simp only [Nat.add_zero] at hst
  refine ⟨w.setRow g (cur.toList.take off ++ ys ++ cur.toList.drop (off + ys.length)).toArray, ?_, ?_⟩
  · cases hq : P.info? ty with
    | none => simp [hq] at hi
    | some i =>
      have hs : i.size = ys.length := by simpa [hq] using hi
      simp [storeVar, Sem.run_bind, sizeOf, typeInfo, hq, hs, Value.cells, hst]
  · have h2 := hset (cur.toList.take off ++ ys ++ cur.toList.drop (off + ys.length)) (by simp; omega) _ rfl
    have e : (cur.toList.take off ++ ys ++ cur.toList.drop (off + ys.length)).take xs.length = xs.take off ++ ys ++ xs.drop (off + ys.length) := by
      obtain ⟨D, hD⟩ : ∃ D, cur.toList = xs ++ D := ⟨cur.toList.drop xs.length, by conv => lhs; rw [← List.take_append_drop xs.length cur.toList, htk]⟩
      have a1 : (xs ++ D).take off = xs.take off := List.take_append_of_le_length (by omega)
      have a2 : (xs ++ D).drop (off + ys.length) = xs.drop (off + ys.length) ++ D := List.drop_append_of_le_length (by omega)
      rw [hD, a1, a2, ← List.append_assoc]
      have hl : (xs.take off ++ ys ++ xs.drop (off + ys.length)).length = xs.length := by simp; omega
      rw [← hl]
      exact List.take_left
    rw [e] at h2
    exact h2
theorem wpList_store_agg {rest : List Oper} (hgd : o.guard = none) (p x : Operand) (ty : TypeId) (ho : o.op = .store ty p x) {ys zs : List Value} (hi : (P.info? ty).map (·.size) = some ys.length)
    (h : At w0 (row e size (.slice (some ⟨g, 0, none⟩) n cap) n xs * R) w) (off : Nat) (hfit : off + ys.length ≤ xs.length) (h1 : ∀ u ∈ ys, u.oneCell' = true) (hz : zs = xs.take off ++ ys ++ xs.drop (off + ys.length))
    (hp : a.eval p = .pointer (some ⟨g, off, none⟩)) (hx : a.eval x = .agg ys.toArray)
    (hK : ∀ w', At w0 (row e size (.slice (some ⟨g, 0, none⟩) n cap) n zs * R) w' → wpList P ops Q rest (a.put o.dst undef) w') : wpList P ops Q (o :: rest) a w := by
  refine wpList_plain hgd fun K hK' => ?_
  obtain ⟨w', hr, h2⟩ := run_store_agg (P := P) ty hi h off hfit h1 hz
  unfold Oper.wp execOp
  simp only [ho, Instr.storeAt, Instr.sureAddr, Sem.run_bind, Sem.run_pure, Result.andThen_ok, hp, hx, hr]
  exact hK' _ _ (hK w' h2)
end
end Go.Proofs.Ytgkibjjcdcpkfaa
