/-
  A slice of one element that is a whole struct; copies into a block that is owned. Laws of the model's memory; no statement.
-/
import Derived.Test.YtgkibjjcdcpkfaaWr
import Derived.Great.BuildSlice
import Derived.Laws.CopyOwn
namespace Go.Proofs.Ytgkibjjcdcpkfaa
open Go Go.RowKit

theorem fold_set (ys : List Value) : ∀ (k : Nat) (base : Array Value) (i : Nat), k + ys.length ≤ base.size →
    ((ys.zipIdx k).foldl (fun (cs : Array Value) (p : Value × Nat) => cs.setIfInBounds (0 + p.2) p.1) base)[i]? = if k ≤ i ∧ i < k + ys.length then ys[i - k]? else base[i]? := by
  induction ys with
  | nil => intro k base i _; simp; omega
  | cons y ys ih =>
    intro k base i h
    simp only [List.length_cons] at h
    rw [List.zipIdx_cons, List.foldl_cons, ih (k + 1) _ i (by simp; omega)]
    simp only [Nat.zero_add, List.length_cons]
    by_cases h1 : i = k
    · subst h1
      have hib : i < base.size := by omega
      rw [if_neg (by omega), if_pos (by omega), Nat.sub_self]
      simp [hib]
    · by_cases h2 : k + 1 ≤ i ∧ i < k + 1 + ys.length
      · rw [if_pos h2, if_pos (by omega), show i - k = (i - (k + 1)) + 1 by omega]
        rfl
      · rw [if_neg h2, if_neg (by omega), Array.getElem?_setIfInBounds_ne (fun e => h1 e.symm)]
theorem fill_one (size : Nat) (base : Array Value) (ys : List Value) (hb : base.size = size) (hy : ys.length = size) : Instr.fill (fun i => some (i * size, size)) base [(0, .agg ys.toArray)] = some ys.toArray := by
  have e : (ys.toArray.zipIdx.foldl (fun (cs : Array Value) (p : Value × Nat) => cs.setIfInBounds (0 + p.2) p.1) base) = ys.toArray := by
    apply Array.ext_getElem?
    intro i
    have h1 : ys.toArray.zipIdx = (ys.zipIdx 0).toArray := by simp
    rw [h1, List.foldl_toArray, fold_set ys 0 base i (by omega)]
    by_cases h : i < ys.length
    · simp [h]
    · rw [if_neg (by omega)]
      simp only [List.getElem?_toArray]
      rw [List.getElem?_eq_none (by omega), Array.getElem?_eq_none (by omega)]
  simp only [Instr.fill, Value.cells, Nat.zero_mul, List.size_toArray, hy, hb, ne_eq, not_true_eq_false, Nat.zero_add, Nat.lt_irrefl, decide_false, gt_iff_lt, Bool.or_self, Bool.false_eq_true, if_false]
  simpa using e

section
variable {P : Program} {ops : Array Oper} {rest : List Oper} {o : Oper} {a : Act} {Q : Exit → Act → World → Prop} {w0 w : World} {R : HP}
theorem wpList_buildSlice1 (hg : o.guard = none) (t e : TypeId) (x : Operand) (ho : o.op = .buildSlice t 1 #[(0, x)]) (ie : TypeInfo) (z : Value) {ys : List Value}
    (hu : P.underlying t = some (.slice e)) (hie : P.info? e = some ie) (hz : ie.zero = some z) (hy : ys.length = ie.size) (hs : 0 < ie.size) (hs2 : ie.size ≤ 1000) (hx : a.eval x = .agg ys.toArray)
    (h : wpList P ops Q rest (a.put o.dst (.slice (some ⟨w.heap.size, 0, none⟩) 1 1)) (w.alloc (.cells ys.toArray e))) : wpList P ops Q (o :: rest) a w := by
  refine wpList_buildSlice hg t e 1 _ ho ys.toArray ie z hu hie hz (by omega) (by omega) ?_ h
  simp only [List.map_toArray, List.map_cons, List.map_nil, hx]
  exact fill_one ie.size _ ys (by simp) hy

theorem run_loadFrom {ys : List Value} {g off k : Nat} (hk : k = ys.length) (hc : ∀ j u, ys[j]? = some u → w.cell? ⟨g, off + j, none⟩ = some u) : (loadCellsFrom ⟨g, off, none⟩ 0 k #[]).run P w = .ok ys.toArray w := by
  subst hk
  have := run_loadCells_list (P := P) w ⟨g, off, none⟩ ys (fun j v hv => by rw [Addr.add_lit]; exact hc j v hv)
  simpa [loadCells] using this
theorem run_build1 (t e : TypeId) (ie : TypeInfo) (z : Value) {ys : List Value} (hu : P.underlying t = some (.slice e)) (hie : P.info? e = some ie) (hz : ie.zero = some z) (hy : ys.length = ie.size) (hs : 0 < ie.size) (hs2 : ie.size ≤ 1000) :
    (Instr.buildSlice t 1 #[(0, .agg ys.toArray)]).run P w = .ok (.slice (some ⟨w.heap.size, 0, none⟩) 1 1) (w.alloc (.cells ys.toArray e)) :=
  run_buildSlice w t e 1 _ ys.toArray ie z hu hie hz (by omega) (by omega) (fill_one ie.size _ ys (by simp) hy)
theorem wpList_value (hg : o.guard = none) {v : Value} (hr : (execOp a.eval o).run P w = .ok (.value v) w) (h : wpList P ops Q rest (a.put o.dst v) w) : wpList P ops Q (o :: rest) a w := by
  refine wpList_plain hg fun K hK => ?_
  unfold Oper.wp
  rw [hr]
  exact hK _ _ h
theorem wpList_move_at (hg : o.guard = none) (x : Operand) (ho : o.op = .move x) {v : Value} (hx : a.eval x = v) (h : wpList P ops Q rest (a.put o.dst v) w) : wpList P ops Q (o :: rest) a w := by
  refine wpList_plain hg fun K hK => ?_
  unfold Oper.wp execOp
  simp only [ho, hx, Sem.run_pure]
  exact hK _ _ h
theorem wpList_build_at (hg : o.guard = none) (t : TypeId) (x : Operand) (ho : o.op = .build t #[(0, x)]) {v u : Value} (hx : a.eval x = v) (hr : (Instr.build t #[(0, v)]).run P w = .ok u w)
    (h : wpList P ops Q rest (a.put o.dst u) w) : wpList P ops Q (o :: rest) a w := by
  refine wpList_plain hg fun K hK => ?_
  unfold Oper.wp execOp
  simp only [ho, List.map_toArray, List.map_cons, List.map_nil, hx, Sem.run_bind, hr, Result.andThen_ok]
  exact hK _ _ h
theorem wpList_alloc_at (hg : o.guard = none) (t : TypeId) (ho : o.op = .alloc t) {c : Array Value} (hr : (zeroValue t).run P w = .ok (.agg c) w)
    (h : wpList P ops Q rest (a.put o.dst (.pointer (some ⟨w.heap.size, 0, none⟩))) (w.alloc (.cells c t))) : wpList P ops Q (o :: rest) a w := by
  refine wpList_plain hg fun K hK => ?_
  unfold Oper.wp execOp
  simp only [ho, Instr.alloc, newVar, newRow, Sem.run_bind, hr, Result.andThen_ok, Value.cells]
  exact hK _ _ h
theorem wpList_store_at (hg : o.guard = none) (p x : Operand) (t : TypeId) (ho : o.op = .store t p x) {g : Nat} {t2 : TypeId} {c : Array Value} {ys : List Value} (hp : a.eval p = .pointer (some ⟨g, 0, none⟩)) (hx : a.eval x = .agg ys.toArray)
    (hi : (P.info? t).map (·.size) = some ys.length) (hc : c.size = ys.length) (h1 : ys.toArray.all (·.oneCell') = true) (h : At w0 (cel g c t2 * R) w)
    (hK : ∀ w', At w0 (cel g ys.toArray t2 * R) w' → wpList P ops Q rest (a.put o.dst undef) w') : wpList P ops Q (o :: rest) a w := by
  refine wpList_plain hg fun K hK' => ?_
  have hr := run_storeVar_row (P := P) w g t2 t c ys.toArray (At.blk (o := .cells c t2) h) (by simpa using hi) (by simpa using hc) h1
  unfold Oper.wp execOp
  simp only [ho, Instr.storeAt, Instr.sureAddr, Sem.run_bind, Sem.run_pure, Result.andThen_ok, hp, hx, hr]
  exact hK' _ _ (hK _ (h.setRow _))

/-- 'copy' of a slice that is read into a block that is owned. -/
theorem wpList_copy_rd (hgd : o.guard = none) (d s : Operand) (dT sT : TypeId)
    (ho : o.op = .call { callee := .builtin .copy, args := #[d, s], argTypes := #[dT, sT] }) (elem : TypeId) (hu : P.underlying dT = some (.slice elem)) (hsz : (P.info? elem).map (·.size) = some 1)
    (g off dLen dCap : Nat) (hd : a.eval d = .slice (some ⟨g, off, none⟩) dLen dCap) {vx : Value} (hs : a.eval s = vx) {ys xs zs : List Value} {t : TypeId} (hx : Rd w vx ys) (hle : ys.length ≤ dLen)
    (h : At w0 (cel g xs.toArray t * R) w) (hfit : off + ys.length ≤ xs.length) (h1 : ∀ v ∈ ys, v.oneCell' = true) (hz : zs = xs.take off ++ (ys ++ xs.drop (off + ys.length)))
    (hK : ∀ w', At w0 (cel g zs.toArray t * R) w' → wpList P ops Q rest (a.put o.dst (goInt ys.length)) w') : wpList P ops Q (o :: rest) a w := by
  subst hz
  rcases hx with ⟨rfl, rfl⟩ | ⟨g2, o2, c2, rfl, hc, hr⟩
  · refine wpList_copy_nothing hgd d s dT sT ho elem hu hsz (some ⟨g, off, none⟩) none dLen dCap 0 0 hd hs (by simp) (hK w ?_)
    simpa using h
  · refine wpList_copy_own hgd d s dT sT ho elem hu hsz g off dLen dCap ⟨g2, o2, none⟩ ys.length c2 hd hs xs.toArray t (At.blk (o := .cells xs.toArray t) h) ys (by simp [Nat.min_eq_left hle])
      (fun j v hv => by rw [Addr.add_lit]; exact hr j v hv) (by simpa using hfit) h1 ?_
    exact hK _ (h.setRow _)
end
end Go.Proofs.Ytgkibjjcdcpkfaa
