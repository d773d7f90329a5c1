/-
  A map from names to rows, in terms of blocks: what it holds is a list of rows in order. No statement.
-/
import Derived.Maps.OwnSet
import Derived.Maps.OwnOps
import Derived.Maps.RangeWalk
import Derived.Test.YtghlbhnpgbhllaaNa
namespace Go.Proofs.Ytghlbhnpgbhllaa
open Go Go.RowKit Go.Maps

theorem At.grown {w0 w w' : World} {A : HP} (h : At w0 A w) (hg : w.grownBy w' none) : At w0 A w' := by
  obtain ⟨x, hx, hs⟩ := h.heap
  refine ⟨hg.os.trans h.os, hg.tape.trans h.tape, hg.output.trans h.output, x, hx, fun k o e => ?_⟩
  have hw := hs k o e
  exact (hg.block k (Array.getElem?_eq_some_iff.1 hw).1 (by simp)).trans hw

/-- How a row reads as an element of a map. -/
def itM (i : It) : DataW Unit := .agg [.lit (.int .i64 i.t), .lit (.string i.k.data.toList), .lit (.string i.v.data.toList), .lit (.int .i64 i.p), .lit (.int .i64 i.s)]
def itR : Value → Option (DataW Unit × List MemPlace)
  | .agg ⟨[.int .i64 t, .string k, .string v, .int .i64 p, .int .i64 s]⟩ => some (itM ⟨t, k, v, p, s⟩, [])
  | _ => none
theorem itR_mk (i : It) : itR i.agg = some (itM i, []) := rfl
theorem bytes_inj {a b : ByteArray} (h : a.data.toList = b.data.toList) : a = b := by
  cases a; cases b
  simp only [Array.toList_inj] at h
  rw [h]
theorem itM_inj {i j : It} (h : itM i = itM j) : i = j := by
  unfold itM at h
  simp only [DataW.agg.injEq, List.cons.injEq, DataW.lit.injEq, Lit.int.injEq, Lit.string.injEq, and_true, true_and] at h
  obtain ⟨h1, h2, h3, h4, h5⟩ := h
  cases i; cases j
  simp only at h1 h2 h3 h4 h5
  rw [h1, bytes_inj h2, bytes_inj h3, h4, h5]
theorem itR_inv {v : Value} {y : DataW Unit × List MemPlace} (h : itR v = some y) : ∃ i : It, v = i.agg ∧ y = (itM i, []) := by
  unfold itR at h
  split at h
  · rename_i t k v p s
    exact ⟨⟨t, k, v, p, s⟩, rfl, (Option.some.inj h).symm⟩
  · cases h

/-- A name as a key. -/
def kL (i : It) : Lit := .string (nmB i).data.toList
def InR (i : It) : Prop := 0 ≤ i.t ∧ i.t ≤ 3
theorem kL_eq {i j : It} (hi : InR i) (hj : InR j) : kL i = kL j ↔ eqB i.t i.k j.t j.k = true := by
  rw [← nmB_eq hi hj, beq_iff_eq, ByteArray.toList_eq, ByteArray.toList_eq]
  unfold kL
  simp
theorem kL_key (i : It) : WideAt.IsKeyLit (kL i) := trivial
theorem nmB_size (i : It) : (nmB i).size = i.k.size + 1 := by
  unfold nmB
  simp [Nat.add_comm]
  rfl

/-- D is the map of these rows, by their names. -/
structure Rep (D : DataW Unit) (L : List It) : Prop where
  map : Tidy D
  at_ : ∀ x ∈ L, ∀ zd, D.atKey (kL x) zd = itM x
  none_ : ∀ key zd, (∀ x ∈ L, key ≠ kL x) → D.atKey key zd = zd
  size : Maps.size D = L.length
theorem Rep.nil : Rep (.map []) [] := ⟨tidy_empty, fun x hx => (by cases hx), fun _ _ _ => rfl, rfl⟩
theorem Rep.has {D : DataW Unit} {L : List It} (h : Rep D L) {c : It} (hc : InR c) (hL : ∀ x ∈ L, InR x) : Maps.has D (kL c) = Go.Proofs.Ytghlbhnpgbhllaa.has L c.t c.k := by
  cases hh : Go.Proofs.Ytghlbhnpgbhllaa.has L c.t c.k with
  | true =>
    obtain ⟨x, hx, he⟩ := has_iff.1 hh
    rw [← (kL_eq (hL x hx) hc).2 he]
    exact has_true_of_atKey (h.at_ x hx)
  | false =>
    refine has_false_of_atKey fun z => h.none_ _ z fun x hx he => ?_
    have := has_iff.2 ⟨x, hx, (kL_eq (hL x hx) hc).1 he.symm⟩
    rw [hh] at this; cases this
theorem Rep.put {D : DataW Unit} {L : List It} (h : Rep D L) (hs : Sorted L) {c : It} (hc : InR c) (hL : ∀ x ∈ L, InR x) : Rep (D.put (kL c) (itM c)) (Go.Proofs.Ytghlbhnpgbhllaa.put L c) := by
  refine ⟨h.map.put (kL_key c) _, fun x hx zd => ?_, fun key zd hk => ?_, ?_⟩
  · rcases mem_put.1 hx with rfl | ⟨hx, hne⟩
    · exact atKey_put_same h.map.isMap (kL_key _) _ _
    · have : kL x ≠ kL c := fun e => by
        have := (kL_eq (hL x hx) hc).1 e
        rw [hne] at this; cases this
      rw [atKey_put_other this]
      exact h.at_ x hx zd
  · have h1 : key ≠ kL c := hk c (mem_put.2 (.inl rfl))
    rw [atKey_put_other h1]
    refine h.none_ key zd fun x hx => ?_
    cases he : eqB x.t x.k c.t c.k with
    | true => rw [(kL_eq (hL x hx) hc).2 he]; exact h1
    | false => exact hk x (mem_put.2 (.inr ⟨hx, he⟩))
  · rw [size_put h.map, h.has hc hL, len_put hs, h.size]
    split <;> simp_all
theorem len_del {l : List It} (h : Sorted l) (t : Int) (k : ByteArray) : (del l t k).length + (if has l t k then 1 else 0) = l.length := by
  cases hh : has l t k with
  | true =>
    obtain ⟨h1, h2⟩ := del_has h hh
    rw [← h1]
    simp
    omega
  | false => rw [del_none hh]; simp
theorem Rep.del {D : DataW Unit} {L : List It} (h : Rep D L) (hs : Sorted L) {c : It} (hc : InR c) (hL : ∀ x ∈ L, InR x) : Rep (D.del (kL c)) (Go.Proofs.Ytghlbhnpgbhllaa.del L c.t c.k) := by
  refine ⟨h.map.del _, fun x hx zd => ?_, fun key zd hk => ?_, ?_⟩
  · obtain ⟨hx, hne⟩ := mem_del.1 hx
    have : kL x ≠ kL c := fun e => by
      have := (kL_eq (hL x hx) hc).1 e
      rw [hne] at this; cases this
    rw [atKey_del_other this]
    exact h.at_ x hx zd
  · by_cases h1 : key = kL c
    · rw [h1, atKey_del_same]
    · rw [atKey_del_other h1]
      refine h.none_ key zd fun x hx => ?_
      cases he : eqB x.t x.k c.t c.k with
      | true => rw [(kL_eq (hL x hx) hc).2 he]; exact h1
      | false => exact hk x (mem_del.2 ⟨hx, he⟩)
  · have h1 := size_del (k := kL c) h.map
    have h2 := len_del hs c.t c.k
    rw [h.has hc hL, h.size] at h1
    omega

section
variable {w0 w w' : World} {R : HP} {b n n' : Nat} {L : List It}
abbrev mT : TypeId := 38
/-- Block b is a map of these rows. -/
def mpi (b n : Nat) (L : List It) : HP :=
  hex fun o => fact (∀ w : World, w.heap[b]? = some o → ∃ D, w.ownsMap Try.prog 9 itR b n D ∧ Rep D L) * pt b o
theorem At.mpi_of {o : Obj} {D : DataW Unit} (h : At w0 (pt b o * R) w) (ho : w.ownsMap Try.prog 9 itR b n D) (hr : Rep D L) : At w0 (mpi b n L * R) w := by
  refine At.mkex o (At.assoc' (At.mkfact ?_ h))
  intro w2 h2
  obtain ⟨es, clock, hb, rest⟩ := ho
  rw [h.blk] at hb
  cases hb
  exact ⟨D, ⟨es, clock, h2, rest⟩, hr⟩
theorem At.mpi_own (h : At w0 (mpi b n L * R) w) : ∃ D, w.ownsMap Try.prog 9 itR b n D ∧ Rep D L := by
  obtain ⟨o, h⟩ := h.exl
  obtain ⟨hp, h'⟩ := h.assoc.factl
  exact hp w h'.blk
theorem At.mpi_grown {D' : DataW Unit} {L' : List It} (h : At w0 (mpi b n L * R) w) (hg : w.grownBy w' (some b)) (ho : w'.ownsMap Try.prog 9 itR b n' D') (hr : Rep D' L') : At w0 (mpi b n' L' * R) w' := by
  obtain ⟨o, h⟩ := h.exl
  obtain ⟨_, h'⟩ := h.assoc.factl
  obtain ⟨es, clock, hb, rest⟩ := ho
  refine At.mpi_of (At.upd h' hg.os hg.tape hg.output hb fun i x hi hx => ?_) ⟨es, clock, hb, rest⟩ hr
  exact (hg.block i (Array.getElem?_eq_some_iff.1 hx).1 (by simpa using hi)).trans hx
theorem At.mpi_new {A : HP} (h : At w0 A w) : At w0 (mpi w.heap.size 0 [] * A) (w.alloc (.map #[] 0)) :=
  At.mpi_of (h.alloc _) (World.ownsMap_made w Try.prog 9 itR) Rep.nil

theorem kK : Keyed Try.prog 9 := string_keyed Try.underlying9
theorem keyOf_name (c : It) (hc : c.k.size ≤ 1000000) : keyOf Try.prog 9 (.string (nmB c)) = some (kL c) :=
  Go.WideMaps.keyOf_string_mk Try.underlying9 (by rw [nmB_size]; unfold maxLen; omega)

/-- m[name] = row. -/
theorem mpi_store (h : At w0 (mpi b n L * R) w) (c : It) (hk : c.k.size ≤ 1000000) (hs : Sorted L) (hc : InR c) (hL : ∀ x ∈ L, InR x) (hn : n < maxLen) :
    ∃ w', (Instr.mapUpdate mT (.map (some b)) (.string (nmB c)) c.agg).run Try.prog w = .ok () w' ∧ At w0 (mpi b (n + 1) (put L c) * R) w' := by
  obtain ⟨D, ho, hr⟩ := h.mpi_own
  obtain ⟨w', hrun, ho', ht⟩ := ho.store kK Try.underlying38 hn (keyOf_name c hk) (itR_mk c)
  exact ⟨w', hrun, h.mpi_grown ht.grown ho' (hr.put hs hc hL)⟩
/-- delete(m, name). -/
theorem mpi_drop (h : At w0 (mpi b n L * R) w) (c : It) (hk : c.k.size ≤ 1000000) (hs : Sorted L) (hc : InR c) (hL : ∀ x ∈ L, InR x) (ty : TypeId) :
    ∃ w', (Builtin.delete_ #[mT, 9] ty #[.map (some b), .string (nmB c)]).run Try.prog w = .ok (.tuple #[]) w' ∧ At w0 (mpi b n (del L c.t c.k) * R) w' := by
  obtain ⟨D, ho, hr⟩ := h.mpi_own
  obtain ⟨w', hrun, ho', ht⟩ := ho.drop kK Try.underlying38 (keyOf_name c hk) ty
  exact ⟨w', hrun, h.mpi_grown ht.grown ho' (hr.del hs hc hL)⟩
/-- len(m). -/
theorem mpi_len (h : At w0 (mpi b n L * R) w) (ty : TypeId) : (Builtin.len_ #[mT] ty #[.map (some b)]).run Try.prog w = .ok (.int .i64 L.length) w := by
  obtain ⟨D, ho, hr⟩ := h.mpi_own
  have := ho.len Try.underlying38 ty
  rw [hr.size] at this
  exact this
/-- i, ok := m[name]. -/
theorem mpi_look (h : At w0 (mpi b n L * R) w) (c : It) (hk : c.k.size ≤ 1000000) (hs : Sorted L) (hc : InR c) (hL : ∀ x ∈ L, InR x) :
    (Instr.lookup mT (.map (some b)) (.string (nmB c)) true).run Try.prog w = .ok (.tuple #[((fnd L c.t c.k).getD zeroIt).agg, .bool (has L c.t c.k)]) w := by
  obtain ⟨D, ho, hr⟩ := h.mpi_own
  obtain ⟨v, ps, hrun, hv⟩ := ho.look_ok kK Try.underlying38 (z := zeroIt.agg) (by kernel_rfl) (itR_mk zeroIt) (keyOf_name c hk)
  rw [hr.has hc hL] at hrun
  rw [hrun]
  obtain ⟨i, rfl, hi⟩ := itR_inv hv
  have hd : D.atKey (kL c) (itM zeroIt) = itM i := congrArg (·.1) hi
  cases hh : has L c.t c.k with
  | true =>
    obtain ⟨x, _, hx, he⟩ := fnd_has hs hh
    have hm := ((fnd_iff hs).1 hx).1
    rw [hx]
    rw [← (kL_eq (hL x hm) hc).2 he, hr.at_ x hm] at hd
    rw [← itM_inj hd]
    rfl
  | false =>
    rw [fnd_none hh]
    have hn : D.atKey (kL c) (itM zeroIt) = itM zeroIt := hr.none_ _ _ fun x hx he => by
      have := has_iff.2 ⟨x, hx, (kL_eq (hL x hx) hc).1 he.symm⟩
      rw [hh] at this; cases this
    rw [hn] at hd
    rw [← itM_inj hd]
    rfl
end

section
variable {P : Program} {w : World} {ops : Array Oper} {rest : List Oper} {o : Oper} {a : Act} {Q : Exit → Act → World → Prop}
theorem wpList_mapUpdate_eq (hg : o.guard = none) (m x v : Operand) (t : TypeId) (hop : o.op = Op.mapUpdate t m x v) (vm vx vv : Value) (hm : a.eval m = vm) (hx : a.eval x = vx) (hv : a.eval v = vv) {w' : World}
    (hr : (Instr.mapUpdate t vm vx vv).run P w = .ok () w') (h : wpList P ops Q rest (a.put o.dst undef) w') : wpList P ops Q (o :: rest) a w := by
  refine wpList_plain hg fun K' hK' => ?_
  unfold Oper.wp
  simp [execOp, hop, hm, hx, hv, hr, Result.andThen]
  exact hK' _ _ h
theorem wpList_delete_eq (hg : o.guard = none) (m x : Operand) (t k : TypeId) (hop : o.op = Op.call { callee := Callee.builtin Builtin.delete, args := #[m, x], argTypes := #[t, k] }) (vm vx : Value) (hm : a.eval m = vm) (hx : a.eval x = vx) {w' : World}
    (hr : (Builtin.delete_ #[t, k] o.type #[vm, vx]).run P w = .ok (.tuple #[]) w') (h : wpList P ops Q rest (a.put o.dst (.tuple #[])) w') : wpList P ops Q (o :: rest) a w := by
  refine wpList_plain hg fun K' hK' => ?_
  unfold Oper.wp
  simp [execOp, hop, resolve, invoke, builtin, hm, hx, hr, Result.andThen]
  exact hK' _ _ h
end
end Go.Proofs.Ytghlbhnpgbhllaa
