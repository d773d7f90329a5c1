/-
  'append' of records that are read to a slice of records that is full, and read. Laws of the model's memory; no statement.
-/
import Derived.Test.YtgkibjjcdcpkfaaLag
namespace Go.Proofs.Ytgkibjjcdcpkfaa
open Go Go.RowKit

section
variable {P : Program} {ops : Array Oper} {rest : List Oper} {o : Oper} {a : Act} {Q : Exit → Act → World → Prop} {w0 w : World} {R : HP}
theorem wpList_append_full {rest : List Oper} (hw : Region.wanted o (yielded ops a.tmps) = true) (s x : Operand) (t : TypeId)
    (ho : o.op = .call { callee := .builtin .append, args := #[s, x], argTypes := #[t, t] })
    (i : TypeInfo) (z : Value) (ht : P.underlying t = some (.slice 44)) (hi : P.info? 44 = some i) (hz : i.zero = some z)
    (hsize : i.size = 8) (hby : i.bytes = 104) (hzs : z.cells.size = 8)
    {N o0 n : Nat} {rs : List RecV} (hn : n = rs.length) (hs : a.eval s = .slice (some ⟨N, o0, none⟩) n n) (h : At w0 R w) (hN : RecsIn w0 R (some ⟨N, o0, none⟩) rs)
    {ad : Option Addr} {c : Nat} {ys : List RecV} (hx : a.eval x = .slice ad ys.length c) (hne : ys = [] → ad = none ∧ c = 0) (hr : RecsIn w0 R ad ys) (hl : n + ys.length ≤ 1000000)
    (hK : ∀ ar cp w' X, At w0 (X * R) w' → RecsIn w0 (X * R) ar (rs ++ ys) → wpList P ops Q rest (a.put o.dst (.slice ar (n + ys.length) cp)) w') : wpList P ops Q (o :: rest) a w := by
  unfold wpList
  rw [if_pos hw]
  left
  by_cases hy : ys = []
  · subst hy
    obtain ⟨rfl, rfl⟩ := hne rfl
    have hrun : (Builtin.append_ #[t, t] o.type #[.slice (some ⟨N, o0, none⟩) n n, .slice none 0 0]).run P w = .ok (.slice (some ⟨N, o0, none⟩) n n) w := by
      simp [Builtin.append_, run_underlying ht, sizeOf, typeInfo, hi, Builtin.lenOf, Builtin.firstCells, loadCells, storeCells]
    unfold Oper.wp execOp
    simp only [ho, resolve, invoke, builtin, Sem.run_bind, Sem.run_pure, Result.andThen_ok, List.map_toArray, List.map_cons, List.map_nil, hs, hx, List.length_nil]
    rw [hrun]
    have := hK (some ⟨N, o0, none⟩) n w 1 (h.cast (HP.one_mul R).symm) (by rw [List.append_nil, HP.one_mul]; exact hN)
    simp only [List.length_nil, Nat.add_zero] at this
    exact this
  · have hm : 0 < ys.length := List.length_pos_iff.2 hy
    obtain ⟨g, o', rfl, hc⟩ := hr.1.resolve_left hy
    have hnews : ∀ j u, (ys.flatMap RecV.cs)[j]? = some u → w.cell? ((⟨g, o', none⟩ : Addr).add j) = some u := fun j u hu => by
      rw [Addr.add_lit]
      exact hc w h j u hu
    have hold : ∀ j u, (rs.flatMap RecV.cs)[j]? = some u → w.cell? ((⟨N, o0, none⟩ : Addr).add j) = some u := fun j u hu => by
      rw [Addr.add_lit]
      rcases hN.1 with h1 | ⟨g2, o2, h1, h2⟩
      · subst h1
        simp at hu
      · simp only [Option.some.injEq, Addr.mk.injEq, and_true] at h1
        obtain ⟨rfl, rfl⟩ := h1
        exact h2 w h j u hu
    have hlx : (rs.flatMap RecV.cs).length = n * i.size := by rw [recs_len, hsize, hn]
    have hly : (ys.flatMap RecV.cs).length = ys.length * i.size := by rw [recs_len, hsize]
    have hrun := run_append_grow (P := P) w t o.type 44 i z ht hi hz ⟨N, o0, none⟩ n n _ hlx hold ⟨g, o', none⟩ ys.length c _ hly hnews (by omega) (by omega) (growslice_fits (by omega) (by rw [hby]; omega))
    have hge := grownCap_ge w (n + ys.length) n 44
    have hcm : grownCap w (n + ys.length) n 44 ≤ maxLen := grownCap_le_maxLen w (n + ys.length) n 44 (by unfold maxLen; omega)
    have hfm : (rs ++ ys).flatMap RecV.cs = rs.flatMap RecV.cs ++ ys.flatMap RecV.cs := by simp
    have hlen : (rs ++ ys).length = n + ys.length := by rw [List.length_append, hn]
    have hrow : At w0 (row 44 8 (.slice (some ⟨w.heap.size, 0, none⟩) (rs ++ ys).length (grownCap w (n + ys.length) n 44)) (rs ++ ys).length ((rs ++ ys).flatMap RecV.cs) * R)
        (w.drew.alloc (.cells ((rs.flatMap RecV.cs).toArray ++ (ys.flatMap RecV.cs).toArray ++ Builtin.zeroCells z.cells (grownCap w (n + ys.length) n 44 - (n + ys.length))) 44)) := by
      rw [hlen, hfm]
      refine At.mkrow (h.drew.alloc _) hge hcm (Nat.le_of_eq ?_) ?_
      · simp only [Array.size_append, List.size_toArray, zeroCells_size, hzs, hlx, hly, hsize]
        omega
      · simp only [Array.toList_append, List.append_assoc]
        rw [← List.append_assoc]
        have e : (rs.flatMap RecV.cs ++ ys.flatMap RecV.cs).length = (n + ys.length) * 8 := by rw [List.length_append, hlx, hly, hsize]; omega
        rw [← e]
        exact List.take_left
    unfold Oper.wp execOp
    simp only [ho, resolve, invoke, builtin, Sem.run_bind, Sem.run_pure, Result.andThen_ok, List.map_toArray, List.map_cons, List.map_nil, hs, hx, hrun]
    refine hK _ _ _ (row 44 8 (.slice (some ⟨w.heap.size, 0, none⟩) (rs ++ ys).length (grownCap w (n + ys.length) n 44)) (rs ++ ys).length ((rs ++ ys).flatMap RecV.cs)) hrow ⟨.inr ⟨w.heap.size, 0, rfl, fun w' h' j u hu => ?_⟩, fun y hy w' h' => ?_, fun y hy => ?_⟩
    · rw [Nat.zero_add]
      exact (h'.row_cell rfl hu).2
    · rcases List.mem_append.1 hy with h1 | h1
      · exact hN.2.1 y h1 w' h'.r
      · exact hr.2.1 y h1 w' h'.r
    · rcases List.mem_append.1 hy with h1 | h1
      · exact hN.2.2 y h1
      · exact hr.2.2 y h1
end
end Go.Proofs.Ytgkibjjcdcpkfaa
