/-
  Rows of records: read, appended to one another, built of some. Laws of the model's memory; no statement.
-/
import Derived.Test.YtgkibjjcdcpkfaaSq
namespace Go.Proofs.Ytgkibjjcdcpkfaa
open Go Go.RowKit

/-- A record's numbers are read. -/
def DirIn (w0 : World) (A : HP) (x : RecV) : Prop := ∀ w', At w0 A w' → Rd w' (.slice x.2.1 x.1.dirty.length x.2.2) (nus x.1.dirty)
theorem DirIn.mono {w0 : World} {A B : HP} {x : RecV} (h : DirIn w0 A x) : DirIn w0 (B * A) x := fun w' h' => h w' h'.r
/-- A row of records that is owned is read. -/
theorem RecsIn.of_row {w0 w : World} {F : HP} {a : Option Addr} {c n : Nat} {rs : List RecV} (hn : n = rs.length) (hg : GoodV rs) (hd : ∀ x ∈ rs, DirIn w0 F x) (h : At w0 (row 44 8 (.slice a n c) n (rs.flatMap RecV.cs) * F) w) :
    RecsIn w0 (row 44 8 (.slice a n c) n (rs.flatMap RecV.cs) * F) a rs := by
  refine ⟨?_, fun x hx w' h' => hd x hx w' h'.r, fun x hx => (hg x hx).nums⟩
  by_cases h0 : n = 0
  · left
    subst h0
    exact List.eq_nil_of_length_eq_zero hn.symm
  · right
    obtain ⟨g, cap, hv, _, _⟩ := h.row_ptr (by omega)
    simp only [Value.slice.injEq] at hv
    obtain ⟨rfl, _, rfl⟩ := hv
    refine ⟨g, 0, rfl, fun w' h' j u hu => ?_⟩
    rw [Nat.zero_add]
    exact (h'.row_cell rfl hu).2
theorem recs_len (rs : List RecV) : (rs.flatMap RecV.cs).length = rs.length * 8 := flat_sized fun x _ => x.cs_len
theorem recs_one' (rs : List RecV) : ∀ u ∈ rs.flatMap RecV.cs, u.oneCell' = true := by
  intro u hu
  rw [List.mem_flatMap] at hu
  obtain ⟨x, _, hx⟩ := hu
  have := x.one
  rw [Array.all_eq_true_iff_forall_mem] at this
  exact this u (by simpa using hx)
theorem Try.infoRec : (Try.prog.info? 44).map (fun i => (i.zero.map (·.cells.size), i.size, i.bytes)) = some (some 8, 8, 104) := by kernel_rfl

section
variable {P : Program} {ops : Array Oper} {rest : List Oper} {o : Oper} {a : Act} {Q : Exit → Act → World → Prop} {w0 w : World} {R : HP}
/-- 'append' of one record, that lies in a block of its own, to a row of records. -/
theorem wpList_append_rec1 {rest : List Oper} (hgd : o.guard = none) (s x : Operand) (t : TypeId)
    (ho : o.op = .call { callee := .builtin .append, args := #[s, x], argTypes := #[t, t] })
    (e : TypeId) (i : TypeInfo) (z : Value) (ht : P.underlying t = some (.slice e)) (hi : P.info? e = some i) (hz : i.zero = some z)
    (hsize : i.size = 8) (hby : i.bytes = 104) (hzs : z.cells.size = 8)
    {v : Value} {rs : List RecV} (hs : a.eval s = v) (h : At w0 (row e 8 v rs.length (rs.flatMap RecV.cs) * R) w)
    {ad : Addr} {c : Nat} {y : RecV} (hx : a.eval x = .slice (some ad) 1 c) (hnews : ∀ j u, y.cs[j]? = some u → w.cell? (ad.add j) = some u) (hl : rs.length ≤ 1000000)
    (hK : ∀ ar cp w', At w0 (row e 8 (.slice ar (rs ++ [y]).length cp) (rs ++ [y]).length ((rs ++ [y]).flatMap RecV.cs) * R) w' → wpList P ops Q rest (a.put o.dst (.slice ar (rs ++ [y]).length cp)) w') : wpList P ops Q (o :: rest) a w := by
  refine wpList_append_row hgd s x t ho e i z 8 104 ht hi hz hsize hby hzs (by decide) v rs.length _ hs h ad 1 c y.cs hx rfl hnews (fun u hu => recs_one' [y] u (by simpa using hu)) (by unfold maxLen; omega) (by omega) ?_
  intro ar cp w' h'
  have e1 : (rs ++ [y]).length = rs.length + 1 := by simp
  have e2 : (rs ++ [y]).flatMap RecV.cs = rs.flatMap RecV.cs ++ y.cs := by simp
  have := hK ar cp w'
  rw [e1, e2] at this
  exact this h'
/-- 'append' of records that are read to a row of records. -/
theorem wp_append_recs {K : Act → World → Prop} (s x : Operand) (t : TypeId)
    (ho : o.op = .call { callee := .builtin .append, args := #[s, x], argTypes := #[t, t] })
    (e : TypeId) (i : TypeInfo) (z : Value) (ht : P.underlying t = some (.slice e)) (hi : P.info? e = some i) (hz : i.zero = some z)
    (hsize : i.size = 8) (hby : i.bytes = 104) (hzs : z.cells.size = 8)
    {v : Value} {rs : List RecV} (hs : a.eval s = v) (h : At w0 (row e 8 v rs.length (rs.flatMap RecV.cs) * R) w)
    {ad : Option Addr} {c : Nat} {ys : List RecV} (hx : a.eval x = .slice ad ys.length c) (hn : ad = none → c = 0) (hr : RecsIn w0 R ad ys) (hl : rs.length + ys.length ≤ 1000000)
    (hK : ∀ ar cp w', At w0 (row e 8 (.slice ar (rs ++ ys).length cp) (rs ++ ys).length ((rs ++ ys).flatMap RecV.cs) * R) w' → K (a.put o.dst (.slice ar (rs ++ ys).length cp)) w') : o.wp P a w K Q := by
  have e1 : (rs ++ ys).length = rs.length + ys.length := by simp
  have e2 : (rs ++ ys).flatMap RecV.cs = rs.flatMap RecV.cs ++ ys.flatMap RecV.cs := by simp
  rw [e1, e2] at hK
  cases ad with
  | none =>
    obtain rfl := hn rfl
    obtain rfl : ys = [] := by
      rcases hr.1 with h1 | ⟨g, o', h1, _⟩
      · exact h1
      · cases h1
    have hrun := run_append_row_none (P := P) t o.type e i ht hi h
    obtain ⟨ar, cp, rfl⟩ := h.row_len
    unfold Oper.wp execOp
    simp only [ho, resolve, invoke, builtin, Sem.run_bind, Sem.run_pure, Result.andThen_ok, List.map_toArray, List.map_cons, List.map_nil, hs, hx]
    simp only [List.length_nil] at hrun ⊢
    rw [hrun]
    refine hK ar cp w ?_
    simpa using h
  | some ad =>
    have hnews : ∀ j u, (ys.flatMap RecV.cs)[j]? = some u → w.cell? (ad.add j) = some u := fun j u hu => by
      rcases hr.1 with h1 | ⟨g, o', h1, h2⟩
      · subst h1
        simp at hu
      · simp only [Option.some.injEq] at h1
        subst h1
        rw [Addr.add_lit]
        exact h2 w h.r j u hu
    exact wp_append_row s x t ho e i z 8 104 ht hi hz hsize hby hzs (by decide) v rs.length _ hs h ad ys.length c _ hx (recs_len ys) hnews (recs_one' ys) (by unfold maxLen; omega) (by omega) hK
theorem wpList_append_recs {rest : List Oper} (hw : Region.wanted o (yielded ops a.tmps) = true) (s x : Operand) (t : TypeId)
    (ho : o.op = .call { callee := .builtin .append, args := #[s, x], argTypes := #[t, t] })
    (e : TypeId) (i : TypeInfo) (z : Value) (ht : P.underlying t = some (.slice e)) (hi : P.info? e = some i) (hz : i.zero = some z)
    (hsize : i.size = 8) (hby : i.bytes = 104) (hzs : z.cells.size = 8)
    {v : Value} {rs : List RecV} (hs : a.eval s = v) (h : At w0 (row e 8 v rs.length (rs.flatMap RecV.cs) * R) w)
    {ad : Option Addr} {c : Nat} {ys : List RecV} (hx : a.eval x = .slice ad ys.length c) (hn : ad = none → c = 0) (hr : RecsIn w0 R ad ys) (hl : rs.length + ys.length ≤ 1000000)
    (hK : ∀ ar cp w', At w0 (row e 8 (.slice ar (rs ++ ys).length cp) (rs ++ ys).length ((rs ++ ys).flatMap RecV.cs) * R) w' → wpList P ops Q rest (a.put o.dst (.slice ar (rs ++ ys).length cp)) w') : wpList P ops Q (o :: rest) a w := by
  unfold wpList
  rw [if_pos hw]
  left
  exact wp_append_recs s x t ho e i z ht hi hz hsize hby hzs hs h hx hn hr hl hK
end
end Go.Proofs.Ytgkibjjcdcpkfaa
