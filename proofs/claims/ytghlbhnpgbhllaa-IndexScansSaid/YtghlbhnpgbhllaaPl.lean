/-
  A list of rows in a box, and a slice of calls put into an index one by one. No statement.
-/
import Derived.Test.YtghlbhnpgbhllaaPu
import Derived.Test.YtghlbhnpgbhllaaIg
namespace Go.Proofs.Ytghlbhnpgbhllaa
open Go Go.RowKit Go.Shelf

theorem wpListIn_append_row {F : Fence} {nF : Nat} {P : Program} {ops : Array Oper} {o : Oper} {a : Act} {Q : Exit → Act → World → Prop} {w0 w : World} {R : HP} {rest : List Oper} (hgd : o.guard = none) (s x : Operand) (t : TypeId)
    (ho : o.op = .call { callee := .builtin .append, args := #[s, x], argTypes := #[t, t] })
    (e : TypeId) (i : TypeInfo) (z : Value) (size bytes : Nat) (ht : P.underlying t = some (.slice e)) (hi : P.info? e = some i) (hz : i.zero = some z)
    (hsize : i.size = size) (hby : i.bytes = bytes) (hzs : z.cells.size = size) (hsz : 0 < size)
    (v : Value) (n : Nat) (xs : List Value) (hs : a.eval s = v) (h : At w0 (row e size v n xs * R) w)
    (ad : Addr) (m c : Nat) (news : List Value) (hx : a.eval x = .slice (some ad) m c) (hl : news.length = m * size) (hnews : ∀ j u, news[j]? = some u → w.cell? (ad.add j) = some u) (h1 : ∀ u ∈ news, u.oneCell' = true)
    (h63 : n + m ≤ maxLen) (hbytes : (n + m) * bytes ≤ 140737488355328)
    (hK : ∀ ar cp w', At w0 (row e size (.slice ar (n + m) cp) (n + m) (xs ++ news) * R) w' → wpListIn F nF P ops Q rest (a.put o.dst (.slice ar (n + m) cp)) w') : wpListIn F nF P ops Q (o :: rest) a w := by
  refine wpListIn_plain hgd fun K hK' => ?_
  obtain ⟨v', w', hr, h2, h3⟩ := run_append_row (P := P) t o.type e i z size bytes ht hi hz hsize hby hzs hsz h ad m c news hl hnews h1 h63 hbytes
  obtain ⟨ar, cp, rfl⟩ := h2.row_len
  unfold Oper.wpIn
  refine ⟨by simp [Oper.about, ho, resolve, Target.leads, Sem.run_pure], ?_⟩
  rw [Oper.semAt_plain F _ _ (by rw [ho]; intro c hc'; cases hc')]
  unfold execOp
  simp only [ho, resolve, invoke, builtin, Sem.run_bind, Sem.run_pure, Result.andThen_ok, List.map_toArray, List.map_cons, List.map_nil, hs, hx, hr]
  exact hK' _ _ (hK ar cp w' h2)

/-- A list of rows, in a box. -/
def lsb (b : Nat) (l : List It) : HP := hex fun v => cel b #[v] 25 * row 31 5 v l.length (its l)
section
variable {w0 w : World} {R : HP} {b : Nat} {l : List It} {v : Value}
theorem At.lsb_open (h : At w0 (lsb b l * R) w) : ∃ a cp, At w0 (cel b #[.slice a l.length cp] 25 * (row 31 5 (.slice a l.length cp) l.length (its l) * R)) w := by
  obtain ⟨v, h⟩ := h.exl
  obtain ⟨a, cp, rfl⟩ := h.assoc.pull2.row_len
  exact ⟨a, cp, h.assoc⟩
theorem At.lsb_shut (h : At w0 (cel b #[v] 25 * (row 31 5 v l.length (its l) * R)) w) : At w0 (lsb b l * R) w := At.mkex v h.assoc'
theorem At.lsb_new (h : At w0 (cel b #[.slice none 0 0] 25 * R) w) : At w0 (lsb b [] * R) w :=
  At.lsb_shut (v := .slice none 0 0) (h.cast (by
    show _ = cel b _ _ * (row _ 5 (.slice none 0 0) 0 [] * R)
    rw [Go.Proofs.Ytghlbhnpgbhllaa.row_nil, HP.one_mul]))
end

def it3 (i : It) : It := ⟨bits .and .i64 i.t 3, i.k, i.v, i.p, i.s⟩
/-- The index after so many calls. -/
def putN (z : Nat → Cl) : Nat → List It
  | 0 => []
  | k + 1 => put (putN z k) (it3 (z k).i)
theorem putN_sorted (z : Nat → Cl) : ∀ k, Sorted (putN z k)
  | 0 => sorted_nil
  | k + 1 => sorted_put (putN_sorted z k) _
theorem putN_len (z : Nat → Cl) : ∀ k, (putN z k).length ≤ k
  | 0 => Nat.le_refl _
  | k + 1 => by
    have h1 := putN_len z k
    show (put (putN z k) _).length ≤ _
    rw [len_put (putN_sorted z k)]
    split <;> omega
theorem and3x (x : Int) : 0 ≤ bits .and .i64 x 3 ∧ bits .and .i64 x 3 ≤ 3 := by
  show 0 ≤ IntKind.i64.wrap ((BitVec.ofInt 64 x &&& BitVec.ofInt 64 3).toNat : Int) ∧ IntKind.i64.wrap ((BitVec.ofInt 64 x &&& BitVec.ofInt 64 3).toNat : Int) ≤ 3
  have h : (BitVec.ofInt 64 x &&& BitVec.ofInt 64 3).toNat ≤ 3 := by
    rw [BitVec.toNat_and]
    exact Nat.and_le_right
  rw [IntWalk.i64_in _ (by omega)]
  omega
end Go.Proofs.Ytghlbhnpgbhllaa
