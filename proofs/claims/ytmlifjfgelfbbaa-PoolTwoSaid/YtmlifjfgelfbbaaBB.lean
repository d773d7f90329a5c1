/-
  Rows of bytes, and slices that are only read, in the logic of separate blocks. Laws of the model's memory; no statement.
  Numbers as bytes, the highest first. No program of Go's is spoken of.
  'append(b, make([]byte, k)...)' to a row of bytes: k zeros more. Laws of the model's memory; no statement.
  Rows and pages as bytes, in plain Lean: what they are written as, what bytes tell. No program, no statement.
-/
import Derived.Test.YtmlifjfgelfbbaaRR
import Derived.Lib.AppendStr
import Derived.Laws.BytesArg
import Derived.Laws.CopyRow
import Derived.IntWalk
import Derived.Lib.AppendZeros
import Derived.Lib.AppendZerosOnto
/-! ## By -/
namespace Go.Proofs.Ytmlifjfgelfbbaa
open Go Go.RowKit

def byv (b : UInt8) : Value := .int .u8 (b.toNat : Int)
def bys (l : List UInt8) : List Value := l.map byv
theorem bys_len (l : List UInt8) : (bys l).length = l.length := by simp [bys]
theorem bys_append (a b : List UInt8) : bys (a ++ b) = bys a ++ bys b := by simp [bys]
theorem bys_nil : bys [] = [] := rfl
theorem bys_one (l : List UInt8) : ∀ u ∈ bys l, u.oneCell' = true := by
  intro u hu
  simp only [bys, List.mem_map] at hu
  obtain ⟨b, _, rfl⟩ := hu
  rfl
theorem bys_take (l : List UInt8) (k : Nat) : (bys l).take k = bys (l.take k) := by simp [bys]
theorem bys_drop (l : List UInt8) (k : Nat) : (bys l).drop k = bys (l.drop k) := by simp [bys]
theorem bys_str (s : ByteArray) : Lib.strCells s = bys s.data.toList := rfl
theorem byv_inj {a b : UInt8} (h : byv a = byv b) : a = b := by
  unfold byv at h
  simp only [Value.int.injEq, true_and] at h
  exact UInt8.toNat_inj.1 (by omega)
theorem bys_inj {a b : List UInt8} (h : bys a = bys b) : a = b := by
  induction a generalizing b with
  | nil => cases b with
    | nil => rfl
    | cons y b => cases h
  | cons x a ih => cases b with
    | nil => cases h
    | cons y b =>
      simp only [bys, List.map_cons, List.cons.injEq] at h
      rw [byv_inj h.1, ih h.2]
/-- A text of these bytes. -/
def str (l : List UInt8) : Value := .string ⟨l.toArray⟩

/-- v is a slice of one-cell elements that read as xs. -/
def Rd (w : World) (v : Value) (xs : List Value) : Prop :=
  (v = .slice none 0 0 ∧ xs = []) ∨ ∃ g o c, v = .slice (some ⟨g, o, none⟩) xs.length c ∧ xs.length ≤ c ∧ ∀ j u, xs[j]? = some u → w.cell? ⟨g, o + j, none⟩ = some u

section
variable {w0 w : World} {A B C R : HP} {e : TypeId} {v vx : Value} {n : Nat} {xs ys : List Value}

theorem Rd.nil (w : World) : Rd w (.slice none 0 0) [] := .inl ⟨rfl, rfl⟩
theorem Rd.val (h : Rd w v xs) : ∃ a c, v = .slice a xs.length c ∧ xs.length ≤ c := by
  rcases h with ⟨rfl, rfl⟩ | ⟨g, o, c, rfl, hc, _⟩
  · exact ⟨none, 0, rfl, Nat.le_refl _⟩
  · exact ⟨_, c, rfl, hc⟩
theorem At.rd (h : At w0 (row e 1 v n xs * R) w) : Rd w v xs := by
  obtain ⟨hl, hc⟩ := h.row_cases
  rw [Nat.mul_one] at hl
  rcases hc with ⟨rfl, rfl, rfl, _⟩ | ⟨g, cap, cur, rfl, h1, _, _, _, _⟩
  · exact .inl ⟨rfl, rfl⟩
  · exact .inr ⟨g, 0, cap, by rw [hl], by omega, fun j u hu => by rw [Nat.zero_add]; exact (h.row_cell rfl hu).2⟩
theorem At.row_n (h : At w0 (row e 1 v n xs * R) w) : xs.length = n := by
  have := h.row_cases.1
  omega
/-- The rest of a slice, as the model cuts it. -/
theorem Rd.drop {a : Option Addr} {m c k : Nat} (h : Rd w (.slice a m c) xs) (hk : k ≤ m) : Rd w (.slice (if c = k then a else a.map (·.add (k * 1))) (m - k) (c - k)) (xs.drop k) := by
  rcases h with ⟨hv, rfl⟩ | ⟨g, o, c', hv, hc, hx⟩
  · simp only [Value.slice.injEq] at hv
    obtain ⟨rfl, rfl, rfl⟩ := hv
    exact .inl ⟨by simp, by simp⟩
  · simp only [Value.slice.injEq] at hv
    obtain ⟨rfl, rfl, rfl⟩ := hv
    by_cases hck : c = k
    · rw [if_pos hck]
      have e : xs.drop k = [] := List.drop_eq_nil_of_le (by omega)
      rw [e]
      refine .inr ⟨g, o, c - k, by simp; omega, by simp, fun j u hu => by simp at hu⟩
    · rw [if_neg hck]
      refine .inr ⟨g, o + k, c - k, by simp [Addr.add_lit], by simp; omega, fun j u hu => ?_⟩
      rw [List.getElem?_drop] at hu
      rw [Nat.add_assoc]
      exact hx _ _ hu
/-- The beginning of a slice. -/
theorem Rd.take {a : Option Addr} {m c k : Nat} (h : Rd w (.slice a m c) xs) (hk : k ≤ m) : Rd w (.slice a k c) (xs.take k) := by
  rcases h with ⟨hv, rfl⟩ | ⟨g, o, c', hv, hc, hx⟩
  · simp only [Value.slice.injEq] at hv
    obtain ⟨rfl, rfl, rfl⟩ := hv
    obtain rfl : k = 0 := by omega
    exact .inl ⟨rfl, by simp⟩
  · simp only [Value.slice.injEq] at hv
    obtain ⟨rfl, rfl, rfl⟩ := hv
    have hl : (xs.take k).length = k := by rw [List.length_take]; omega
    refine .inr ⟨g, o, c, by rw [hl], by omega, fun j u hu => ?_⟩
    rw [List.getElem?_take] at hu
    split at hu
    · exact hx _ _ hu
    · cases hu
theorem Rd.get {a : Option Addr} {m c : Nat} (h : Rd w (.slice a m c) xs) (hn : 0 < m) : ∃ g o, a = some ⟨g, o, none⟩ ∧ ∀ j u, xs[j]? = some u → w.cell? ⟨g, o + j, none⟩ = some u := by
  rcases h with ⟨hv, rfl⟩ | ⟨g, o, c', hv, hc, hx⟩
  · simp only [Value.slice.injEq] at hv
    omega
  · simp only [Value.slice.injEq] at hv
    exact ⟨g, o, hv.1, hx⟩
theorem Rd.len {a : Option Addr} {m c : Nat} (h : Rd w (.slice a m c) xs) : m = xs.length ∧ m ≤ c := by
  rcases h with ⟨hv, rfl⟩ | ⟨g, o, c', hv, hc, hx⟩
  · simp only [Value.slice.injEq] at hv
    exact ⟨hv.2.1, by omega⟩
  · simp only [Value.slice.injEq] at hv
    obtain ⟨rfl, rfl, rfl⟩ := hv
    exact ⟨rfl, hc⟩

/-- A slice that was just laid. -/
theorem Rd.new (w : World) (xs : List Value) (e : TypeId) {b m : Nat} (hb : b = w.heap.size) (hm : m = xs.length) : Rd (w.alloc (.cells xs.toArray e)) (.slice (some ⟨b, 0, none⟩) m m) xs := by
  subst hm
  refine .inr ⟨b, 0, xs.length, rfl, Nat.le_refl _, fun j u hu => ?_⟩
  have := new_cells (w := w) (e := e) hb j u hu
  rw [Addr.add_lit] at this
  exact this

/-- 'append' of a slice that is read. -/
theorem run_append_rd {P : Program} (t ty e : TypeId) (i : TypeInfo) (z : Value) (bytes : Nat) (ht : P.underlying t = some (.slice e)) (hi : P.info? e = some i) (hz : i.zero = some z)
    (hsize : i.size = 1) (hby : i.bytes = bytes) (hzs : z.cells.size = 1)
    (h : At w0 (row e 1 v n xs * R) w) (hx : Rd w vx ys) (h1 : ∀ u ∈ ys, u.oneCell' = true) (h63 : n + ys.length ≤ maxLen) (hbytes : (n + ys.length) * bytes ≤ 140737488355328) :
    ∃ v' w', (Builtin.append_ #[t, t] ty #[v, vx]).run P w = .ok v' w' ∧ At w0 (row e 1 v' (n + ys.length) (xs ++ ys) * R) w' := by
  rcases hx with ⟨rfl, rfl⟩ | ⟨g, o, c, rfl, hc, hr⟩
  · exact ⟨v, w, run_append_row_none t ty e i ht hi h, by simpa using h⟩
  · obtain ⟨v', w', h2, h3, _⟩ := run_append_row (P := P) t ty e i z 1 bytes ht hi hz hsize hby hzs (by decide) h ⟨g, o, none⟩ ys.length c ys (by omega) (fun j u hu => by rw [Addr.add_lit]; exact hr j u hu) h1 h63 hbytes
    exact ⟨v', w', h2, h3⟩

/-- 'append' of a text's bytes. -/
theorem run_append_txt {P : Program} (t u ty e : TypeId) (i : TypeInfo) (z : Value) (ht : P.underlying t = some (.slice e)) (hu : P.underlying u = some .string) (hi : P.info? e = some i) (hz : i.zero = some z)
    (hsize : i.size = 1) (hby : i.bytes = 1) (hzs : z.cells.size = 1)
    (h : At w0 (row e 1 v n xs * R) w) (s : ByteArray) (h63 : n + s.size ≤ 140737488355328) :
    ∃ v' w', (Builtin.append_ #[t, u] ty #[v, .string s]).run P w = .ok v' w' ∧ At w0 (row e 1 v' (n + s.size) (xs ++ bys s.data.toList) * R) w' := by
  have hlx := h.row_n
  have hls : (bys s.data.toList).length = s.size := by rw [bys_len, Array.length_toList]; rfl
  have hml : n + s.size ≤ maxLen := by unfold maxLen; omega
  have grown : ∀ (old : Nat), At w0 R w →
      At w0 (row e 1 (.slice (some ⟨w.heap.size, 0, none⟩) (n + s.size) (grownCap w (n + s.size) old e)) (n + s.size) (xs ++ bys s.data.toList) * R)
        (w.drew.alloc (.cells (xs.toArray ++ (bys s.data.toList).toArray ++ Builtin.zeroCells z.cells (grownCap w (n + s.size) old e - (n + s.size))) e)) := by
    intro old hR
    have hge := grownCap_ge w (n + s.size) old e
    have hcm : grownCap w (n + s.size) old e ≤ maxLen := grownCap_le_maxLen w (n + s.size) old e hml
    refine At.mkrow (hR.drew.alloc _) hge hcm (Nat.le_of_eq ?_) ?_
    · simp only [Array.size_append, List.size_toArray, zeroCells_size, hzs, hlx, hls]
      omega
    · simp only [Array.toList_append, List.append_assoc]
      rw [← List.append_assoc, Nat.mul_one, show n + s.size = (xs ++ bys s.data.toList).length by rw [List.length_append, hlx, hls]]
      exact List.take_left
  rcases h.row_cases.2 with ⟨rfl, rfl, rfl, hR⟩ | ⟨g, cap, cur, rfl, hnc, hcm, hcs, htake, hat⟩
  · by_cases hm : s.size = 0
    · have e9 : bys s.data.toList = [] := List.eq_nil_of_length_eq_zero (by omega)
      refine ⟨.slice none 0 0, w, ?_, ?_⟩
      · have hds : s.data = #[] := Array.eq_empty_of_size_eq_zero hm
        simp [Builtin.append_, run_underlying ht, run_underlying hu, sizeOf, typeInfo, hi, Builtin.lenOf, Builtin.firstCells, hm]
      · rw [e9, hm]
        simpa using hR.row_nil e 1
    · have hr := run_append_nil_string (P := P) w t u ty e i z ht hu hi hz s (by omega) (by omega) (by rw [hby]; omega)
      have hgr := grown 0 hR
      simp only [Nat.zero_add, List.nil_append, Array.empty_append] at hgr ⊢
      refine ⟨_, _, hr, ?_⟩
      have e : (bys s.data.toList).toArray = s.data.map (fun b => Value.int .u8 b.toNat) := by
        apply Array.ext'
        simp [bys, byv]
      rw [e] at hgr
      exact hgr
  · by_cases hroom : n + s.size ≤ cap
    · have hfit : n + s.size ≤ cur.size := by omega
      have hr := Lib.run_append_room_string (P := P) w t u ty e i ht hu hi hsize g n cap cur (At.blk (o := .cells cur e) hat) s hroom hfit
      refine ⟨_, _, hr, At.mkrow (hat.setRow _) hroom hcm ?_ ?_⟩
      · simp only [List.size_toArray, List.length_append, List.length_take, List.length_drop, Array.length_toList, Lib.strCells_length]
        omega
      · rw [Nat.mul_one] at htake
        rw [htake, Nat.mul_one, bys_str, show n + s.size = (xs ++ bys s.data.toList).length by rw [List.length_append, hlx, hls]]
        exact List.take_left
    · have holds : ∀ j u, xs[j]? = some u → w.cell? ((⟨g, 0, none⟩ : Addr).add j) = some u := fun j u hu => by
        rw [Addr.add_lit, Nat.zero_add]; exact (h.row_cell rfl hu).2
      have hr := Lib.run_append_grow_string (P := P) w t u ty e i z ht hu hi hz ⟨g, 0, none⟩ n cap xs (by rw [hsize]; omega) holds s (by omega) (by omega) (growslice_fits (by omega) (by rw [hby]; omega))
      exact ⟨_, _, hr, grown cap hat.r⟩

/-- A text of bytes that are read. -/
theorem run_txt {P : Program} (src e dst : TypeId) (hs : P.underlying src = some (.slice e)) (he : P.underlying e = some (.int .u8)) (hd : P.underlying dst = some .string) {l : List UInt8} (h : Rd w v (bys l)) :
    (convert src dst v).run P w = .ok (str l) w := by
  rcases h with ⟨rfl, hx⟩ | ⟨g, o, c, rfl, hc, hx⟩
  · obtain rfl : l = [] := by cases l <;> simp_all [bys]
    rw [run_convert_bytes_nil w src e hs he _ _ dst hd]
    rfl
  · have h1 := run_convert_bytes_arg (P := P) w src e hs he g o (bys l).length c (l.map fun b => (b.toNat : Int)) (by simp [bys]) (fun i hi => by
      rw [bys_len] at hi
      refine hx i _ ?_
      simp [bys, List.getElem?_eq_getElem hi, byv]) dst hd
    rw [h1]
    congr 1
    unfold str strOfNums
    congr 2
    rw [List.map_map]
    congr 1
    conv => rhs; rw [← List.map_id l]
    refine List.map_congr_left fun b _ => ?_
    simp

variable {P : Program} {ops : Array Oper} {o : Oper} {a : Act} {K : Act → World → Prop} {Q : Exit → Act → World → Prop}
theorem wp_append_rd (s x : Operand) (t : TypeId)
    (ho : o.op = .call { callee := .builtin .append, args := #[s, x], argTypes := #[t, t] })
    (e : TypeId) (i : TypeInfo) (z : Value) (bytes : Nat) (ht : P.underlying t = some (.slice e)) (hi : P.info? e = some i) (hz : i.zero = some z)
    (hsize : i.size = 1) (hby : i.bytes = bytes) (hzs : z.cells.size = 1)
    (hs : a.eval s = v) (hvx : a.eval x = vx) (h : At w0 (row e 1 v n xs * R) w) (hx : Rd w vx ys) (h1 : ∀ u ∈ ys, u.oneCell' = true)
    (h63 : n + ys.length ≤ maxLen) (hbytes : (n + ys.length) * bytes ≤ 140737488355328) (m : Nat) (out : List Value) (hm : m = n + ys.length) (ho2 : out = xs ++ ys)
    (hK : ∀ ar cp w', At w0 (row e 1 (.slice ar m cp) m out * R) w' → K (a.put o.dst (.slice ar m cp)) w') : o.wp P a w K Q := by
  subst hm ho2
  obtain ⟨v', w', hr, h2⟩ := run_append_rd (P := P) t o.type e i z bytes ht hi hz hsize hby hzs h hx h1 h63 hbytes
  unfold Oper.wp execOp
  simp only [ho, resolve, invoke, builtin, Sem.run_bind, Sem.run_pure, Result.andThen_ok, List.map_toArray, List.map_cons, List.map_nil, hs, hvx, hr]
  obtain ⟨ar, cp, rfl⟩ := h2.row_len
  exact hK ar cp w' h2
theorem wpList_append_rd {rest : List Oper} (hgd : o.guard = none) (s x : Operand) (t : TypeId)
    (ho : o.op = .call { callee := .builtin .append, args := #[s, x], argTypes := #[t, t] })
    (e : TypeId) (i : TypeInfo) (z : Value) (bytes : Nat) (ht : P.underlying t = some (.slice e)) (hi : P.info? e = some i) (hz : i.zero = some z)
    (hsize : i.size = 1) (hby : i.bytes = bytes) (hzs : z.cells.size = 1)
    (hs : a.eval s = v) (hvx : a.eval x = vx) (h : At w0 (row e 1 v n xs * R) w) (hx : Rd w vx ys) (h1 : ∀ u ∈ ys, u.oneCell' = true)
    (h63 : n + ys.length ≤ maxLen) (hbytes : (n + ys.length) * bytes ≤ 140737488355328)
    (hK : ∀ ar cp w', At w0 (row e 1 (.slice ar (n + ys.length) cp) (n + ys.length) (xs ++ ys) * R) w' → wpList P ops Q rest (a.put o.dst (.slice ar (n + ys.length) cp)) w') : wpList P ops Q (o :: rest) a w :=
  wpList_plain hgd fun _ hK' => wp_append_rd s x t ho e i z bytes ht hi hz hsize hby hzs hs hvx h hx h1 h63 hbytes _ _ rfl rfl fun ar cp w' h2 => hK' _ _ (hK ar cp w' h2)
theorem wpList_append_rdm {rest : List Oper} (hgd : o.guard = none) (s x : Operand) (t : TypeId)
    (ho : o.op = .call { callee := .builtin .append, args := #[s, x], argTypes := #[t, t] })
    (e : TypeId) (i : TypeInfo) (z : Value) (bytes : Nat) (ht : P.underlying t = some (.slice e)) (hi : P.info? e = some i) (hz : i.zero = some z)
    (hsize : i.size = 1) (hby : i.bytes = bytes) (hzs : z.cells.size = 1)
    (hs : a.eval s = v) (hvx : a.eval x = vx) (h : At w0 (row e 1 v n xs * R) w) (hx : Rd w vx ys) (h1 : ∀ u ∈ ys, u.oneCell' = true)
    (h63 : n + ys.length ≤ maxLen) (hbytes : (n + ys.length) * bytes ≤ 140737488355328) (m : Nat) (out : List Value) (hm : m = n + ys.length) (ho2 : out = xs ++ ys)
    (hK : ∀ ar cp w', At w0 (row e 1 (.slice ar m cp) m out * R) w' → wpList P ops Q rest (a.put o.dst (.slice ar m cp)) w') : wpList P ops Q (o :: rest) a w :=
  wpList_plain hgd fun _ hK' => wp_append_rd s x t ho e i z bytes ht hi hz hsize hby hzs hs hvx h hx h1 h63 hbytes m out hm ho2 fun ar cp w' h2 => hK' _ _ (hK ar cp w' h2)
theorem step_append_rd {E : Prop} (hg : o.guard = none) (s x : Operand) (t : TypeId)
    (ho : o.op = .call { callee := .builtin .append, args := #[s, x], argTypes := #[t, t] })
    (e : TypeId) (i : TypeInfo) (z : Value) (bytes : Nat) (ht : P.underlying t = some (.slice e)) (hi : P.info? e = some i) (hz : i.zero = some z)
    (hsize : i.size = 1) (hby : i.bytes = bytes) (hzs : z.cells.size = 1)
    (hs : a.eval s = v) (hvx : a.eval x = vx) (h : At w0 (row e 1 v n xs * R) w) (hx : Rd w vx ys) (h1 : ∀ u ∈ ys, u.oneCell' = true)
    (h63 : n + ys.length ≤ maxLen) (hbytes : (n + ys.length) * bytes ≤ 140737488355328) (m : Nat) (out : List Value) (hm : m = n + ys.length) (ho2 : out = xs ++ ys)
    (hK : ∀ ar cp w', At w0 (row e 1 (.slice ar m cp) m out * R) w' → K (a.put o.dst (.slice ar m cp)) w') :
    if Region.wanted o (yielded ops a.tmps) = true then Oper.wp P o a w K Q else E := by
  have hw : Region.wanted o (yielded ops a.tmps) = true := by simp [Region.wanted, hg]
  rw [if_pos hw]
  exact wp_append_rd s x t ho e i z bytes ht hi hz hsize hby hzs hs hvx h hx h1 h63 hbytes m out hm ho2 hK
theorem wp_append_txt (s x : Operand) (t u : TypeId)
    (ho : o.op = .call { callee := .builtin .append, args := #[s, x], argTypes := #[t, u] })
    (e : TypeId) (i : TypeInfo) (z : Value) (ht : P.underlying t = some (.slice e)) (hu : P.underlying u = some .string) (hi : P.info? e = some i) (hz : i.zero = some z)
    (hsize : i.size = 1) (hby : i.bytes = 1) (hzs : z.cells.size = 1) (txt : ByteArray)
    (hs : a.eval s = v) (hvx : a.eval x = .string txt) (h : At w0 (row e 1 v n xs * R) w) (h63 : n + txt.size ≤ 140737488355328) (m : Nat) (out : List Value) (hm : m = n + txt.size) (ho2 : out = xs ++ bys txt.data.toList)
    (hK : ∀ ar cp w', At w0 (row e 1 (.slice ar m cp) m out * R) w' → K (a.put o.dst (.slice ar m cp)) w') : o.wp P a w K Q := by
  subst hm ho2
  obtain ⟨v', w', hr, h2⟩ := run_append_txt (P := P) t u o.type e i z ht hu hi hz hsize hby hzs h txt h63
  unfold Oper.wp execOp
  simp only [ho, resolve, invoke, builtin, Sem.run_bind, Sem.run_pure, Result.andThen_ok, List.map_toArray, List.map_cons, List.map_nil, hs, hvx, hr]
  obtain ⟨ar, cp, rfl⟩ := h2.row_len
  exact hK ar cp w' h2
theorem wpList_append_txt {rest : List Oper} (hgd : o.guard = none) (s x : Operand) (t u : TypeId)
    (ho : o.op = .call { callee := .builtin .append, args := #[s, x], argTypes := #[t, u] })
    (e : TypeId) (i : TypeInfo) (z : Value) (ht : P.underlying t = some (.slice e)) (hu : P.underlying u = some .string) (hi : P.info? e = some i) (hz : i.zero = some z)
    (hsize : i.size = 1) (hby : i.bytes = 1) (hzs : z.cells.size = 1) (txt : ByteArray)
    (hs : a.eval s = v) (hvx : a.eval x = .string txt) (h : At w0 (row e 1 v n xs * R) w) (h63 : n + txt.size ≤ 140737488355328)
    (hK : ∀ ar cp w', At w0 (row e 1 (.slice ar (n + txt.size) cp) (n + txt.size) (xs ++ bys txt.data.toList) * R) w' → wpList P ops Q rest (a.put o.dst (.slice ar (n + txt.size) cp)) w') : wpList P ops Q (o :: rest) a w :=
  wpList_plain hgd fun _ hK' => wp_append_txt s x t u ho e i z ht hu hi hz hsize hby hzs txt hs hvx h h63 _ _ rfl rfl fun ar cp w' h2 => hK' _ _ (hK ar cp w' h2)
theorem step_append_txt {E : Prop} (hg : o.guard = none) (s x : Operand) (t u : TypeId)
    (ho : o.op = .call { callee := .builtin .append, args := #[s, x], argTypes := #[t, u] })
    (e : TypeId) (i : TypeInfo) (z : Value) (ht : P.underlying t = some (.slice e)) (hu : P.underlying u = some .string) (hi : P.info? e = some i) (hz : i.zero = some z)
    (hsize : i.size = 1) (hby : i.bytes = 1) (hzs : z.cells.size = 1) (txt : ByteArray)
    (hs : a.eval s = v) (hvx : a.eval x = .string txt) (h : At w0 (row e 1 v n xs * R) w) (h63 : n + txt.size ≤ 140737488355328) (m : Nat) (out : List Value) (hm : m = n + txt.size) (ho2 : out = xs ++ bys txt.data.toList)
    (hK : ∀ ar cp w', At w0 (row e 1 (.slice ar m cp) m out * R) w' → K (a.put o.dst (.slice ar m cp)) w') :
    if Region.wanted o (yielded ops a.tmps) = true then Oper.wp P o a w K Q else E := by
  have hw : Region.wanted o (yielded ops a.tmps) = true := by simp [Region.wanted, hg]
  rw [if_pos hw]
  exact wp_append_txt s x t u ho e i z ht hu hi hz hsize hby hzs txt hs hvx h h63 m out hm ho2 hK
theorem wpList_txt {rest : List Oper} (hgd : o.guard = none) (x : Operand) (src e dst : TypeId) (ho : o.op = .convert src dst x)
    (hs : P.underlying src = some (.slice e)) (he : P.underlying e = some (.int .u8)) (hd : P.underlying dst = some .string) {l : List UInt8}
    (hvx : a.eval x = vx) (h : Rd w vx (bys l))
    (hK : wpList P ops Q rest (a.put o.dst (str l)) w) : wpList P ops Q (o :: rest) a w := by
  refine wpList_plain hgd fun K hK' => ?_
  have hr := run_txt (P := P) src e dst hs he hd h
  unfold Oper.wp execOp
  simp only [ho, Sem.run_bind, Sem.run_pure, Result.andThen_ok, hvx, hr]
  exact hK' _ _ hK
end
end Go.Proofs.Ytmlifjfgelfbbaa

/-! ## Nu -/
namespace Go.Proofs.Ytmlifjfgelfbbaa
open Go Go.RowKit

/-- A number in n bytes. -/
def be : Nat → Nat → List UInt8
  | 0, _ => []
  | k + 1, x => UInt8.ofNat (x / 256 ^ k) :: be k x
/-- What bytes say. -/
def num (l : List UInt8) : Nat := l.foldl (fun x c => x * 256 + c.toNat) 0
theorem be_len : ∀ k x, (be k x).length = k
  | 0, _ => rfl
  | k + 1, x => by rw [be, List.length_cons, be_len]
theorem num_snoc (l : List UInt8) (c : UInt8) : num (l ++ [c]) = num l * 256 + c.toNat := by
  unfold num
  rw [List.foldl_append]
  rfl
theorem foldl_num (l : List UInt8) : ∀ x, l.foldl (fun x c => x * 256 + c.toNat) x = x * 256 ^ l.length + num l := by
  induction l with
  | nil => intro x; simp [num]
  | cons c l ih =>
    intro x
    rw [List.foldl_cons, ih, List.length_cons]
    have : num (c :: l) = c.toNat * 256 ^ l.length + num l := by
      unfold num
      rw [List.foldl_cons, ih, Nat.zero_mul, Nat.zero_add]
      rfl
    rw [this, Nat.pow_succ, Nat.add_mul, Nat.mul_assoc, Nat.mul_comm 256]
    omega
theorem num_cons (c : UInt8) (l : List UInt8) : num (c :: l) = c.toNat * 256 ^ l.length + num l := by
  unfold num
  rw [List.foldl_cons, foldl_num, Nat.zero_mul, Nat.zero_add]
  rfl
theorem num_lt : ∀ (l : List UInt8), num l < 256 ^ l.length
  | [] => by simp [num]
  | c :: l => by
    rw [num_cons, List.length_cons, Nat.pow_succ]
    have h1 := num_lt l
    have h2 : c.toNat < 256 := c.toNat_lt
    have h3 : c.toNat * 256 ^ l.length ≤ 255 * 256 ^ l.length := Nat.mul_le_mul_right _ (by omega)
    omega
theorem num_be : ∀ {k x : Nat}, x < 256 ^ k → num (be k x) = x := by
  intro k
  have h : ∀ x, num (be k x) = x % 256 ^ k := by
    induction k with
    | zero => intro x; simp [be, num, Nat.mod_one]
    | succ k ih =>
      intro x
      rw [be, num_cons, ih, be_len, UInt8.toNat_ofNat']
      have h1 : x % 256 ^ (k + 1) = 256 ^ k * (x / 256 ^ k % 256) + x % 256 ^ k := by
        rw [Nat.pow_succ, Nat.mod_mul]
        omega
      rw [h1, Nat.mul_comm]
  intro x hx
  rw [h, Nat.mod_eq_of_lt hx]
theorem be_mod (k x : Nat) : ∀ j, k ≤ j → be k (x % 256 ^ j) = be k x := by
  induction k with
  | zero => intro j _; rfl
  | succ k ih =>
    intro j hj
    rw [be, be, ih j (by omega)]
    congr 1
    apply UInt8.toNat_inj.1
    rw [UInt8.toNat_ofNat', UInt8.toNat_ofNat']
    have e : 256 ^ j = 256 ^ k * 256 * 256 ^ (j - k - 1) := by
      rw [← Nat.pow_succ, ← Nat.pow_add]
      congr 1
      omega
    rw [e, Nat.mul_assoc, Nat.mod_mul_right_div_self, Nat.mod_mul_right_mod]
theorem be_num (l : List UInt8) : be l.length (num l) = l := by
  induction l with
  | nil => rfl
  | cons c l ih =>
    rw [List.length_cons, be, num_cons]
    have hl := num_lt l
    congr 1
    · apply UInt8.toNat_inj.1
      rw [UInt8.toNat_ofNat', Nat.add_comm, Nat.add_mul_div_right _ _ (Nat.pow_pos (by decide)), Nat.div_eq_of_lt hl, Nat.zero_add]
      exact Nat.mod_eq_of_lt c.toNat_lt
    · rw [← be_mod l.length _ l.length (Nat.le_refl _), Nat.add_comm, Nat.add_mul_mod_self_right, be_mod _ _ _ (Nat.le_refl _)]
      exact ih
theorem be_ext {k x y : Nat} (hx : x < 256 ^ k) (hy : y < 256 ^ k) (h : be k x = be k y) : x = y := by
  rw [← num_be hx, ← num_be hy, h]

/-- A byte of a number, as Go makes it. -/
theorem byte_shr (x k : Nat) : Value.int .u8 ((x : Int) / 2 ^ (8 * k) % 256) = byv (UInt8.ofNat (x / 256 ^ k)) := by
  unfold byv
  rw [UInt8.toNat_ofNat', show (256 : Nat) = 2 ^ 8 from rfl, ← Nat.pow_mul]
  congr 1
/-- A byte more, as Go makes it. -/
theorem or_byte (x : Nat) (c : UInt8) : x * 256 ||| c.toNat = x * 256 + c.toNat := by
  have := Nat.shiftLeft_add_eq_or_of_lt (i := 8) (b := c.toNat) (by exact c.toNat_lt) x
  rw [Nat.shiftLeft_eq] at this
  exact this.symm
theorem wrap_u64 {x : Int} (h0 : 0 ≤ x) (h : x < 18446744073709551616) : IntKind.u64.wrap x = x := by
  simp only [IntKind.wrap, IntKind.signed, IntKind.bits]
  simp
  omega
theorem or_u64 (x y : Nat) (hx : x < 256 ^ 7) (hy : y < 256) (ho : x * 256 ||| y = x * 256 + y) : bits .or .u64 (IntKind.u64.wrap ((x : Int) * 256)) (y : Int) = ((x * 256 + y : Nat) : Int) := by
  have h7 : (256 : Nat) ^ 7 = 72057594037927936 := by decide
  rw [wrap_u64 (by omega) (by omega)]
  show IntKind.u64.wrap ((BitVec.ofInt 64 ((x : Int) * 256) ||| BitVec.ofInt 64 (y : Int)).toNat : Int) = _
  have e : (BitVec.ofInt 64 ((x : Int) * 256) ||| BitVec.ofInt 64 (y : Int)).toNat = x * 256 + y := by
    rw [BitVec.toNat_or, ← ho]
    have h1 : (BitVec.ofInt 64 ((x : Int) * 256)).toNat = x * 256 := by
      rw [BitVec.toNat_ofInt]
      omega
    have h2 : (BitVec.ofInt 64 (y : Int)).toNat = y := by
      rw [BitVec.toNat_ofInt]
      omega
    rw [h1, h2]
  rw [e, wrap_u64 (by omega) (by omega)]
end Go.Proofs.Ytmlifjfgelfbbaa

/-! ## Az -/
namespace Go.Proofs.Ytmlifjfgelfbbaa
open Go Go.RowKit

section
variable {w0 w : World} {R : HP} {v : Value} {n : Nat} {xs : List Value}
theorem zeroCells_u8 (k : Nat) : Builtin.zeroCells (Value.int .u8 0).cells k = (List.replicate k (Value.int .u8 0)).toArray := by
  have hs : (Value.int .u8 0).cells = #[Value.int .u8 0] := rfl
  rw [hs]
  unfold Builtin.zeroCells
  apply Array.ext'
  simp only [Array.toList_map, Array.toList_range]
  rw [show k * (#[Value.int .u8 0] : Array Value).size = k by simp]
  apply List.ext_getElem
  · simp
  · intro j h1 h2
    simp [Nat.mod_one]
theorem run_append_row_zeros {P : Program} (t tn ty e : TypeId) (i : TypeInfo) (kq kn : IntKind) (ht : P.underlying t = some (.slice e)) (htn : P.underlying tn = some (.int kn)) (hi : P.info? e = some i) (hz : i.zero = some (.int .u8 0))
    (hsize : i.size = 1) (hby : i.bytes = 1) (h : At w0 (row e 1 v n xs * R) w) (k : Nat) (h63 : n + k ≤ 1000000000) :
    ∃ v' w', (Builtin.append_ #[t, tn] ty #[v, .int kq k]).run P w = .ok v' w' ∧ At w0 (row e 1 v' (n + k) (xs ++ List.replicate k (.int .u8 0)) * R) w' := by
  have hlx := h.row_cases.1
  rw [Nat.mul_one] at hlx
  have hlen : (xs ++ List.replicate k (Value.int .u8 0)).length = n + k := by rw [List.length_append, hlx, List.length_replicate]
  have hone : ∀ u ∈ List.replicate k (Value.int .u8 0), u.oneCell' = true := fun u hu => by
    rw [(List.mem_replicate.1 hu).2]
    rfl
  have hw : IntKind.i64.wrap (k : Int) = k := by rw [IntKind.wrap_i64]; omega
  have hneg : ¬ ((k : Int) < 0) := by omega
  have hw0 : IntKind.i64.wrap 0 = 0 := by decide
  have h48 : ¬ (281474976710656 < (k : Int) * (1 : Nat)) := by omega
  have grown : ∀ (old : Nat), At w0 R w →
      At w0 (row e 1 (.slice (some ⟨w.heap.size, 0, none⟩) (n + k) (grownCap w (n + k) old e)) (n + k) (xs ++ List.replicate k (.int .u8 0)) * R)
        (w.drew.alloc (.cells (xs.toArray ++ Builtin.zeroCells (Value.int .u8 0).cells k ++ Builtin.zeroCells (Value.int .u8 0).cells (grownCap w (n + k) old e - (n + k))) e)) := by
    intro old hR
    have hge := grownCap_ge w (n + k) old e
    have hcm : grownCap w (n + k) old e ≤ maxLen := grownCap_le_maxLen w (n + k) old e (by unfold maxLen; omega)
    refine At.mkrow (hR.drew.alloc _) hge hcm (Nat.le_of_eq ?_) ?_
    · simp only [zeroCells_u8, Array.size_append, List.size_toArray, hlx, List.length_replicate]
      omega
    · simp only [zeroCells_u8, Array.toList_append, List.append_assoc]
      rw [← List.append_assoc, Nat.mul_one, ← hlen]
      exact List.take_left
  rcases h.row_cases.2 with ⟨rfl, rfl, rfl, hR⟩ | ⟨g, cap, cur, rfl, hnc, hcm, hcs, htake, hat⟩
  · by_cases hk : k = 0
    · subst hk
      refine ⟨.slice none 0 0, w, ?_, hR.row_nil _ _⟩
      simp [Builtin.append_, run_underlying ht, run_underlying htn, sizeOf, typeInfo, hi, asInt, asIntOf, hw0, hby]
    · have hr := Lib.run_append_nil_zeros (P := P) w t tn ty e i (.int .u8 0) kq kn ht htn hi hz k (by omega) (by omega) (by omega) (by rw [hby]; omega)
      have hgr := grown 0 hR
      simp only [Nat.zero_add, List.nil_append, Array.empty_append] at hgr ⊢
      exact ⟨_, _, hr, hgr⟩
  · rw [Nat.mul_one] at hcs
    by_cases hroom : n + k ≤ cap
    · have hst := run_storeCells_at (P := P) g n e (List.replicate k (Value.int .u8 0)) 0 cur w (At.blk (o := .cells cur e) hat) (by rw [List.length_replicate]; omega) hone
      refine ⟨.slice (some ⟨g, 0, none⟩) (n + k) cap, _, ?_, At.mkrow (hat.setRow (cur.toList.take (n + 0) ++ List.replicate k (Value.int .u8 0) ++ cur.toList.drop (n + 0 + (List.replicate k (Value.int .u8 0)).length)).toArray) hroom hcm ?_ ?_⟩
      · have hadd : (⟨g, 0, none⟩ : Addr).add n = ⟨g, n, none⟩ := by rw [Addr.add_lit, Nat.zero_add]
        by_cases hk : k = 0
        · subst hk
          simp [Builtin.append_, run_underlying ht, run_underlying htn, sizeOf, typeInfo, hi, asInt, asIntOf, hw0, hby, hsize, hnc, hadd] at hst ⊢
          rw [hst]
          rfl
        · have hns : ¬ (k * i.size = 0) := Nat.mul_ne_zero hk (by omega)
          simp only [Nat.add_zero] at hst ⊢
          simp [Builtin.append_, run_underlying ht, run_underlying htn, sizeOf, typeInfo, zeroValue, hi, hz, asInt, asIntOf, hw, hneg, hby, hsize, hroom, hadd, zeroCells_u8, hk] at hst ⊢
          rw [if_neg (by omega), hst]
          rfl
      · simp only [List.size_toArray, List.length_append, List.length_take, List.length_drop, Array.length_toList, List.length_replicate, Nat.mul_one]
        omega
      · rw [Nat.mul_one] at htake
        simp only [Nat.add_zero]
        rw [htake, Nat.mul_one, ← hlen]
        exact List.take_left
    · have hold : (Builtin.firstCells i.size n (.slice (some ⟨g, 0, none⟩) n cap)).run P w.drew = .ok xs.toArray w.drew := by
        refine run_firstCells_some (P := P) w.drew i.size n ⟨g, 0, none⟩ n cap xs (by rw [hsize, hlx]; omega) fun j u hu => ?_
        rw [Addr.add_lit, Nat.zero_add]
        exact (h.drew.row_cell rfl hu).2
      have hfit : Builtin.nextslicecap (n + k) cap * i.bytes ≤ 281474976710656 := growslice_fits (by omega) (by rw [hby]; omega)
      have hr := Lib.run_append_grow_zeros (P := P) w t tn ty e i (.int .u8 0) kq kn ht htn hi hz (some ⟨g, 0, none⟩) n cap xs hold k (by omega) (by omega) (by omega) (by omega) (by rw [hby]; omega) hfit
      exact ⟨_, _, hr, grown cap hat.r⟩
variable {P : Program} {ops : Array Oper} {rest : List Oper} {o : Oper} {a : Act} {Q : Exit → Act → World → Prop}
theorem wpList_append_zeros (hgd : o.guard = none) (s x : Operand) (t tn : TypeId)
    (ho : o.op = .call { callee := .builtin .append, args := #[s, x], argTypes := #[t, tn] })
    (e : TypeId) (i : TypeInfo) (kq kn : IntKind) (ht : P.underlying t = some (.slice e)) (htn : P.underlying tn = some (.int kn)) (hi : P.info? e = some i) (hz : i.zero = some (.int .u8 0)) (hsize : i.size = 1) (hby : i.bytes = 1)
    {bs : List UInt8} {k : Nat} (hs : a.eval s = v) (h : At w0 (row e 1 v n (bys bs) * R) w) (hx : a.eval x = .int kq k) (h63 : n + k ≤ 1000000000)
    (hK : ∀ ar cp w', At w0 (row e 1 (.slice ar (n + k) cp) (n + k) (bys (bs ++ List.replicate k 0)) * R) w' → wpList P ops Q rest (a.put o.dst (.slice ar (n + k) cp)) w') : wpList P ops Q (o :: rest) a w := by
  obtain ⟨v', w', hr, h2⟩ := run_append_row_zeros (P := P) t tn o.type e i kq kn ht htn hi hz hsize hby h k h63
  refine Lib.wpList_append_run w hgd s x t tn ho v _ hs hx v' w' hr ?_
  obtain ⟨ar, cp, rfl⟩ := h2.row_len
  refine hK ar cp w' ?_
  rw [bys_append]
  have : bys (List.replicate k 0) = List.replicate k (Value.int .u8 0) := by unfold bys; rw [List.map_replicate]; rfl
  rw [this]
  exact h2
end
end Go.Proofs.Ytmlifjfgelfbbaa

/-! ## Pq -/
namespace Go.Proofs.Ytmlifjfgelfbbaa
open Go Go.RowKit

/-- Zeros. -/
def zs (n : Nat) : List UInt8 := List.replicate n 0
theorem zs_len (n : Nat) : (zs n).length = n := by simp [zs]

/-! ### Rows -/
def rowEnc (t : Nat) (k v : List UInt8) : List UInt8 :=
  [1] ++ be 1 t ++ be 1 k.length ++ k ++ zs (15 - k.length) ++ be 1 v.length ++ v ++ zs (21 - v.length)
def rowT (b : List UInt8) : Nat := (b.getD 1 0).toNat
def rowK (b : List UInt8) : List UInt8 := (b.drop 3).take (min (b.getD 2 0).toNat 15)
def rowV (b : List UInt8) : List UInt8 := (b.drop 19).take (min (b.getD 18 0).toNat 21)
/-- What a slot's bytes tell: 0: a row; 5: none; 9: nothing. -/
def rowSt (b : List UInt8) : Nat := if b = zs 40 then 5 else if rowT b < 4 ∧ rowEnc (rowT b) (rowK b) (rowV b) = b then 0 else 9
theorem rowEnc_len {t : Nat} {k v : List UInt8} (hk : k.length ≤ 15) (hv : v.length ≤ 21) : (rowEnc t k v).length = 40 := by
  simp only [rowEnc, List.length_append, be_len, zs_len, List.length_cons, List.length_nil]
  omega
theorem be1 (x : Nat) : be 1 x = [UInt8.ofNat x] := by
  have h := be_num [UInt8.ofNat x]
  have e : be 1 (x % 256 ^ 1) = be 1 x := be_mod 1 x 1 (Nat.le_refl _)
  rw [← e]
  have e2 : num [UInt8.ofNat x] = x % 256 ^ 1 := by simp [num]
  rw [← e2]
  exact h
theorem u8n {x : Nat} (h : x < 256) : (UInt8.ofNat x).toNat = x := by
  rw [UInt8.toNat_ofNat']
  omega
theorem rowEnc_tells {t : Nat} {k v : List UInt8} (ht : t < 4) (hk : k.length ≤ 15) (hv : v.length ≤ 21) :
    rowT (rowEnc t k v) = t ∧ rowK (rowEnc t k v) = k ∧ rowV (rowEnc t k v) = v ∧ rowEnc t k v ≠ zs 40 ∧ rowSt (rowEnc t k v) = 0 := by
  have e : rowEnc t k v = 1 :: UInt8.ofNat t :: UInt8.ofNat k.length :: (k ++ (zs (15 - k.length) ++ (UInt8.ofNat v.length :: (v ++ zs (21 - v.length))))) := by
    simp only [rowEnc, be1, List.cons_append, List.nil_append, List.append_assoc]
  have h1 : rowT (rowEnc t k v) = t := by
    rw [e]
    show (UInt8.ofNat t).toNat = t
    exact u8n (by omega)
  have h2 : rowK (rowEnc t k v) = k := by
    unfold rowK
    rw [e]
    show (k ++ _).take (min (UInt8.ofNat k.length).toNat 15) = k
    rw [u8n (by omega), Nat.min_eq_left hk]
    exact List.take_left
  have hd : (rowEnc t k v).drop 18 = UInt8.ofNat v.length :: (v ++ zs (21 - v.length)) := by
    rw [e]
    show (k ++ (zs (15 - k.length) ++ (UInt8.ofNat v.length :: (v ++ zs (21 - v.length))))).drop 15 = _
    rw [← List.append_assoc]
    have hl : (k ++ zs (15 - k.length)).length = 15 := by rw [List.length_append, zs_len]; omega
    have := List.drop_left (l₁ := k ++ zs (15 - k.length)) (l₂ := UInt8.ofNat v.length :: (v ++ zs (21 - v.length)))
    rw [hl] at this
    exact this
  have h3 : rowV (rowEnc t k v) = v := by
    have g : (rowEnc t k v).getD 18 0 = UInt8.ofNat v.length := by
      have : (rowEnc t k v)[18]? = ((rowEnc t k v).drop 18)[0]? := by simp
      rw [List.getD_eq_getElem?_getD, this, hd]
      rfl
    have g2 : (rowEnc t k v).drop 19 = v ++ zs (21 - v.length) := by
      rw [show (19 : Nat) = 18 + 1 from rfl, ← List.drop_drop, hd]
      rfl
    unfold rowV
    rw [g, g2, u8n (by omega), Nat.min_eq_left hv]
    exact List.take_left
  have h4 : rowEnc t k v ≠ zs 40 := by
    rw [e]
    intro h
    have := congrArg (·.head?) h
    simp [zs, List.replicate] at this
  refine ⟨h1, h2, h3, h4, ?_⟩
  unfold rowSt
  rw [if_neg h4, h1, h2, h3, if_pos ⟨ht, rfl⟩]
theorem rowSt_zs : rowSt (zs 40) = 5 := if_pos rfl

/-! ### Pages -/
/-- A page: its mark, whose it is, its number, its slots' bytes. -/
structure Pg where
  mark : Nat
  tenant : Nat
  number : Nat
  slots : List UInt8
structure Pg.Wf (p : Pg) : Prop where
  slots : p.slots.length = 200
  mark : p.mark < 2 ^ 64
  tenant : p.tenant < 65536
  number : p.number < 65536
def Pg.body (p : Pg) : List UInt8 := be 2 p.tenant ++ be 2 p.number ++ p.slots ++ zs 20
def Pg.sec (p : Pg) (i : Nat) : List UInt8 := be 8 p.mark ++ (p.body.drop (i * 56)).take 56
def Pg.enc (p : Pg) : List UInt8 := if p.mark = 0 then zs 256 else p.sec 0 ++ p.sec 1 ++ p.sec 2 ++ p.sec 3
theorem Pg.body_len {p : Pg} (h : p.Wf) : p.body.length = 224 := by
  simp only [Pg.body, List.length_append, be_len, zs_len, h.slots]
theorem Pg.sec_len {p : Pg} (h : p.Wf) {i : Nat} (hi : i < 4) : (p.sec i).length = 64 := by
  simp only [Pg.sec, List.length_append, be_len, List.length_take, List.length_drop, p.body_len h]
  omega
theorem Pg.enc_len {p : Pg} (h : p.Wf) : p.enc.length = 256 := by
  unfold Pg.enc
  split
  · exact zs_len _
  · simp only [List.length_append, Pg.sec_len h (show 0 < 4 by omega), Pg.sec_len h (show 1 < 4 by omega), Pg.sec_len h (show 2 < 4 by omega), Pg.sec_len h (show 3 < 4 by omega)]
/-- What stands behind the marks. -/
def loads (b : List UInt8) : List UInt8 := (b.drop 8).take 56 ++ (b.drop 72).take 56 ++ (b.drop 136).take 56 ++ (b.drop 200).take 56
def slotAt (s : List UInt8) (i : Nat) : List UInt8 := (s.drop (i * 40)).take 40
/-- The page that bytes would be. -/
def Pg.dec (b : List UInt8) (t n : Nat) : Pg := ⟨num (b.take 8), t, n, if num (b.take 8) = 0 then zs 200 else ((loads b).drop 4).take 200⟩
/-- Are they? -/
def decOk (b : List UInt8) (t n : Nat) : Bool :=
  (decide (num (b.take 8) = 0) || (decide (num ((loads b).take 2) = t) && decide (num (((loads b).drop 2).take 2) = n))) && (decide ((Pg.dec b t n).enc = b) && (List.range 5).all fun i => decide (rowSt (slotAt (Pg.dec b t n).slots i) ≠ 9))
/-- Bytes of sectors, cut out of four. -/
theorem four {a b c d : List UInt8} (ha : a.length = 64) (hb : b.length = 64) (hc : c.length = 64) :
    (a ++ b ++ c ++ d).drop 8 = a.drop 8 ++ (b ++ c ++ d) ∧ (a ++ b ++ c ++ d).drop 72 = b.drop 8 ++ (c ++ d) ∧ (a ++ b ++ c ++ d).drop 136 = c.drop 8 ++ d ∧ (a ++ b ++ c ++ d).drop 200 = d.drop 8 := by
  have d1 : ∀ (x y : List UInt8) (k : Nat), x.length = 64 → (x ++ y).drop (64 + k) = y.drop k := fun x y k hx => by
    rw [← List.drop_drop]
    congr 1
    have := List.drop_left (l₁ := x) (l₂ := y)
    rwa [hx] at this
  have d0 : ∀ (x y : List UInt8), x.length = 64 → (x ++ y).drop 8 = x.drop 8 ++ y := fun x y hx => List.drop_append_of_le_length (by omega)
  have e : a ++ b ++ c ++ d = a ++ (b ++ (c ++ d)) := by simp only [List.append_assoc]
  rw [e]
  refine ⟨?_, ?_, ?_, ?_⟩
  · rw [d0 a _ ha]; simp only [List.append_assoc]
  · rw [show (72 : Nat) = 64 + 8 from rfl, d1 a _ 8 ha, d0 b _ hb]
  · rw [show (136 : Nat) = 64 + (64 + 8) from rfl, d1 a _ _ ha, d1 b _ _ hb, d0 c _ hc]
  · rw [show (200 : Nat) = 64 + (64 + (64 + 8)) from rfl, d1 a _ _ ha, d1 b _ _ hb, d1 c _ _ hc]
theorem Pg.sec_drop {p : Pg} (i : Nat) : (p.sec i).drop 8 = (p.body.drop (i * 56)).take 56 := by
  unfold Pg.sec
  have := List.drop_left (l₁ := be 8 p.mark) (l₂ := (p.body.drop (i * 56)).take 56)
  rwa [be_len] at this
theorem Pg.enc_loads {p : Pg} (h : p.Wf) (h0 : p.mark ≠ 0) : loads p.enc = p.body ∧ num (p.enc.take 8) = p.mark := by
  have l0 := p.sec_len h (show 0 < 4 by omega)
  have l1 := p.sec_len h (show 1 < 4 by omega)
  have l2 := p.sec_len h (show 2 < 4 by omega)
  have l3 := p.sec_len h (show 3 < 4 by omega)
  have e : p.enc = p.sec 0 ++ p.sec 1 ++ p.sec 2 ++ p.sec 3 := if_neg h0
  obtain ⟨f0, f1, f2, f3⟩ := four (d := p.sec 3) l0 l1 l2
  constructor
  · unfold loads
    rw [e, f0, f1, f2, f3, Pg.sec_drop, Pg.sec_drop, Pg.sec_drop, Pg.sec_drop]
    have hb := p.body_len h
    have t : ∀ (i : Nat) (r : List UInt8), i < 4 → ((p.body.drop (i * 56)).take 56 ++ r).take 56 = (p.body.drop (i * 56)).take 56 := fun i r hi => by
      have hl : ((p.body.drop (i * 56)).take 56).length = 56 := by rw [List.length_take, List.length_drop, hb]; omega
      have := List.take_left (l₁ := (p.body.drop (i * 56)).take 56) (l₂ := r)
      rwa [hl] at this
    rw [t 0 _ (by omega), t 1 _ (by omega), t 2 _ (by omega), List.take_take, Nat.min_self]
    have s : ∀ (l : List UInt8) (k : Nat), (l.drop k).take 56 ++ l.drop (k + 56) = l.drop k := fun l k => by
      rw [← List.drop_drop]
      exact List.take_append_drop 56 (l.drop k)
    have q3 : (p.body.drop (3 * 56)).take 56 = p.body.drop 168 := List.take_of_length_le (by rw [List.length_drop, hb]; decide)
    rw [q3]
    have a2 := s p.body 112
    have a1 := s p.body 56
    have a0 := s p.body 0
    simp only [List.drop_zero, Nat.zero_add] at a0
    simp only [Nat.zero_mul, List.drop_zero, Nat.one_mul, show 2 * 56 = 112 from rfl, List.append_assoc]
    rw [a2, a1, a0]
  · rw [e]
    have : (p.sec 0 ++ p.sec 1 ++ p.sec 2 ++ p.sec 3).take 8 = be 8 p.mark := by
      unfold Pg.sec
      simp only [List.append_assoc]
      have := List.take_left (l₁ := be 8 p.mark) (l₂ := (p.body.drop (0 * 56)).take 56 ++ (be 8 p.mark ++ ((p.body.drop (1 * 56)).take 56 ++ (be 8 p.mark ++ ((p.body.drop (2 * 56)).take 56 ++ (be 8 p.mark ++ (p.body.drop (3 * 56)).take 56))))))
      rwa [be_len] at this
    rw [this, num_be h.mark]
/-- A page's bytes tell it. -/
theorem Pg.dec_enc {p : Pg} (h : p.Wf) (hz : p.mark = 0 → p.slots = zs 200) (hr : ∀ i, i < 5 → rowSt (slotAt p.slots i) ≠ 9) :
    Pg.dec p.enc p.tenant p.number = p ∧ decOk p.enc p.tenant p.number = true := by
  have hd : Pg.dec p.enc p.tenant p.number = p := by
    by_cases h0 : p.mark = 0
    · have e : p.enc = zs 256 := if_pos h0
      have n0 : num ((zs 256).take 8) = 0 := by decide
      unfold Pg.dec
      rw [e, n0, if_pos rfl, ← hz h0, ← h0]
    · obtain ⟨e1, e2⟩ := p.enc_loads h h0
      unfold Pg.dec
      rw [e2, if_neg h0, e1]
      have : (p.body.drop 4).take 200 = p.slots := by
        unfold Pg.body
        have hl : (be 2 p.tenant ++ be 2 p.number).length = 4 := by rw [List.length_append, be_len, be_len]
        rw [List.append_assoc]
        have := List.drop_left (l₁ := be 2 p.tenant ++ be 2 p.number) (l₂ := p.slots ++ zs 20)
        rw [hl] at this
        rw [this]
        have := List.take_left (l₁ := p.slots) (l₂ := zs 20)
        rwa [h.slots] at this
      rw [this]
  refine ⟨hd, ?_⟩
  unfold decOk
  rw [hd]
  simp only [Bool.and_eq_true, Bool.or_eq_true, decide_eq_true_eq, List.all_eq_true, List.mem_range]
  refine ⟨?_, trivial, hr⟩
  by_cases h0 : p.mark = 0
  · left
    have e : p.enc = zs 256 := if_pos h0
    rw [e]
    decide
  · right
    obtain ⟨e1, _⟩ := p.enc_loads h h0
    rw [e1]
    unfold Pg.body
    constructor
    · have : (be 2 p.tenant ++ be 2 p.number ++ p.slots ++ zs 20).take 2 = be 2 p.tenant := by
        simp only [List.append_assoc]
        have := List.take_left (l₁ := be 2 p.tenant) (l₂ := be 2 p.number ++ (p.slots ++ zs 20))
        rwa [be_len] at this
      rw [this, num_be h.tenant]
    · have : ((be 2 p.tenant ++ be 2 p.number ++ p.slots ++ zs 20).drop 2).take 2 = be 2 p.number := by
        simp only [List.append_assoc]
        have := List.drop_left (l₁ := be 2 p.tenant) (l₂ := be 2 p.number ++ (p.slots ++ zs 20))
        rw [be_len] at this
        rw [this]
        have := List.take_left (l₁ := be 2 p.number) (l₂ := p.slots ++ zs 20)
        rwa [be_len] at this
      rw [this, num_be h.number]
end Go.Proofs.Ytmlifjfgelfbbaa
