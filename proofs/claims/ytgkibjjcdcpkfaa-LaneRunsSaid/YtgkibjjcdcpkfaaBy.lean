/-
  Rows of bytes, and slices that are only read, in the logic of separate blocks. Laws of the model's memory; no statement.
-/
import Derived.Test.YtgkibjjcdcpkfaaSl
import Derived.Test.YtgkibjjcdcpkfaaRh
import Derived.Lib.AppendStr
import Derived.Laws.BytesArg
import Derived.Laws.CopyRow
namespace Go.Proofs.Ytgkibjjcdcpkfaa
open Go Go.RowKit

def byv (b : UInt8) : Value := .int .u8 (b.toNat : Int)
def bys (l : List UInt8) : List Value := l.map byv
theorem bys_len (l : List UInt8) : (bys l).length = l.length := by simp [bys]
theorem bys_append (a b : List UInt8) : bys (a ++ b) = bys a ++ bys b := by simp [bys]
theorem bys_nil : bys [] = [] := rfl
theorem bys_one (l : List UInt8) : ∀ u ∈ bys l, u.oneCell' = true := by
  intro u hu
  simp only [bys, List.mem_map] at hu
  obtain ⟨b, _, rfl⟩ := hu
  rfl
theorem bys_take (l : List UInt8) (k : Nat) : (bys l).take k = bys (l.take k) := by simp [bys]
theorem bys_drop (l : List UInt8) (k : Nat) : (bys l).drop k = bys (l.drop k) := by simp [bys]
theorem bys_str (s : ByteArray) : Lib.strCells s = bys s.data.toList := rfl
theorem byv_inj {a b : UInt8} (h : byv a = byv b) : a = b := by
  unfold byv at h
  simp only [Value.int.injEq, true_and] at h
  exact UInt8.toNat_inj.1 (by omega)
theorem bys_inj {a b : List UInt8} (h : bys a = bys b) : a = b := by
  induction a generalizing b with
  | nil => cases b with
    | nil => rfl
    | cons y b => cases h
  | cons x a ih => cases b with
    | nil => cases h
    | cons y b =>
      simp only [bys, List.map_cons, List.cons.injEq] at h
      rw [byv_inj h.1, ih h.2]
/-- A text of these bytes. -/
def str (l : List UInt8) : Value := .string ⟨l.toArray⟩

/-- v is a slice of one-cell elements that read as xs. -/
def Rd (w : World) (v : Value) (xs : List Value) : Prop :=
  (v = .slice none 0 0 ∧ xs = []) ∨ ∃ g o c, v = .slice (some ⟨g, o, none⟩) xs.length c ∧ xs.length ≤ c ∧ ∀ j u, xs[j]? = some u → w.cell? ⟨g, o + j, none⟩ = some u

section
variable {w0 w : World} {A B C R : HP} {e : TypeId} {v vx : Value} {n : Nat} {xs ys : List Value}

theorem Rd.nil (w : World) : Rd w (.slice none 0 0) [] := .inl ⟨rfl, rfl⟩
theorem Rd.val (h : Rd w v xs) : ∃ a c, v = .slice a xs.length c ∧ xs.length ≤ c := by
  rcases h with ⟨rfl, rfl⟩ | ⟨g, o, c, rfl, hc, _⟩
  · exact ⟨none, 0, rfl, Nat.le_refl _⟩
  · exact ⟨_, c, rfl, hc⟩
theorem At.rd (h : At w0 (row e 1 v n xs * R) w) : Rd w v xs := by
  obtain ⟨hl, hc⟩ := h.row_cases
  rw [Nat.mul_one] at hl
  rcases hc with ⟨rfl, rfl, rfl, _⟩ | ⟨g, cap, cur, rfl, h1, _, _, _, _⟩
  · exact .inl ⟨rfl, rfl⟩
  · exact .inr ⟨g, 0, cap, by rw [hl], by omega, fun j u hu => by rw [Nat.zero_add]; exact (h.row_cell rfl hu).2⟩
theorem At.row_n (h : At w0 (row e 1 v n xs * R) w) : xs.length = n := by
  have := h.row_cases.1
  omega
/-- The rest of a slice, as the model cuts it. -/
theorem Rd.drop {a : Option Addr} {m c k : Nat} (h : Rd w (.slice a m c) xs) (hk : k ≤ m) : Rd w (.slice (if c = k then a else a.map (·.add (k * 1))) (m - k) (c - k)) (xs.drop k) := by
  rcases h with ⟨hv, rfl⟩ | ⟨g, o, c', hv, hc, hx⟩
  · simp only [Value.slice.injEq] at hv
    obtain ⟨rfl, rfl, rfl⟩ := hv
    exact .inl ⟨by simp, by simp⟩
  · simp only [Value.slice.injEq] at hv
    obtain ⟨rfl, rfl, rfl⟩ := hv
    by_cases hck : c = k
    · rw [if_pos hck]
      have e : xs.drop k = [] := List.drop_eq_nil_of_le (by omega)
      rw [e]
      refine .inr ⟨g, o, c - k, by simp; omega, by simp, fun j u hu => by simp at hu⟩
    · rw [if_neg hck]
      refine .inr ⟨g, o + k, c - k, by simp [Addr.add_lit], by simp; omega, fun j u hu => ?_⟩
      rw [List.getElem?_drop] at hu
      rw [Nat.add_assoc]
      exact hx _ _ hu
/-- The beginning of a slice. -/
theorem Rd.take {a : Option Addr} {m c k : Nat} (h : Rd w (.slice a m c) xs) (hk : k ≤ m) : Rd w (.slice a k c) (xs.take k) := by
  rcases h with ⟨hv, rfl⟩ | ⟨g, o, c', hv, hc, hx⟩
  · simp only [Value.slice.injEq] at hv
    obtain ⟨rfl, rfl, rfl⟩ := hv
    obtain rfl : k = 0 := by omega
    exact .inl ⟨rfl, by simp⟩
  · simp only [Value.slice.injEq] at hv
    obtain ⟨rfl, rfl, rfl⟩ := hv
    have hl : (xs.take k).length = k := by rw [List.length_take]; omega
    refine .inr ⟨g, o, c, by rw [hl], by omega, fun j u hu => ?_⟩
    rw [List.getElem?_take] at hu
    split at hu
    · exact hx _ _ hu
    · cases hu
theorem Rd.get {a : Option Addr} {m c : Nat} (h : Rd w (.slice a m c) xs) (hn : 0 < m) : ∃ g o, a = some ⟨g, o, none⟩ ∧ ∀ j u, xs[j]? = some u → w.cell? ⟨g, o + j, none⟩ = some u := by
  rcases h with ⟨hv, rfl⟩ | ⟨g, o, c', hv, hc, hx⟩
  · simp only [Value.slice.injEq] at hv
    omega
  · simp only [Value.slice.injEq] at hv
    exact ⟨g, o, hv.1, hx⟩
theorem Rd.len {a : Option Addr} {m c : Nat} (h : Rd w (.slice a m c) xs) : m = xs.length ∧ m ≤ c := by
  rcases h with ⟨hv, rfl⟩ | ⟨g, o, c', hv, hc, hx⟩
  · simp only [Value.slice.injEq] at hv
    exact ⟨hv.2.1, by omega⟩
  · simp only [Value.slice.injEq] at hv
    obtain ⟨rfl, rfl, rfl⟩ := hv
    exact ⟨rfl, hc⟩

/-- A slice that was just laid. -/
theorem Rd.new (w : World) (xs : List Value) (e : TypeId) {b m : Nat} (hb : b = w.heap.size) (hm : m = xs.length) : Rd (w.alloc (.cells xs.toArray e)) (.slice (some ⟨b, 0, none⟩) m m) xs := by
  subst hm
  refine .inr ⟨b, 0, xs.length, rfl, Nat.le_refl _, fun j u hu => ?_⟩
  have := new_cells (w := w) (e := e) hb j u hu
  rw [Addr.add_lit] at this
  exact this

/-- 'append' of a slice that is read. -/
theorem run_append_rd {P : Program} (t ty e : TypeId) (i : TypeInfo) (z : Value) (bytes : Nat) (ht : P.underlying t = some (.slice e)) (hi : P.info? e = some i) (hz : i.zero = some z)
    (hsize : i.size = 1) (hby : i.bytes = bytes) (hzs : z.cells.size = 1)
    (h : At w0 (row e 1 v n xs * R) w) (hx : Rd w vx ys) (h1 : ∀ u ∈ ys, u.oneCell' = true) (h63 : n + ys.length ≤ maxLen) (hbytes : (n + ys.length) * bytes ≤ 140737488355328) :
    ∃ v' w', (Builtin.append_ #[t, t] ty #[v, vx]).run P w = .ok v' w' ∧ At w0 (row e 1 v' (n + ys.length) (xs ++ ys) * R) w' := by
  rcases hx with ⟨rfl, rfl⟩ | ⟨g, o, c, rfl, hc, hr⟩
  · exact ⟨v, w, run_append_row_none t ty e i ht hi h, by simpa using h⟩
  · obtain ⟨v', w', h2, h3, _⟩ := run_append_row (P := P) t ty e i z 1 bytes ht hi hz hsize hby hzs (by decide) h ⟨g, o, none⟩ ys.length c ys (by omega) (fun j u hu => by rw [Addr.add_lit]; exact hr j u hu) h1 h63 hbytes
    exact ⟨v', w', h2, h3⟩

/-- 'append' of a text's bytes. -/
theorem run_append_txt {P : Program} (t u ty e : TypeId) (i : TypeInfo) (z : Value) (ht : P.underlying t = some (.slice e)) (hu : P.underlying u = some .string) (hi : P.info? e = some i) (hz : i.zero = some z)
    (hsize : i.size = 1) (hby : i.bytes = 1) (hzs : z.cells.size = 1)
    (h : At w0 (row e 1 v n xs * R) w) (s : ByteArray) (h63 : n + s.size ≤ 140737488355328) :
    ∃ v' w', (Builtin.append_ #[t, u] ty #[v, .string s]).run P w = .ok v' w' ∧ At w0 (row e 1 v' (n + s.size) (xs ++ bys s.data.toList) * R) w' := by
  have hlx := h.row_n
  have hls : (bys s.data.toList).length = s.size := by rw [bys_len, Array.length_toList]; rfl
  have hml : n + s.size ≤ maxLen := by unfold maxLen; omega
  have grown : ∀ (old : Nat), At w0 R w →
      At w0 (row e 1 (.slice (some ⟨w.heap.size, 0, none⟩) (n + s.size) (grownCap w (n + s.size) old e)) (n + s.size) (xs ++ bys s.data.toList) * R)
        (w.drew.alloc (.cells (xs.toArray ++ (bys s.data.toList).toArray ++ Builtin.zeroCells z.cells (grownCap w (n + s.size) old e - (n + s.size))) e)) := by
    intro old hR
    have hge := grownCap_ge w (n + s.size) old e
    have hcm : grownCap w (n + s.size) old e ≤ maxLen := grownCap_le_maxLen w (n + s.size) old e hml
    refine At.mkrow (hR.drew.alloc _) hge hcm (Nat.le_of_eq ?_) ?_
    · simp only [Array.size_append, List.size_toArray, zeroCells_size, hzs, hlx, hls]
      omega
    · simp only [Array.toList_append, List.append_assoc]
      rw [← List.append_assoc, Nat.mul_one, show n + s.size = (xs ++ bys s.data.toList).length by rw [List.length_append, hlx, hls]]
      exact List.take_left
  rcases h.row_cases.2 with ⟨rfl, rfl, rfl, hR⟩ | ⟨g, cap, cur, rfl, hnc, hcm, hcs, htake, hat⟩
  · by_cases hm : s.size = 0
    · have e9 : bys s.data.toList = [] := List.eq_nil_of_length_eq_zero (by omega)
      refine ⟨.slice none 0 0, w, ?_, ?_⟩
      · have hds : s.data = #[] := Array.eq_empty_of_size_eq_zero hm
        simp [Builtin.append_, run_underlying ht, run_underlying hu, sizeOf, typeInfo, hi, Builtin.lenOf, Builtin.firstCells, hm]
      · rw [e9, hm]
        simpa using hR.row_nil e 1
    · have hr := run_append_nil_string (P := P) w t u ty e i z ht hu hi hz s (by omega) (by omega) (by rw [hby]; omega)
      have hgr := grown 0 hR
      simp only [Nat.zero_add, List.nil_append, Array.empty_append] at hgr ⊢
      refine ⟨_, _, hr, ?_⟩
      have e : (bys s.data.toList).toArray = s.data.map (fun b => Value.int .u8 b.toNat) := by
        apply Array.ext'
        simp [bys, byv]
      rw [e] at hgr
      exact hgr
  · by_cases hroom : n + s.size ≤ cap
    · have hfit : n + s.size ≤ cur.size := by omega
      have hr := Lib.run_append_room_string (P := P) w t u ty e i ht hu hi hsize g n cap cur (At.blk (o := .cells cur e) hat) s hroom hfit
      refine ⟨_, _, hr, At.mkrow (hat.setRow _) hroom hcm ?_ ?_⟩
      · simp only [List.size_toArray, List.length_append, List.length_take, List.length_drop, Array.length_toList, Lib.strCells_length]
        omega
      · rw [Nat.mul_one] at htake
        rw [htake, Nat.mul_one, bys_str, show n + s.size = (xs ++ bys s.data.toList).length by rw [List.length_append, hlx, hls]]
        exact List.take_left
    · have holds : ∀ j u, xs[j]? = some u → w.cell? ((⟨g, 0, none⟩ : Addr).add j) = some u := fun j u hu => by
        rw [Addr.add_lit, Nat.zero_add]; exact (h.row_cell rfl hu).2
      have hr := Lib.run_append_grow_string (P := P) w t u ty e i z ht hu hi hz ⟨g, 0, none⟩ n cap xs (by rw [hsize]; omega) holds s (by omega) (by omega) (growslice_fits (by omega) (by rw [hby]; omega))
      exact ⟨_, _, hr, grown cap hat.r⟩

/-- A text of bytes that are read. -/
theorem run_txt {P : Program} (src e dst : TypeId) (hs : P.underlying src = some (.slice e)) (he : P.underlying e = some (.int .u8)) (hd : P.underlying dst = some .string) {l : List UInt8} (h : Rd w v (bys l)) :
    (convert src dst v).run P w = .ok (str l) w := by
  rcases h with ⟨rfl, hx⟩ | ⟨g, o, c, rfl, hc, hx⟩
  · obtain rfl : l = [] := by cases l <;> simp_all [bys]
    rw [run_convert_bytes_nil w src e hs he _ _ dst hd]
    rfl
  · have h1 := run_convert_bytes_arg (P := P) w src e hs he g o (bys l).length c (l.map fun b => (b.toNat : Int)) (by simp [bys]) (fun i hi => by
      rw [bys_len] at hi
      refine hx i _ ?_
      simp [bys, List.getElem?_eq_getElem hi, byv]) dst hd
    rw [h1]
    congr 1
    unfold str strOfNums
    congr 2
    rw [List.map_map]
    congr 1
    conv => rhs; rw [← List.map_id l]
    refine List.map_congr_left fun b _ => ?_
    simp

variable {P : Program} {ops : Array Oper} {o : Oper} {a : Act} {K : Act → World → Prop} {Q : Exit → Act → World → Prop}
theorem wp_append_rd (s x : Operand) (t : TypeId)
    (ho : o.op = .call { callee := .builtin .append, args := #[s, x], argTypes := #[t, t] })
    (e : TypeId) (i : TypeInfo) (z : Value) (bytes : Nat) (ht : P.underlying t = some (.slice e)) (hi : P.info? e = some i) (hz : i.zero = some z)
    (hsize : i.size = 1) (hby : i.bytes = bytes) (hzs : z.cells.size = 1)
    (hs : a.eval s = v) (hvx : a.eval x = vx) (h : At w0 (row e 1 v n xs * R) w) (hx : Rd w vx ys) (h1 : ∀ u ∈ ys, u.oneCell' = true)
    (h63 : n + ys.length ≤ maxLen) (hbytes : (n + ys.length) * bytes ≤ 140737488355328) (m : Nat) (out : List Value) (hm : m = n + ys.length) (ho2 : out = xs ++ ys)
    (hK : ∀ ar cp w', At w0 (row e 1 (.slice ar m cp) m out * R) w' → K (a.put o.dst (.slice ar m cp)) w') : o.wp P a w K Q := by
  subst hm ho2
  obtain ⟨v', w', hr, h2⟩ := run_append_rd (P := P) t o.type e i z bytes ht hi hz hsize hby hzs h hx h1 h63 hbytes
  unfold Oper.wp execOp
  simp only [ho, resolve, invoke, builtin, Sem.run_bind, Sem.run_pure, Result.andThen_ok, List.map_toArray, List.map_cons, List.map_nil, hs, hvx, hr]
  obtain ⟨ar, cp, rfl⟩ := h2.row_len
  exact hK ar cp w' h2
theorem wpList_append_rd {rest : List Oper} (hgd : o.guard = none) (s x : Operand) (t : TypeId)
    (ho : o.op = .call { callee := .builtin .append, args := #[s, x], argTypes := #[t, t] })
    (e : TypeId) (i : TypeInfo) (z : Value) (bytes : Nat) (ht : P.underlying t = some (.slice e)) (hi : P.info? e = some i) (hz : i.zero = some z)
    (hsize : i.size = 1) (hby : i.bytes = bytes) (hzs : z.cells.size = 1)
    (hs : a.eval s = v) (hvx : a.eval x = vx) (h : At w0 (row e 1 v n xs * R) w) (hx : Rd w vx ys) (h1 : ∀ u ∈ ys, u.oneCell' = true)
    (h63 : n + ys.length ≤ maxLen) (hbytes : (n + ys.length) * bytes ≤ 140737488355328)
    (hK : ∀ ar cp w', At w0 (row e 1 (.slice ar (n + ys.length) cp) (n + ys.length) (xs ++ ys) * R) w' → wpList P ops Q rest (a.put o.dst (.slice ar (n + ys.length) cp)) w') : wpList P ops Q (o :: rest) a w :=
  wpList_plain hgd fun _ hK' => wp_append_rd s x t ho e i z bytes ht hi hz hsize hby hzs hs hvx h hx h1 h63 hbytes _ _ rfl rfl fun ar cp w' h2 => hK' _ _ (hK ar cp w' h2)
theorem wpList_append_rdm {rest : List Oper} (hgd : o.guard = none) (s x : Operand) (t : TypeId)
    (ho : o.op = .call { callee := .builtin .append, args := #[s, x], argTypes := #[t, t] })
    (e : TypeId) (i : TypeInfo) (z : Value) (bytes : Nat) (ht : P.underlying t = some (.slice e)) (hi : P.info? e = some i) (hz : i.zero = some z)
    (hsize : i.size = 1) (hby : i.bytes = bytes) (hzs : z.cells.size = 1)
    (hs : a.eval s = v) (hvx : a.eval x = vx) (h : At w0 (row e 1 v n xs * R) w) (hx : Rd w vx ys) (h1 : ∀ u ∈ ys, u.oneCell' = true)
    (h63 : n + ys.length ≤ maxLen) (hbytes : (n + ys.length) * bytes ≤ 140737488355328) (m : Nat) (out : List Value) (hm : m = n + ys.length) (ho2 : out = xs ++ ys)
    (hK : ∀ ar cp w', At w0 (row e 1 (.slice ar m cp) m out * R) w' → wpList P ops Q rest (a.put o.dst (.slice ar m cp)) w') : wpList P ops Q (o :: rest) a w :=
  wpList_plain hgd fun _ hK' => wp_append_rd s x t ho e i z bytes ht hi hz hsize hby hzs hs hvx h hx h1 h63 hbytes m out hm ho2 fun ar cp w' h2 => hK' _ _ (hK ar cp w' h2)
theorem step_append_rd {E : Prop} (hg : o.guard = none) (s x : Operand) (t : TypeId)
    (ho : o.op = .call { callee := .builtin .append, args := #[s, x], argTypes := #[t, t] })
    (e : TypeId) (i : TypeInfo) (z : Value) (bytes : Nat) (ht : P.underlying t = some (.slice e)) (hi : P.info? e = some i) (hz : i.zero = some z)
    (hsize : i.size = 1) (hby : i.bytes = bytes) (hzs : z.cells.size = 1)
    (hs : a.eval s = v) (hvx : a.eval x = vx) (h : At w0 (row e 1 v n xs * R) w) (hx : Rd w vx ys) (h1 : ∀ u ∈ ys, u.oneCell' = true)
    (h63 : n + ys.length ≤ maxLen) (hbytes : (n + ys.length) * bytes ≤ 140737488355328) (m : Nat) (out : List Value) (hm : m = n + ys.length) (ho2 : out = xs ++ ys)
    (hK : ∀ ar cp w', At w0 (row e 1 (.slice ar m cp) m out * R) w' → K (a.put o.dst (.slice ar m cp)) w') :
    if Region.wanted o (yielded ops a.tmps) = true then Oper.wp P o a w K Q else E := by
  have hw : Region.wanted o (yielded ops a.tmps) = true := by simp [Region.wanted, hg]
  rw [if_pos hw]
  exact wp_append_rd s x t ho e i z bytes ht hi hz hsize hby hzs hs hvx h hx h1 h63 hbytes m out hm ho2 hK
theorem wp_append_txt (s x : Operand) (t u : TypeId)
    (ho : o.op = .call { callee := .builtin .append, args := #[s, x], argTypes := #[t, u] })
    (e : TypeId) (i : TypeInfo) (z : Value) (ht : P.underlying t = some (.slice e)) (hu : P.underlying u = some .string) (hi : P.info? e = some i) (hz : i.zero = some z)
    (hsize : i.size = 1) (hby : i.bytes = 1) (hzs : z.cells.size = 1) (txt : ByteArray)
    (hs : a.eval s = v) (hvx : a.eval x = .string txt) (h : At w0 (row e 1 v n xs * R) w) (h63 : n + txt.size ≤ 140737488355328) (m : Nat) (out : List Value) (hm : m = n + txt.size) (ho2 : out = xs ++ bys txt.data.toList)
    (hK : ∀ ar cp w', At w0 (row e 1 (.slice ar m cp) m out * R) w' → K (a.put o.dst (.slice ar m cp)) w') : o.wp P a w K Q := by
  subst hm ho2
  obtain ⟨v', w', hr, h2⟩ := run_append_txt (P := P) t u o.type e i z ht hu hi hz hsize hby hzs h txt h63
  unfold Oper.wp execOp
  simp only [ho, resolve, invoke, builtin, Sem.run_bind, Sem.run_pure, Result.andThen_ok, List.map_toArray, List.map_cons, List.map_nil, hs, hvx, hr]
  obtain ⟨ar, cp, rfl⟩ := h2.row_len
  exact hK ar cp w' h2
theorem wpList_append_txt {rest : List Oper} (hgd : o.guard = none) (s x : Operand) (t u : TypeId)
    (ho : o.op = .call { callee := .builtin .append, args := #[s, x], argTypes := #[t, u] })
    (e : TypeId) (i : TypeInfo) (z : Value) (ht : P.underlying t = some (.slice e)) (hu : P.underlying u = some .string) (hi : P.info? e = some i) (hz : i.zero = some z)
    (hsize : i.size = 1) (hby : i.bytes = 1) (hzs : z.cells.size = 1) (txt : ByteArray)
    (hs : a.eval s = v) (hvx : a.eval x = .string txt) (h : At w0 (row e 1 v n xs * R) w) (h63 : n + txt.size ≤ 140737488355328)
    (hK : ∀ ar cp w', At w0 (row e 1 (.slice ar (n + txt.size) cp) (n + txt.size) (xs ++ bys txt.data.toList) * R) w' → wpList P ops Q rest (a.put o.dst (.slice ar (n + txt.size) cp)) w') : wpList P ops Q (o :: rest) a w :=
  wpList_plain hgd fun _ hK' => wp_append_txt s x t u ho e i z ht hu hi hz hsize hby hzs txt hs hvx h h63 _ _ rfl rfl fun ar cp w' h2 => hK' _ _ (hK ar cp w' h2)
theorem step_append_txt {E : Prop} (hg : o.guard = none) (s x : Operand) (t u : TypeId)
    (ho : o.op = .call { callee := .builtin .append, args := #[s, x], argTypes := #[t, u] })
    (e : TypeId) (i : TypeInfo) (z : Value) (ht : P.underlying t = some (.slice e)) (hu : P.underlying u = some .string) (hi : P.info? e = some i) (hz : i.zero = some z)
    (hsize : i.size = 1) (hby : i.bytes = 1) (hzs : z.cells.size = 1) (txt : ByteArray)
    (hs : a.eval s = v) (hvx : a.eval x = .string txt) (h : At w0 (row e 1 v n xs * R) w) (h63 : n + txt.size ≤ 140737488355328) (m : Nat) (out : List Value) (hm : m = n + txt.size) (ho2 : out = xs ++ bys txt.data.toList)
    (hK : ∀ ar cp w', At w0 (row e 1 (.slice ar m cp) m out * R) w' → K (a.put o.dst (.slice ar m cp)) w') :
    if Region.wanted o (yielded ops a.tmps) = true then Oper.wp P o a w K Q else E := by
  have hw : Region.wanted o (yielded ops a.tmps) = true := by simp [Region.wanted, hg]
  rw [if_pos hw]
  exact wp_append_txt s x t u ho e i z ht hu hi hz hsize hby hzs txt hs hvx h h63 m out hm ho2 hK
theorem wpList_txt {rest : List Oper} (hgd : o.guard = none) (x : Operand) (src e dst : TypeId) (ho : o.op = .convert src dst x)
    (hs : P.underlying src = some (.slice e)) (he : P.underlying e = some (.int .u8)) (hd : P.underlying dst = some .string) {l : List UInt8}
    (hvx : a.eval x = vx) (h : Rd w vx (bys l))
    (hK : wpList P ops Q rest (a.put o.dst (str l)) w) : wpList P ops Q (o :: rest) a w := by
  refine wpList_plain hgd fun K hK' => ?_
  have hr := run_txt (P := P) src e dst hs he hd h
  unfold Oper.wp execOp
  simp only [ho, Sem.run_bind, Sem.run_pure, Result.andThen_ok, hvx, hr]
  exact hK' _ _ hK
end
end Go.Proofs.Ytgkibjjcdcpkfaa
