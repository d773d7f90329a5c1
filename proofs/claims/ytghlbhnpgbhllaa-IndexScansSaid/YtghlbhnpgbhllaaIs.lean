/-
  The library's Insert and Delete at rows of an index, in terms of blocks: contracts, no statement.
-/
import Derived.Test.YtghlbhnpgbhllaaIx
import Derived.Lib.Overlaps
import Derived.Lib.AppendZerosOnto
import Derived.Laws.CopyRow
import Derived.Laws.NewBlocks
namespace Go.Proofs.Ytghlbhnpgbhllaa
open Go Go.RowKit

/-- A list with a part of it written over. -/
def over (L : List Value) (o : Nat) (cs : List Value) : List Value := L.take o ++ cs ++ L.drop (o + cs.length)
section
variable {P : Program} {w0 w : World} {R : HP} {e : TypeId} {size : Nat}

theorem run_copy_at (dT sT ty elem : TypeId) (i : TypeInfo) (hu : P.underlying dT = some (.slice elem)) (hi : P.info? elem = some i) (hsz : i.size = size)
    {g : Nat} {cur : Array Value} {t : TypeId} (h : At w0 (cel g cur t * R) w) (o dLen dCap : Nat) (a : Addr) (sLen sCap n : Nat) (hn : Nat.min sLen dLen = n) (cs : List Value) (hl : cs.length = n * size)
    (hsrc : ∀ j v, cs[j]? = some v → w.cell? (a.add j) = some v) (hfit : o + cs.length ≤ cur.size) (h1 : ∀ v ∈ cs, v.oneCell' = true) :
    (Builtin.copy_ #[dT, sT] ty #[.slice (some ⟨g, o, none⟩) dLen dCap, .slice (some a) sLen sCap]).run P w =
      .ok (goInt n) (w.setRow g (cur.toList.take o ++ cs ++ cur.toList.drop (o + cs.length)).toArray) := by
  have hld := run_loadCells_list (P := P) w a cs hsrc
  have hst := run_storeCells_at P g o t cs 0 cur w (At.blk (o := .cells cur t) h) (by simpa using hfit) h1
  rw [hl] at hld
  subst hsz
  simp [Builtin.copy_, run_underlying hu, Builtin.lenOf, Builtin.firstCells, sizeOf, typeInfo, hi, hn, hld, hst]

theorem run_clear_at (sT ty elem : TypeId) (i : TypeInfo) (z : Value) (hu : P.underlying sT = some (.slice elem)) (hi : P.info? elem = some i) (hz : i.zero = some z) (h1 : ∀ n, ∀ v ∈ (Builtin.zeroCells z.cells n).toList, v.oneCell' = true)
    {g : Nat} {cur : Array Value} {t : TypeId} (h : At w0 (cel g cur t * R) w) (o n cap : Nat) (hn : 0 < n) (hfit : o + n * z.cells.size ≤ cur.size) :
    (Builtin.clear_ #[sT] ty #[.slice (some ⟨g, o, none⟩) n cap]).run P w =
      .ok (.tuple #[]) (w.setRow g (cur.toList.take o ++ (Builtin.zeroCells z.cells n).toList ++ cur.toList.drop (o + n * z.cells.size)).toArray) := by
  have hlen : (Builtin.zeroCells z.cells n).toList.length = n * z.cells.size := by simp [Builtin.zeroCells]
  have hst := run_storeCells_at P g o t (Builtin.zeroCells z.cells n).toList 0 cur w (At.blk (o := .cells cur t) h) (by rw [hlen]; simpa using hfit) (h1 n)
  rw [hlen] at hst
  cases n with
  | zero => omega
  | succ n => simp [Builtin.clear_, run_underlying hu, zeroValue, typeInfo, hi, hz, hst]

/-- The same, the world behind it by name. -/
theorem copy_at (dT elem : TypeId) (i : TypeInfo) (hu : P.underlying dT = some (.slice elem)) (hi : P.info? elem = some i) (hsz : i.size = size)
    {g : Nat} {cur : Array Value} {t : TypeId} (h : At w0 (cel g cur t * R) w) (o : Nat) (a : Addr) (n : Nat) (cs : List Value) (hl : cs.length = n * size)
    (hsrc : ∀ j v, cs[j]? = some v → w.cell? (a.add j) = some v) (hfit : o + cs.length ≤ cur.size) (h1 : ∀ v ∈ cs, v.oneCell' = true) :
    ∃ w', (∀ sT ty dLen dCap sLen sCap, Nat.min sLen dLen = n → (Builtin.copy_ #[dT, sT] ty #[.slice (some ⟨g, o, none⟩) dLen dCap, .slice (some a) sLen sCap]).run P w = .ok (goInt n) w') ∧
      At w0 (cel g (over cur.toList o cs).toArray t * R) w' :=
  ⟨_, fun sT ty dLen dCap sLen sCap hn => run_copy_at dT sT ty elem i hu hi hsz h o dLen dCap a sLen sCap n hn cs hl hsrc hfit h1, h.setRow _⟩
theorem append_room_at (t : TypeId) (i : TypeInfo) (ht : P.underlying t = some (.slice e)) (hi : P.info? e = some i) (hsz : i.size = size)
    {g : Nat} {cur : Array Value} (h : At w0 (cel g cur e * R) w) (n cap : Nat) (a : Addr) (m c : Nat) (news : List Value) (hl : news.length = m * size) (hnews : ∀ j u, news[j]? = some u → w.cell? (a.add j) = some u)
    (h1 : ∀ u ∈ news, u.oneCell' = true) (hroom : n + m ≤ cap) (hfit : n * size + news.length ≤ cur.size) :
    ∃ w', (∀ ty, (Builtin.append_ #[t, t] ty #[.slice (some ⟨g, 0, none⟩) n cap, .slice (some a) m c]).run P w = .ok (.slice (some ⟨g, 0, none⟩) (n + m) cap) w') ∧
      At w0 (cel g (over cur.toList (n * size) news).toArray e * R) w' := by
  subst hsz
  exact ⟨_, fun ty => run_append_room (P := P) w t ty e i ht hi g n cap cur (At.blk (o := .cells cur e) h) a m c news hl hnews h1 hroom hfit, h.setRow _⟩
theorem clear_at (sT elem : TypeId) (i : TypeInfo) (z : Value) (hu : P.underlying sT = some (.slice elem)) (hi : P.info? elem = some i) (hz : i.zero = some z) (h1 : ∀ n, ∀ v ∈ (Builtin.zeroCells z.cells n).toList, v.oneCell' = true)
    {g : Nat} {cur : Array Value} {t : TypeId} (h : At w0 (cel g cur t * R) w) (o n : Nat) (hn : 0 < n) (hfit : o + n * z.cells.size ≤ cur.size) :
    ∃ w', (∀ ty cap, (Builtin.clear_ #[sT] ty #[.slice (some ⟨g, o, none⟩) n cap]).run P w = .ok (.tuple #[]) w') ∧ At w0 (cel g (over cur.toList o (Builtin.zeroCells z.cells n).toList).toArray t * R) w' := by
  have hlen : (Builtin.zeroCells z.cells n).toList.length = n * z.cells.size := by simp [Builtin.zeroCells]
  refine ⟨_, fun ty cap => run_clear_at sT ty elem i z hu hi hz h1 h o n cap hn hfit, ?_⟩
  rw [← hlen]
  exact h.setRow _
theorem append_zeros_at (t tn : TypeId) (i : TypeInfo) (z : Value) (kn : IntKind) (bytes : Nat) (ht : P.underlying t = some (.slice e)) (htn : P.underlying tn = some (.int kn)) (hi : P.info? e = some i) (hz : i.zero = some z) (hsz : i.size = size) (hby : i.bytes = bytes) (hzs : z.cells.size = size) (hs0 : 0 < size)
    {g : Nat} {cur : Array Value} {tt : TypeId} (h : At w0 (cel g cur tt * R) w) (sLen sCap k : Nat) (olds : List Value) (ho : olds.length = sLen * size) (holds : ∀ (j : Nat) (u : Value), olds[j]? = some u → cur[j]? = some u) (hk : 0 < k) (hg : sCap < sLen + k) (hbig : (sLen + k) * bytes ≤ 140737488355328) (h63 : sLen + k ≤ maxLen) :
    ∃ G cp ROW w', sLen + k ≤ cp ∧ cp ≤ maxLen ∧ (∀ ty kq, (Builtin.append_ #[t, tn] ty #[.slice (some ⟨g, 0, none⟩) sLen sCap, .int kq k]).run P w = .ok (.slice (some ⟨G, 0, none⟩) (sLen + k) cp) w') ∧
      At w0 (cel G ROW e * (cel g cur tt * R)) w' ∧ ROW.size = cp * size ∧ ∀ j, j < sLen * size → ROW.toList[j]? = olds[j]? := by
  have hold : (Builtin.firstCells i.size sLen (.slice (some ⟨g, 0, none⟩) sLen sCap)).run P w.drew = .ok olds.toArray w.drew := by
    have hld := run_loadCells_list (P := P) w.drew ⟨g, 0, none⟩ olds (fun j u hu => by
      rw [Addr.add_lit, Nat.zero_add]
      exact h.drew.cell (holds j u hu))
    rw [ho] at hld
    subst hsz
    exact hld
  have hcg := grownCap_ge w (sLen + k) sCap e
  have hcm : grownCap w (sLen + k) sCap e ≤ maxLen := grownCap_le_maxLen w (sLen + k) sCap e h63
  refine ⟨w.heap.size, grownCap w (sLen + k) sCap e, _, _, hcg, hcm, fun ty kq => ?_, h.drew.alloc (.cells (olds.toArray ++ Builtin.zeroCells z.cells k ++ Builtin.zeroCells z.cells (grownCap w (sLen + k) sCap e - (sLen + k))) e), ?_, ?_⟩
  · refine Lib.run_append_grow_zeros w t tn ty e i z kq kn ht htn hi hz _ sLen sCap olds hold k hk (by omega) hg (by unfold maxLen at h63; omega) ?_ ?_
    · rw [hby]
      have : k * bytes ≤ (sLen + k) * bytes := Nat.mul_le_mul_right _ (by omega)
      omega
    · rw [hby]; exact growslice_fits hg hbig
  · simp only [Array.size_append, List.size_toArray, zeroCells_size, hzs, ho, ← Nat.add_mul]
    congr 1
    omega
  · intro j hj
    simp only [Array.toList_append, List.append_assoc]
    rw [List.getElem?_append_left (by rw [ho]; exact hj)]

variable {ops : Array Oper} {rest : List Oper} {o : Oper} {a : Act} {Q : Exit → Act → World → Prop}
theorem wpList_copy_eq (hgd : o.guard = none) (d s : Operand) (t t' : TypeId)
    (ho : o.op = .call { callee := .builtin .copy, args := #[d, s], argTypes := #[t, t'] }) (v u : Value) (hd : a.eval d = v) (hs : a.eval s = u) {v' : Value} {w' : World}
    (hr : (Builtin.copy_ #[t, t'] o.type #[v, u]).run P w = .ok v' w') (h : wpList P ops Q rest (a.put o.dst v') w') : wpList P ops Q (o :: rest) a w := by
  refine wpList_plain hgd fun K hK => ?_
  unfold Oper.wp execOp
  simp only [ho, resolve, invoke, builtin, Sem.run_bind, Sem.run_pure, Result.andThen_ok, List.map_toArray, List.map_cons, List.map_nil, hd, hs, hr]
  exact hK _ _ h
theorem wpList_append_eq (hgd : o.guard = none) (d s : Operand) (t t' : TypeId)
    (ho : o.op = .call { callee := .builtin .append, args := #[d, s], argTypes := #[t, t'] }) (v u : Value) (hd : a.eval d = v) (hs : a.eval s = u) {v' : Value} {w' : World}
    (hr : (Builtin.append_ #[t, t'] o.type #[v, u]).run P w = .ok v' w') (h : wpList P ops Q rest (a.put o.dst v') w') : wpList P ops Q (o :: rest) a w := by
  refine wpList_plain hgd fun K hK => ?_
  unfold Oper.wp execOp
  simp only [ho, resolve, invoke, builtin, Sem.run_bind, Sem.run_pure, Result.andThen_ok, List.map_toArray, List.map_cons, List.map_nil, hd, hs, hr]
  exact hK _ _ h
theorem wpList_clear_eq (hgd : o.guard = none) (d : Operand) (t : TypeId)
    (ho : o.op = .call { callee := .builtin .clear, args := #[d], argTypes := #[t] }) (v : Value) (hd : a.eval d = v) {v' : Value} {w' : World}
    (hr : (Builtin.clear_ #[t] o.type #[v]).run P w = .ok v' w') (h : wpList P ops Q rest (a.put o.dst v') w') : wpList P ops Q (o :: rest) a w := by
  refine wpList_plain hgd fun K hK => ?_
  unfold Oper.wp execOp
  simp only [ho, resolve, invoke, builtin, Sem.run_bind, Sem.run_pure, Result.andThen_ok, List.map_toArray, List.map_cons, List.map_nil, hd, hr]
  exact hK _ _ h
end

theorem over_length {L : List Value} {o : Nat} {cs : List Value} (h : o + cs.length ≤ L.length) : (over L o cs).length = L.length := by
  simp [over]; omega
theorem over_get {L : List Value} {o : Nat} {cs : List Value} (ho : o ≤ L.length) (j : Nat) : (over L o cs)[j]? = if j < o then L[j]? else if j < o + cs.length then cs[j - o]? else L[j]? := by
  unfold over
  have hm : min o L.length = o := by omega
  simp only [List.getElem?_append, List.length_append, List.length_take, hm, List.getElem?_take, List.getElem?_drop]
  by_cases h1 : j < o
  · have : j < o + cs.length := by omega
    simp [h1, this]
  · by_cases h2 : j < o + cs.length
    · simp [h1, h2]
    · simp only [h1, h2, if_false]
      congr 1
      omega
theorem three_get (A C D : List Value) (j : Nat) : (A ++ C ++ D)[j]? = if j < A.length then A[j]? else if j < A.length + C.length then C[j - A.length]? else D[j - (A.length + C.length)]? := by
  simp only [List.getElem?_append, List.length_append]
  by_cases h1 : j < A.length
  · have : j < A.length + C.length := by omega
    simp [h1, this]
  · simp [h1]
/-- Moved up, then put in between. -/
theorem over_insert {L A C D : List Value} (hA : ∀ j, j < A.length → L[j]? = A[j]?) (hL : A.length + C.length + D.length ≤ L.length) :
    (over (over L (A.length + C.length) D) A.length C).take (A.length + C.length + D.length) = A ++ C ++ D := by
  apply List.ext_getElem?
  intro j
  have h0 : (over L (A.length + C.length) D).length = L.length := over_length (by omega)
  rw [three_get, List.getElem?_take, over_get (by omega), over_get (by omega)]
  by_cases h1 : j < A.length
  · have h3 : j < A.length + C.length + D.length := by omega
    have h4 : j < A.length + C.length := by omega
    simp [h1, h3, h4, hA j h1]
  · by_cases h2 : j < A.length + C.length
    · have h3 : j < A.length + C.length + D.length := by omega
      simp [h1, h2, h3]
    · by_cases h3 : j < A.length + C.length + D.length
      · simp [h1, h2, h3]
      · have : D[j - (A.length + C.length)]? = none := List.getElem?_eq_none (by omega)
        simp [h1, h2, h3, this]
/-- Put in, then what stands behind it. -/
theorem over_grow {L A C D : List Value} (hA : ∀ j, j < A.length → L[j]? = A[j]?) (hL : A.length + C.length + D.length ≤ L.length) :
    (over (over L A.length C) (A.length + C.length) D).take (A.length + C.length + D.length) = A ++ C ++ D := by
  apply List.ext_getElem?
  intro j
  have h0 : (over L A.length C).length = L.length := over_length (by omega)
  rw [three_get, List.getElem?_take, over_get (by omega), over_get (by omega)]
  by_cases h1 : j < A.length
  · have h3 : j < A.length + C.length + D.length := by omega
    have h4 : j < A.length + C.length := by omega
    simp [h1, h3, h4, hA j h1]
  · by_cases h2 : j < A.length + C.length
    · have h3 : j < A.length + C.length + D.length := by omega
      simp [h1, h2, h3]
    · by_cases h3 : j < A.length + C.length + D.length
      · simp [h1, h2, h3]
      · have : D[j - (A.length + C.length)]? = none := List.getElem?_eq_none (by omega)
        simp [h1, h2, h3, this]

theorem its_insert (l : List It) (i : Nat) (c : It) : its (l.take i ++ c :: l.drop i) = its (l.take i) ++ c.cells ++ its (l.drop i) := by
  rw [its_append, its_cons, List.append_assoc]
theorem zero_one (n : Nat) : ∀ v ∈ (Builtin.zeroCells (Value.agg #[.int .i64 0, .string ⟨#[]⟩, .string ⟨#[]⟩, .int .i64 0, .int .i64 0]).cells n).toList, v.oneCell' = true := by
  intro v hv
  simp only [Builtin.zeroCells, Value.cells] at hv
  obtain ⟨j, _, rfl⟩ := by simpa using hv
  have h5 : j % 5 < 5 := Nat.mod_lt _ (by decide)
  have : j % 5 = 0 ∨ j % 5 = 1 ∨ j % 5 = 2 ∨ j % 5 = 3 ∨ j % 5 = 4 := by omega
  rcases this with e | e | e | e | e <;> rw [e] <;> rfl

theorem It.one (c : It) : ∀ u ∈ c.cells, u.oneCell' = true := by
  intro u hu; simp [It.cells] at hu; rcases hu with rfl | rfl | rfl | rfl | rfl <;> rfl

set_option maxRecDepth 100000 in
set_option maxHeartbeats 4000000 in
/-- Insert of one row behind all. -/
theorem insert_end (w0 w : World) (R : HP) (v : Value) (l : List It) (c : It) (vb : Nat) (hn : l.length ≤ 1000)
    (h : At w0 (row 31 5 v l.length (its l) * (cel vb #[.int .i64 c.t, .string c.k, .string c.v, .int .i64 c.p, .int .i64 c.s] 31 * R)) w) :
    Calls Try.prog 21 #[v, .int .i64 l.length, .slice (some ⟨vb, 0, none⟩) 1 1] w fun e w' =>
      ∃ a cp, e = .returned (.slice a (l.length + 1) cp) ∧ At w0 (row 31 5 (.slice a (l.length + 1) cp) (l.length + 1) (its (l ++ [c])) * (cel vb #[.int .i64 c.t, .string c.k, .string c.v, .int .i64 c.p, .int .i64 c.s] 31 * R)) w' := by
  obtain ⟨i0, hi, hz0, hz1, hz2⟩ := info_parts Try.infoIt
  have hcell := fun (j : Nat) (u : Value) (hj : c.cells[j]? = some u) => At.cell (i := j) (v := u) h.pull2 (by rw [← hj]; simp [It.cells])
  rcases h.row_cases.2 with ⟨rfl, h0, _, _⟩ | ⟨g, cap, cur, rfl, hcap, _⟩
  · obtain rfl : l = [] := List.eq_nil_of_length_eq_zero h0
    go_enter Try.func21, Try.ntmps21
    go_wp2_with (at_builtin; go_loud (refine wpList_append_row rfl _ _ _ rfl 31 i0 _ 5 56 Try.underlying25 hi hz0 hz1 hz2 rfl (by decide) _ _ _ rfl h _ 1 1 c.cells rfl rfl (fun j u hu => by rw [Addr.add_lit, Nat.zero_add]; exact hcell j u hu) c.one (by unfold maxLen; omega) (by omega) ?_))
    intro a1 cap1 w1 h1
    go_wp2
    go_ret
    exact ⟨a1, cap1, rfl, h1⟩
  · have Hn := hide hcap
    by_cases hcl : cap = l.length
    · subst hcl
      go_enter Try.func21, Try.ntmps21
      go_wp2_with (at_builtin; go_loud (refine wpList_append_row rfl _ _ _ rfl 31 i0 _ 5 56 Try.underlying25 hi hz0 hz1 hz2 rfl (by decide) _ _ _ rfl h _ 1 1 c.cells rfl rfl (fun j u hu => by rw [Addr.add_lit, Nat.zero_add]; exact hcell j u hu) c.one (by unfold maxLen; omega) (by omega) ?_))
      intro a1 cap1 w1 h1
      go_wp2
      go_ret
      rw [its_snoc]
      exact ⟨a1, cap1, rfl, h1⟩
    · have hlc : l.length < cap := by omega
      go_enter Try.func21, Try.ntmps21
      go_wp2_with (at_builtin; go_loud (refine wpList_append_row rfl _ _ _ rfl 31 i0 _ 5 56 Try.underlying25 hi hz0 hz1 hz2 rfl (by decide) _ _ _ rfl h _ 1 1 c.cells rfl rfl (fun j u hu => by rw [Addr.add_lit, Nat.zero_add]; exact hcell j u hu) c.one (by unfold maxLen; omega) (by omega) ?_))
      intro a1 cap1 w1 h1
      go_wp2
      go_ret
      rw [its_snoc]
      exact ⟨a1, cap1, rfl, h1⟩

set_option maxRecDepth 100000 in
set_option maxHeartbeats 4000000 in
/-- Insert ahead of others, where there is no room. -/
theorem insert_grow (w0 w : World) (R : HP) (g : Nat) (l : List It) (c : It) (i vb : Nat) (hn : l.length ≤ 1000) (hil : i < l.length)
    (h : At w0 (row 31 5 (.slice (some ⟨g, 0, none⟩) l.length l.length) l.length (its l) * (cel vb #[.int .i64 c.t, .string c.k, .string c.v, .int .i64 c.p, .int .i64 c.s] 31 * R)) w) :
    Calls Try.prog 21 #[.slice (some ⟨g, 0, none⟩) l.length l.length, .int .i64 i, .slice (some ⟨vb, 0, none⟩) 1 1] w fun e w' =>
      ∃ a cp, e = .returned (.slice a (l.length + 1) cp) ∧ At w0 (row 31 5 (.slice a (l.length + 1) cp) (l.length + 1) (its (l.take i ++ c :: l.drop i)) * (cel vb #[.int .i64 c.t, .string c.k, .string c.v, .int .i64 c.p, .int .i64 c.s] 31 * R)) w' := by
  obtain ⟨i0, hi, hz0, hz1, hz2⟩ := info_parts Try.infoIt
  rcases h.row_cases.2 with ⟨hv, _⟩ | ⟨g', cap, cur, hv, _, _, hcs, htake, hat⟩
  · cases hv
  cases hv
  have hlt5 : (its (l.take i)).length = i * 5 := by rw [its_length, List.length_take]; omega
  have hld5 : (its (l.drop i)).length = (l.length - i) * 5 := by rw [its_length, List.length_drop]
  have hcl : ∀ (j : Nat) (u : Value), (its l)[j]? = some u → cur[j]? = some u := fun j u hu => by
    rw [← htake, List.getElem?_take] at hu
    split at hu
    · simpa using hu
    · cases hu
  have hC : c.cells.length = 5 := rfl
  obtain ⟨G, cp, ROW, W1, hcp, hcm, hap, h1, hRs, hRo⟩ := append_zeros_at (size := 5) 25 3 i0 _ .i64 56 Try.underlying25 Try.underlying3 hi hz0 hz1 hz2 rfl (by decide) hat i l.length (l.length + 1 - i) (its (l.take i)) hlt5
    (fun j u hu => hcl j u (by rw [← its_take, List.getElem?_take] at hu; split at hu <;> simp_all)) (by omega) (by omega) (by omega) (by unfold maxLen; omega)
  have hRl : ROW.toList.length = cp * 5 := by rw [Array.length_toList, hRs]
  obtain ⟨W2, hc1, h2⟩ := copy_at (size := 5) 25 31 i0 Try.underlying25 hi hz1 h1 (i * 5) ⟨vb, 0, none⟩ 1 c.cells rfl
    (fun j u hu => by rw [Addr.add_lit, Nat.zero_add]; exact At.cell (v := u) h1.pull3 (by rw [← hu]; simp [It.cells])) (by rw [hRs, hC]; omega) c.one
  have hol : (over ROW.toList (i * 5) c.cells).length = cp * 5 := by rw [over_length (by rw [hC, hRl]; omega), hRl]
  obtain ⟨W3, hc2, h3⟩ := copy_at (size := 5) 25 31 i0 Try.underlying25 hi hz1 h2.drew ((i + 1) * 5) ⟨g, i * 5, none⟩ (l.length - i) (its (l.drop i)) hld5
    (fun j u hu => by
      rw [Addr.add_lit]
      refine h2.drew.pull2.cell (hcl _ _ ?_)
      rw [← its_drop, List.getElem?_drop] at hu
      exact hu) (by rw [List.size_toArray, hol, hld5]; omega) (its_one _)
  have hfin := over_grow (L := ROW.toList) (A := its (l.take i)) (C := c.cells) (D := its (l.drop i)) (fun j hj => hRo j (by rw [← hlt5]; exact hj)) (by rw [hlt5, hld5, hC, hRl]; omega)
  rw [hlt5, hld5, hC] at hfin
  have hres : At w0 (row 31 5 (.slice (some ⟨G, 0, none⟩) (l.length + 1) cp) (l.length + 1) (its (l.take i ++ c :: l.drop i)) * (cel vb #[.int .i64 c.t, .string c.k, .string c.v, .int .i64 c.p, .int .i64 c.s] 31 * R)) W3 := by
    refine At.mkrow (At.r h3.pull2) (by omega) hcm ?_ ?_
    · rw [List.size_toArray, List.toList_toArray, over_length (by rw [hol, hld5]; omega), hol]
    · rw [List.toList_toArray, List.toList_toArray, its_insert, ← hfin, show (i + 1) * 5 = i * 5 + 5 by omega]
      congr 1
      omega
  have hk : ((l.length : Int) + 1 - (i : Int)) = ((l.length + 1 - i : Nat) : Int) := by omega
  have hgi : ¬ (l.length = i) := by omega
  have hcpi : ¬ (cp = i) := by omega
  have hcpi1 : ¬ (cp = i + 1) := by omega
  have hli : (i : Int) ≤ (l.length : Int) := by omega
  have hni : ¬ ((i : Int) = (l.length : Int)) := by omega
  have hcpl : l.length + 1 ≤ cp := by omega
  have hil1 : i + (l.length + 1 - i) = l.length + 1 := by omega
  rw [hil1] at hap
  rw [← hk] at hap
  have Hres := hide hres
  have Hk := hide hk
  clear hat h h1 h2 h3 hres hfin hRo hcl htake hcs hlt5 hld5 hol hRl hRs hi hz0 hz1 hz2 hcp hil1 hk
  go_enter Try.func21, Try.ntmps21
  have hm1 : Nat.min 1 (l.length + 1 - i) = 1 := by simp only [Nat.min_def]; split <;> omega
  have hm2 : Nat.min (l.length - i) (l.length - i) = l.length - i := by simp
  have hc1' := fun sT ty => hc1 sT ty (l.length + 1 - i) (cp - i) 1 1 hm1
  have hc2' := fun sT ty => hc2 sT ty (l.length - i) (cp - (i + 1)) (l.length - i) (l.length - i) hm2
  clear hc1 hc2 hm1 hm2
  go_wp2_with (first | (at_builtin; refine wpList_append_eq rfl _ _ _ _ rfl _ _ rfl rfl (hap _ _) ?_) | (at_builtin; refine wpList_copy_eq rfl _ _ _ _ rfl _ _ rfl rfl (hc1' _ _) ?_))
  refine wp_region_line [0, 1, 2, 3, 4, 5, 6, 7, 8] rfl (by kernel_rfl) ?_
  simp only [picks_cons, picks_nil, getD_zero, getD_succ]
  go_wp2_with (at_builtin; refine wpList_copy_eq rfl _ _ _ _ rfl _ _ rfl rfl (hc2' _ _) ?_)
  refine ⟨by kernel_rfl, ?_⟩
  go_wp2_with fail
  go_ret
  exact ⟨_, _, rfl, Hres.out⟩

theorem At.shape {w0 w : World} {R : HP} {b : Nat} {c : Array Value} {t : TypeId} (h : At w0 (cel b c t * R) w) : w.shape? b = some (t, c.size) := by
  have hb := At.blk (o := .cells c t) h
  simp [World.shape?, hb]
set_option maxRecDepth 100000 in
set_option maxHeartbeats 4000000 in
/-- Insert ahead of others, where there is room. -/
theorem insert_shift (w0 w : World) (R : HP) (g : Nat) (l : List It) (c : It) (i vb cap : Nat) (hn : l.length ≤ 1000) (hil : i < l.length) (hroom : l.length + 1 ≤ cap)
    (h : At w0 (row 31 5 (.slice (some ⟨g, 0, none⟩) l.length cap) l.length (its l) * (cel vb #[.int .i64 c.t, .string c.k, .string c.v, .int .i64 c.p, .int .i64 c.s] 31 * R)) w) :
    Calls Try.prog 21 #[.slice (some ⟨g, 0, none⟩) l.length cap, .int .i64 i, .slice (some ⟨vb, 0, none⟩) 1 1] w fun e w' =>
      ∃ a cp, e = .returned (.slice a (l.length + 1) cp) ∧ At w0 (row 31 5 (.slice a (l.length + 1) cp) (l.length + 1) (its (l.take i ++ c :: l.drop i)) * (cel vb #[.int .i64 c.t, .string c.k, .string c.v, .int .i64 c.p, .int .i64 c.s] 31 * R)) w' := by
  obtain ⟨i0, hi, hz0, hz1, hz2⟩ := info_parts Try.infoIt
  rcases h.row_cases.2 with ⟨hv, _⟩ | ⟨g', cap', cur, hv, _, hcm, hcs, htake, hat⟩
  · cases hv
  cases hv
  have hlt5 : (its (l.take i)).length = i * 5 := by rw [its_length, List.length_take]; omega
  have hld5 : (its (l.drop i)).length = (l.length - i) * 5 := by rw [its_length, List.length_drop]
  have hcl : ∀ (j : Nat) (u : Value), (its l)[j]? = some u → cur[j]? = some u := fun j u hu => by
    rw [← htake, List.getElem?_take] at hu
    split at hu
    · simpa using hu
    · cases hu
  have hC : c.cells.length = 5 := rfl
  have hRl : cur.toList.length = cap * 5 := by rw [Array.length_toList, hcs]
  have hne : vb ≠ g := (At.ne (o := .cells cur 31) (o' := .cells _ 31) hat).symm
  have hov : ∀ lb cb, (callFunc 27 #[.slice (some ⟨vb, 0, none⟩) 1 1, .slice (some ⟨g, (i + 1) * 5, none⟩) lb cb]).run Try.prog w = .ok (.value (.bool false)) w := fun lb cb => by
    rw [run_callFunc_extern (fn := Try.f27) (by kernel_rfl) (by kernel_rfl) (by kernel_rfl) (by kernel_rfl) (e := Extern.SlicesOverlaps.overlaps #[25, 25] #[4]) (by kernel_rfl),
      Lib.run_overlaps_apart w 25 4 31 Try.underlying25 5 (fun w => by simp [sizeOf, typeInfo, hi, hz1]) ⟨vb, 0, none⟩ ⟨g, (i + 1) * 5, none⟩ 1 1 lb cb hne _ _ _ _ hat.pull2.shape hat.shape (by rw [hcs]; omega) (hat.pull2.frz 0) (hat.pull2.frz _)]
    rfl
  obtain ⟨W2, hc1, h2⟩ := copy_at (size := 5) 25 31 i0 Try.underlying25 hi hz1 hat.drew ((i + 1) * 5) ⟨g, i * 5, none⟩ (l.length - i) (its (l.drop i)) hld5
    (fun j u hu => by
      rw [Addr.add_lit]
      refine hat.drew.cell (hcl _ _ ?_)
      rw [← its_drop, List.getElem?_drop] at hu
      exact hu) (by rw [hcs, hld5]; omega) (its_one _)
  have hol : (over cur.toList ((i + 1) * 5) (its (l.drop i))).length = cap * 5 := by rw [over_length (by rw [hld5, hRl]; omega), hRl]
  obtain ⟨W3, hc2, h3⟩ := copy_at (size := 5) 25 31 i0 Try.underlying25 hi hz1 h2 (i * 5) ⟨vb, 0, none⟩ 1 c.cells rfl
    (fun j u hu => by rw [Addr.add_lit, Nat.zero_add]; exact At.cell (v := u) h2.pull2 (by rw [← hu]; simp [It.cells])) (by rw [List.size_toArray, hol, hC]; omega) c.one
  have hfin := over_insert (L := cur.toList) (A := its (l.take i)) (C := c.cells) (D := its (l.drop i)) (fun j hj => by
    have hj' : j < i * 5 := by rw [← hlt5]; exact hj
    have e1 := List.getElem?_eq_getElem hj
    rw [e1]
    have e2 : (its l)[j]? = some (its (l.take i))[j] := by rw [← e1, ← its_take, List.getElem?_take, if_pos hj']
    have := hcl j _ e2
    simpa using this) (by rw [hlt5, hld5, hC, hRl]; omega)
  rw [hlt5, hld5, hC] at hfin
  have hres : At w0 (row 31 5 (.slice (some ⟨g, 0, none⟩) (l.length + 1) cap) (l.length + 1) (its (l.take i ++ c :: l.drop i)) * (cel vb #[.int .i64 c.t, .string c.k, .string c.v, .int .i64 c.p, .int .i64 c.s] 31 * R)) W3 := by
    refine At.mkrow h3 (by omega) hcm ?_ ?_
    · rw [List.size_toArray, List.toList_toArray, over_length (by rw [hol, hC]; omega), hol]
    · rw [List.toList_toArray, List.toList_toArray, its_insert, ← hfin, show (i + 1) * 5 = i * 5 + 5 by omega]
      congr 1
      omega
  have hli : (i : Int) ≤ (l.length : Int) := by omega
  have hni : ¬ ((i : Int) = (l.length : Int)) := by omega
  have hgi : ¬ (cap = i) := by omega
  have hgi1 : ¬ (cap = i + 1) := by omega
  have hcz : ¬ ((cap : Int) < (l.length : Int) + 1) := by omega
  have hc63 : cap ≤ 9223372036854775807 := by unfold maxLen at hcm; omega
  have Hres := hide hres
  have hm1 : Nat.min 1 (l.length + 1 - i) = 1 := by simp only [Nat.min_def]; split <;> omega
  have hm2 : Nat.min (l.length + 1 - i) (l.length - i) = l.length - i := by simp only [Nat.min_def]; split <;> omega
  have hc1' := fun sT ty => hc1 sT ty (l.length - i) (cap - (i + 1)) (l.length + 1 - i) (cap - i) hm2
  have hc2' := fun sT ty => hc2 sT ty (l.length + 1 - i) (cap - i) 1 1 hm1
  clear hat h h2 h3 hres hfin hcl htake hcs hlt5 hld5 hol hRl hi hz0 hz1 hz2 hm1 hm2 hc1 hc2 hne hcm
  go_enter Try.func21, Try.ntmps21
  go_wp2_with fail
  refine wp_region_line [0, 1, 2, 3, 4, 5, 6, 7, 8] rfl (by kernel_rfl) ?_
  simp only [picks_cons, picks_nil, getD_zero, getD_succ]
  go_wp2_with (at_builtin; refine wpList_copy_eq rfl _ _ _ _ rfl _ _ rfl rfl (hc1' _ _) ?_)
  refine ⟨by kernel_rfl, ?_⟩
  go_wp2_with (at_builtin; refine wpList_copy_eq rfl _ _ _ _ rfl _ _ rfl rfl (hc2' _ _) ?_)
  go_ret
  exact ⟨_, _, rfl, Hres.out⟩

/-- Insert of one row, wherever. -/
theorem insert_any (w0 w : World) (R : HP) (v : Value) (l : List It) (c : It) (i vb : Nat) (hn : l.length ≤ 1000) (hil : i ≤ l.length)
    (h : At w0 (row 31 5 v l.length (its l) * (cel vb #[.int .i64 c.t, .string c.k, .string c.v, .int .i64 c.p, .int .i64 c.s] 31 * R)) w) :
    Calls Try.prog 21 #[v, .int .i64 i, .slice (some ⟨vb, 0, none⟩) 1 1] w fun e w' =>
      ∃ a cp, e = .returned (.slice a (l.length + 1) cp) ∧ At w0 (row 31 5 (.slice a (l.length + 1) cp) (l.length + 1) (its (l.take i ++ c :: l.drop i)) * (cel vb #[.int .i64 c.t, .string c.k, .string c.v, .int .i64 c.p, .int .i64 c.s] 31 * R)) w' := by
  rcases Nat.lt_or_eq_of_le hil with hlt | rfl
  · obtain ⟨g, cap, rfl, hle, _⟩ := h.row_ptr (by omega)
    by_cases hroom : l.length + 1 ≤ cap
    · exact insert_shift w0 w R g l c i vb cap hn hlt hroom h
    · obtain rfl : cap = l.length := by omega
      exact insert_grow w0 w R g l c i vb hn hlt h
  · have := insert_end w0 w R v l c vb hn h
    rw [List.take_length, List.drop_length]
    exact this

set_option maxRecDepth 100000 in
set_option maxHeartbeats 4000000 in
/-- Delete of one row. -/
theorem delete_any (w0 w : World) (R : HP) (g : Nat) (l : List It) (i m cap : Nat) (hm : l.length = m + 1) (hn : m ≤ 1000) (him : i ≤ m)
    (h : At w0 (row 31 5 (.slice (some ⟨g, 0, none⟩) (m + 1) cap) (m + 1) (its l) * R) w) :
    Calls Try.prog 23 #[.slice (some ⟨g, 0, none⟩) (m + 1) cap, .int .i64 i, .int .i64 ((i : Int) + 1)] w fun e w' =>
      e = .returned (.slice (some ⟨g, 0, none⟩) m cap) ∧ At w0 (row 31 5 (.slice (some ⟨g, 0, none⟩) m cap) m (its (l.take i ++ l.drop (i + 1))) * R) w' := by
  obtain ⟨i0, hi, hz0, hz1, hz2⟩ := info_parts Try.infoIt
  rcases h.row_cases.2 with ⟨hv, _⟩ | ⟨g', cap', cur, hv, hmc, hcm, hcs, htake, hat⟩
  · cases hv
  cases hv
  have hlt5 : (its (l.take i)).length = i * 5 := by rw [its_length, List.length_take]; omega
  have hld5 : (its (l.drop (i + 1))).length = (m - i) * 5 := by rw [its_length, List.length_drop]; omega
  have hcl : ∀ (j : Nat) (u : Value), (its l)[j]? = some u → cur[j]? = some u := fun j u hu => by
    rw [← htake, List.getElem?_take] at hu
    split at hu
    · simpa using hu
    · cases hu
  have hRl : cur.toList.length = cap * 5 := by rw [Array.length_toList, hcs]
  obtain ⟨A, hA, hAz⟩ : ∃ A : Nat, (if cap = i + 1 then 0 else (i + 1) * 5) = A ∧ (cap ≠ i + 1 → A = (i + 1) * 5) := by
    by_cases hc : cap = i + 1
    · exact ⟨0, by rw [if_pos hc], fun h => absurd hc h⟩
    · exact ⟨(i + 1) * 5, by rw [if_neg hc], fun _ => rfl⟩
  obtain ⟨W2, hap, h2⟩ := append_room_at (size := 5) 25 i0 Try.underlying25 hi hz1 hat.drew i cap ⟨g, A, none⟩ (m - i) (cap - (i + 1)) (its (l.drop (i + 1))) hld5
    (fun j u hu => by
      rw [Addr.add_lit]
      have hA5 : A = (i + 1) * 5 := hAz (fun hc => by
        have : j < (its (l.drop (i + 1))).length := (List.getElem?_eq_some_iff.1 hu).1
        omega)
      rw [hA5]
      refine hat.drew.cell (hcl _ _ ?_)
      rw [← its_drop, List.getElem?_drop] at hu
      exact hu) (its_one _) (by omega) (by rw [hld5, hcs]; omega)
  have hol : (over cur.toList (i * 5) (its (l.drop (i + 1)))).length = cap * 5 := by rw [over_length (by rw [hld5, hRl]; omega), hRl]
  obtain ⟨W3, hcr, h3⟩ := clear_at 25 31 i0 _ Try.underlying25 hi hz0 zero_one h2 (m * 5) 1 (by omega) (by
    have e5 : (Value.agg #[.int .i64 0, .string ⟨#[]⟩, .string ⟨#[]⟩, .int .i64 0, .int .i64 0]).cells.size = 5 := rfl
    rw [e5, List.size_toArray, hol]
    omega)
  have hzl : (Builtin.zeroCells (Value.agg #[.int .i64 0, .string ⟨#[]⟩, .string ⟨#[]⟩, .int .i64 0, .int .i64 0]).cells 1).toList.length = 5 := by simp [Builtin.zeroCells, Value.cells]
  have hres : At w0 (row 31 5 (.slice (some ⟨g, 0, none⟩) m cap) m (its (l.take i ++ l.drop (i + 1))) * R) W3 := by
    refine At.mkrow h3 (by omega) hcm ?_ ?_
    · rw [List.size_toArray, List.toList_toArray, over_length (by rw [hol, hzl]; omega), hol]
    · rw [List.toList_toArray, List.toList_toArray, its_append]
      unfold over
      rw [List.append_assoc, List.take_append_of_le_length (by rw [List.length_take]; change _ ≤ min _ (over cur.toList (i * 5) (its (l.drop (i + 1)))).length; rw [hol]; omega), List.take_take, Nat.min_self, List.append_assoc, ← List.append_assoc,
        List.take_append_of_le_length (by rw [List.length_append, List.length_take, hRl, hld5]; omega), List.take_of_length_le (by rw [List.length_append, List.length_take, hRl, hld5]; omega)]
      congr 1
      rw [← its_take, ← htake, List.take_take]
      congr 1
      omega
  have hli : (i : Int) ≤ (m : Int) := by omega
  have hli1 : (i : Int) + 1 ≤ (m : Int) + 1 := by omega
  have hni : ¬ ((i : Int) = (i : Int) + 1) := by omega
  have hmi : i + (m - i) = m := by omega
  rw [hmi] at hap
  have hcm0 : ¬ (cap = m) := by omega
  have hc63 : cap ≤ 9223372036854775807 := by unfold maxLen at hcm; omega
  have hml : (m : Int) + 1 - (m : Int) = 1 := by omega
  have Hres := hide hres
  have hid0 : ((i : Int) == (i : Int) + 1) = false := by rw [beq_eq_false_iff_ne]; omega
  clear hat h h2 h3 hres hcl htake hcs hlt5 hld5 hol hRl hi hz0 hz1 hz2 hzl hmi hAz
  by_cases hc1 : cap = i + 1
  · rw [if_pos hc1] at hA
    subst hA
    obtain rfl : i = m := by omega
    subst hc1
    clear hli him hcm0
    have hii : ¬ (i + 1 = i) := by omega
    simp only [Nat.sub_self] at hap
    go_enter Try.func23, Try.ntmps23
    go_wp2_with fail
    refine wp_region_line [0, 1, 2, 3, 4, 5, 6, 7] rfl (by kernel_rfl) ?_
    simp only [picks_cons, picks_nil, getD_zero, getD_succ]
    go_wp2_with (at_builtin; refine wpList_append_eq rfl _ _ _ _ rfl _ _ rfl rfl (hap _) ?_)
    refine ⟨by kernel_rfl, ?_⟩
    go_wp2_with (at_builtin; refine wpList_clear_eq rfl _ _ rfl _ rfl (hcr _ _) ?_)
    go_ret
    exact ⟨rfl, Hres.out⟩
  · rw [if_neg hc1] at hA
    subst hA
    go_enter Try.func23, Try.ntmps23
    go_wp2_with fail
    refine wp_region_line [0, 1, 2, 3, 4, 5, 6, 7] rfl (by kernel_rfl) ?_
    simp only [picks_cons, picks_nil, getD_zero, getD_succ]
    go_wp2_with (at_builtin; refine wpList_append_eq rfl _ _ _ _ rfl _ _ rfl rfl (hap _) ?_)
    refine ⟨by kernel_rfl, ?_⟩
    go_wp2_with (at_builtin; refine wpList_clear_eq rfl _ _ rfl _ rfl (hcr _ _) ?_)
    go_ret
    exact ⟨rfl, Hres.out⟩
end Go.Proofs.Ytghlbhnpgbhllaa
