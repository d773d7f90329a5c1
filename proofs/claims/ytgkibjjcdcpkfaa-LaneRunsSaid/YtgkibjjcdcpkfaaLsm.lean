/-
  LaneRuns: small helps; what its switch's arms leave; the arms themselves. Contracts, no statement.
-/
import Derived.Test.YtgkibjjcdcpkfaaDd
import Derived.Test.YtgkibjjcdcpkfaaRx
import Derived.Deep.CutBlock
namespace Go.Proofs.Ytgkibjjcdcpkfaa
open Go Go.RowKit

theorem and7i (x : Int) : ∃ k : Nat, bits .and .i64 x 7 = (k : Int) ∧ k ≤ 7 := by
  have h : (BitVec.ofInt 64 x &&& BitVec.ofInt 64 7).toNat ≤ 7 := by
    rw [BitVec.toNat_and]
    exact Nat.and_le_right
  refine ⟨(BitVec.ofInt 64 x &&& BitVec.ofInt 64 7).toNat, ?_, h⟩
  show IntKind.i64.wrap ((BitVec.ofInt 64 x &&& BitVec.ofInt 64 7).toNat : Int) = _
  rw [IntWalk.i64_in _ (by omega)]
theorem AllIn.of_row {W w : World} {F : HP} {a : Option Addr} {c n : Nat} {rs : List RecV} (hn : n = rs.length) (hg : GoodV rs) (hd : ∀ x ∈ rs, DirIn W F x) (h : At W (row 44 8 (.slice a n c) n (rs.flatMap RecV.cs) * F) w) :
    AllIn W (row 44 8 (.slice a n c) n (rs.flatMap RecV.cs) * F) a c rs := by
  refine ⟨RecsIn.of_row hn hg hd h, hg, ?_, ?_⟩
  · rcases h.row_cases.2 with ⟨h1, h2, _⟩ | ⟨g, cap, cur, h1, h2, _⟩
    · omega
    · simp only [Value.slice.injEq] at h1
      omega
  · rcases h.row_cases.2 with ⟨h1, h2, _⟩ | ⟨g, cap, cur, h1, h2, _⟩
    · simp only [Value.slice.injEq] at h1
      exact .inl ⟨h1.1, List.eq_nil_of_length_eq_zero (by omega), h1.2.2⟩
    · simp only [Value.slice.injEq] at h1
      exact .inr ⟨g, 0, h1.1⟩
theorem AllIn.capn {W : World} {F : HP} {a : Option Addr} {c : Nat} {rs : List RecV} (h : AllIn W F a c rs) : a = none → c = 0 := fun e => by
  rcases h.2.2.2 with h1 | h1
  · exact h1.2.2
  · obtain ⟨_, _, h2⟩ := h1
    rw [h2] at e
    cases e
theorem AllIn.cut {W : World} {F : HP} {a : Option Addr} {c : Nat} {rs : List RecV} (h : AllIn W F a c rs) {j : Nat} (hj : j ≤ rs.length) : AllIn W F a j (rs.take j) := by
  refine ⟨h.1.take j, fun y hy => h.2.1 y (List.mem_of_mem_take hy), by rw [List.length_take]; omega, ?_⟩
  rcases h.2.2.2 with ⟨h1, h2, _⟩ | h1
  · subst h2
    exact .inl ⟨h1, List.take_nil, by simpa using hj⟩
  · exact .inr h1
theorem AllIn.full {W : World} {F : HP} {a : Option Addr} {c n : Nat} {rs : List RecV} (h : AllIn W F a c rs) (hn : rs.length = n) : AllIn W F a n rs :=
  ⟨h.1, h.2.1, Nat.le_of_eq hn, h.2.2.2.imp (fun e => ⟨e.1, e.2.1, by rw [← hn, e.2.1]; rfl⟩) id⟩
theorem encR_drop_le (l : List Rec) (q : Nat) : (encR (l.drop q)).length ≤ (encR l).length := by
  have h : encR l = encR (l.take q) ++ encR (l.drop q) := by rw [← encR_append, List.take_append_drop]
  rw [h, List.length_append]
  omega
theorem startsB_eq {a b : List Rec} (h : startsB a b = true) : a.length ≤ b.length ∧ b.take a.length = a := of_decide_eq_true h
section
variable {P : Program} {ops : Array Oper} {rest : List Oper} {o : Oper} {a : Act} {Q : Exit → Act → World → Prop} {w0 w : World} {R : HP}
theorem wpList_append_grow {rest : List Oper} (hw : Region.wanted o (yielded ops a.tmps) = true) (s x : Operand) (t : TypeId)
    (ho : o.op = .call { callee := .builtin .append, args := #[s, x], argTypes := #[t, t] })
    (i : TypeInfo) (z : Value) (ht : P.underlying t = some (.slice 44)) (hi : P.info? 44 = some i) (hz : i.zero = some z)
    (hsize : i.size = 8) (hby : i.bytes = 104) (hzs : z.cells.size = 8)
    {N o0 n : Nat} {rs : List RecV} (hn : n = rs.length) (hs : a.eval s = .slice (some ⟨N, o0, none⟩) n n) (h : At w0 R w) (hN : RecsIn w0 R (some ⟨N, o0, none⟩) rs)
    {ad : Option Addr} {c : Nat} {ys : List RecV} (hx : a.eval x = .slice ad ys.length c) (hm : 0 < ys.length) (hr : RecsIn w0 R ad ys) (hl : n + ys.length ≤ 1000000)
    (hK : ∀ ar cp w', At w0 (row 44 8 (.slice ar (rs ++ ys).length cp) (rs ++ ys).length ((rs ++ ys).flatMap RecV.cs) * R) w' → wpList P ops Q rest (a.put o.dst (.slice ar (rs ++ ys).length cp)) w') : wpList P ops Q (o :: rest) a w := by
  unfold wpList
  rw [if_pos hw]
  left
  have hy : ys ≠ [] := List.length_pos_iff.1 hm
  obtain ⟨g, o', rfl, hc⟩ := hr.1.resolve_left hy
  have hnews : ∀ j u, (ys.flatMap RecV.cs)[j]? = some u → w.cell? ((⟨g, o', none⟩ : Addr).add j) = some u := fun j u hu => by
    rw [Addr.add_lit]
    exact hc w h j u hu
  have hold : ∀ j u, (rs.flatMap RecV.cs)[j]? = some u → w.cell? ((⟨N, o0, none⟩ : Addr).add j) = some u := fun j u hu => by
    rw [Addr.add_lit]
    rcases hN.1 with h1 | ⟨g2, o2, h1, h2⟩
    · subst h1
      simp at hu
    · simp only [Option.some.injEq, Addr.mk.injEq, and_true] at h1
      obtain ⟨rfl, rfl⟩ := h1
      exact h2 w h j u hu
  have hlx : (rs.flatMap RecV.cs).length = n * i.size := by rw [recs_len, hsize, hn]
  have hly : (ys.flatMap RecV.cs).length = ys.length * i.size := by rw [recs_len, hsize]
  have hrun := run_append_grow (P := P) w t o.type 44 i z ht hi hz ⟨N, o0, none⟩ n n _ hlx hold ⟨g, o', none⟩ ys.length c _ hly hnews (by omega) (by omega) (growslice_fits (by omega) (by rw [hby]; omega))
  have hge := grownCap_ge w (n + ys.length) n 44
  have hcm : grownCap w (n + ys.length) n 44 ≤ maxLen := grownCap_le_maxLen w (n + ys.length) n 44 (by unfold maxLen; omega)
  have hfm : (rs ++ ys).flatMap RecV.cs = rs.flatMap RecV.cs ++ ys.flatMap RecV.cs := by simp
  have hlen : (rs ++ ys).length = n + ys.length := by rw [List.length_append, hn]
  have hrow : At w0 (row 44 8 (.slice (some ⟨w.heap.size, 0, none⟩) (rs ++ ys).length (grownCap w (n + ys.length) n 44)) (rs ++ ys).length ((rs ++ ys).flatMap RecV.cs) * R)
      (w.drew.alloc (.cells ((rs.flatMap RecV.cs).toArray ++ (ys.flatMap RecV.cs).toArray ++ Builtin.zeroCells z.cells (grownCap w (n + ys.length) n 44 - (n + ys.length))) 44)) := by
    rw [hlen, hfm]
    refine At.mkrow (h.drew.alloc _) hge hcm (Nat.le_of_eq ?_) ?_
    · simp only [Array.size_append, List.size_toArray, zeroCells_size, hzs, hlx, hly, hsize]
      omega
    · simp only [Array.toList_append, List.append_assoc]
      rw [← List.append_assoc]
      have e : (rs.flatMap RecV.cs ++ ys.flatMap RecV.cs).length = (n + ys.length) * 8 := by rw [List.length_append, hlx, hly, hsize]; omega
      rw [← e]
      exact List.take_left
  unfold Oper.wp execOp
  simp only [ho, resolve, invoke, builtin, Sem.run_bind, Sem.run_pure, Result.andThen_ok, List.map_toArray, List.map_cons, List.map_nil, hs, hx, hrun]
  rw [hlen] at hK hrow
  exact hK _ _ _ hrow
end
section
variable {P : Program} {ops : Array Oper} {rest : List Oper} {o : Oper} {a : Act} {Q : Exit → Act → World → Prop} {w : World}
theorem elem_of {t e : TypeId} (ht : P.underlying t = some (.slice e)) : P.elem t = e := by simp [Program.elem, ht]
/-- 'len' of a slice. -/
theorem wpList_len_at (hg : o.guard = none) (x : Operand) (t e : TypeId) (ho : o.op = .call { callee := .builtin .len, args := #[x], argTypes := #[t] }) (ht : P.underlying t = some (.slice e))
    {ad : Option Addr} {n c : Nat} (hx : a.eval x = .slice ad n c) (h : wpList P ops Q rest (a.put o.dst (.int .i64 n)) w) : wpList P ops Q (o :: rest) a w := by
  refine wpList_plain hg fun K hK => ?_
  have ht' : P.underlying t = some (.slice (P.elem t)) := by rw [elem_of ht]; exact ht
  unfold Oper.wp execOp
  simp only [ho, resolve, invoke, builtin, Sem.run_bind, Sem.run_pure, Result.andThen_ok, List.map_toArray, List.map_cons, List.map_nil, hx, run_len_slice _ _ _ _ _ _ ht']
  exact hK _ _ h
theorem run_cut (t : TypeId) (ad : Option Addr) {n c m : Nat} (i : TypeInfo) (ht : P.underlying t = some (.slice (P.elem t))) (hi : P.info? (P.elem t) = some i) (hm : m ≤ c) :
    (Instr.sliceAt t (.slice ad n c) none (some (.int .i64 m)) (some (.int .i64 m))).run P w = .ok (.slice ad m m) w := by
  rw [run_sliceAt_slice _ _ _ _ _ _ ht, run_slice_hm w t ad n c ht .i64 .i64 m m (by omega) (by omega) (by omega)]
  cases ad <;> simp [sizeOf, typeInfo, hi, sliced, Addr.add_zero', Result.andThen]
/-- 's[:m:m]'. -/
theorem wpList_cut (hg : o.guard = none) (t e : TypeId) (x p q : Operand) (ho : o.op = .slice t x none (some p) (some q)) (i : TypeInfo) (ht : P.underlying t = some (.slice e)) (hi : P.info? e = some i)
    {ad : Option Addr} {n c m : Nat} (hx : a.eval x = .slice ad n c) (hp : a.eval p = .int .i64 m) (hq : a.eval q = .int .i64 m) (hm : m ≤ c) (h : wpList P ops Q rest (a.put o.dst (.slice ad m m)) w) : wpList P ops Q (o :: rest) a w := by
  refine wpList_plain hg fun K hK => ?_
  have he := elem_of ht
  have ht' : P.underlying t = some (.slice (P.elem t)) := by rw [he]; exact ht
  unfold Oper.wp execOp
  simp only [ho, Option.map, hx, hp, hq, Sem.run_bind, run_cut t ad i ht' (by rw [he]; exact hi) hm, Sem.run_pure, Result.andThen_ok]
  exact hK _ _ h
variable {w0 : World} {R : HP}
/-- 'append' of records to a slice that is full, or nil. -/
theorem wpList_append_all {rest : List Oper} (hw : Region.wanted o (yielded ops a.tmps) = true) (s x : Operand) (t : TypeId)
    (ho : o.op = .call { callee := .builtin .append, args := #[s, x], argTypes := #[t, t] })
    (i : TypeInfo) (z : Value) (ht : P.underlying t = some (.slice 44)) (hi : P.info? 44 = some i) (hz : i.zero = some z)
    (hsize : i.size = 8) (hby : i.bytes = 104) (hzs : z.cells.size = 8)
    {a0 : Option Addr} {n : Nat} {rs : List RecV} (hn : n = rs.length) (hsh : (a0 = none ∧ rs = []) ∨ ∃ g o, a0 = some ⟨g, o, none⟩) (hs : a.eval s = .slice a0 n n) (h : At w0 R w) (hN : RecsIn w0 R a0 rs)
    {ad : Option Addr} {c : Nat} {ys : List RecV} (hx : a.eval x = .slice ad ys.length c) (hcn : ad = none → c = 0) (hm : 0 < ys.length) (hr : RecsIn w0 R ad ys) (hl : n + ys.length ≤ 1000000)
    (hK : ∀ ar cp w', At w0 (row 44 8 (.slice ar (rs ++ ys).length cp) (rs ++ ys).length ((rs ++ ys).flatMap RecV.cs) * R) w' → wpList P ops Q rest (a.put o.dst (.slice ar (rs ++ ys).length cp)) w') : wpList P ops Q (o :: rest) a w := by
  rcases hsh with ⟨rfl, rfl⟩ | ⟨g, o', rfl⟩
  · subst hn
    exact wpList_append_recs hw s x t ho _ i z ht hi hz hsize hby hzs (v := .slice none 0 0) (rs := []) hs (h.row_nil _ 8) hx hcn hr (by simpa using hl) hK
  · exact wpList_append_grow hw s x t ho i z ht hi hz hsize hby hzs hn hs h hN hx hm hr hl hK
end

theorem mod5 (x : Int) : ∃ k : Nat, (x.tmod 5 + 5).tmod 5 = (k : Int) ∧ k ≤ 4 := by
  have := tmod_up x 5 (by decide)
  change 0 ≤ (x.tmod 5 + 5).tmod 5 ∧ (x.tmod 5 + 5).tmod 5 < 5 at this
  exact ⟨((x.tmod 5 + 5).tmod 5).toNat, by omega, by omega⟩
theorem encR_len_le {l : List Rec} (h : (encR l).length ≤ 14336) : l.length ≤ 1304 := by have := encR_ge l; omega
/-- What a crash may leave, when a deed did not go through. -/
def AfterF (L : Ln) (all oth : List Rec) (an : Bool) (sure : Nat) (f : Nat → List UInt8) : Prop := PartF f L.gen L.bank (encR all) sure ∨ (an = true ∧ RestF f (L.gen + 1) (1 - L.bank) (encR oth))
theorem rest_part {f : Nat → List UInt8} {gen bank : Nat} {all : List Rec} {k : Nat} (h : RestF f gen bank (encR (all.take k))) : PartF f gen bank (encR all) (encR (all.take k)).length :=
  ⟨h.head, fun t ht => .inr (by rw [encR_take]; exact h.sec ht)⟩

/-- What holds behind the switch. -/
def LrPost (W : World) (D i : Nat) (C : Nat) (d : DdV) (u4 u6 u7 u8 u9 u10 : Value) (wc : World) : Prop :=
  ∃ (P : Nat) (L : Ln) (m : Dk) (all : List RecV) (a6 : Option Addr) (c6 k : Nat) (oth : List RecV) (a8 : Option Addr) (c8 sure : Nat) (dn an : Bool) (F : HP), u4 = .pointer (some ⟨P, 0, none⟩) ∧ u6 = .slice a6 all.length c6 ∧ u7 = .int .i64 k ∧ (an = true → u8 = .slice a8 oth.length c8) ∧ u9 = .bool dn ∧ u10 = .bool an ∧ Hid (AllIn W F a6 c6 all) ∧ Hid (an = true → AllIn W F a8 c8 oth ∧ (encR (oth.map (·.1))).length ≤ 14336) ∧ Hid (∀ w', At W F w' → At W (old W * 1) w') ∧
        Hid (L.b = encR (all.map (·.1)) ∧ L.gen ≤ i + 2 ∧ (encR (all.map (·.1))).length ≤ 14336) ∧ Hid (dn = false → an = false ∧ LSt m 0 L (all.map (·.1)) k) ∧ Hid (dn = true → Torn m 0 (AfterF L (all.map (·.1)) (oth.map (·.1)) an sure) ∧ (encR ((all.map (·.1)).take k)).length ≤ sure ∧ sure ≤ (encR (all.map (·.1))).length ∧ k ≤ all.length ∧ 0 < L.gen ∧ L.bank ≤ 1 ∧ L.gen ≤ i + 1) ∧ m.writes ≤ 520 + 1800 * i + 1100 ∧ At W (lan P D 0 L * (dsk D m * (cel C d.cs.toArray 72 * F))) wc
/-- .. and what the frame is then. -/
def LrMeet (W : World) (D i : Nat) (C : Nat) (d : DdV) (P N0 cap g o n kq : Nat) (u22 u23 u24 u25 : Value) (a' : Act) (w' : World) : Prop :=
  ∃ u2 u4 u6 u7 u8 u9 u10 u13 u14 u15 u16 u17 u18 u19 u20 u21 u42 u43 u44 u45 u46 u47 u48 u50 u51 u52 u53 u54 u55 u56 u57 u58 u59 u60 u61 u62 u63 u64 u65 u66 u67 u68 u69 u70 u71 u72 u73 u74 u75 u76 u77 u78 u79 u80 u81 u82 u83 u84 u85 u86 u87 u88 u89 u90 u91 u92 u93 u94 u95 u96 u97 u98 u99 u100 u101 u102 u103 u104 u105 u106 u107 u108 u109 u110 u111 u112 u113 u114 u115 u116 u117 u118 u119 u120 u121 u122 u123 u124 u125 u126 u127 u128 u129 u130 u131 u132 u133 u134 u135 u136 u137 u138 u139 u140 u141 u142 u143 u144 u145 u146 u147 u148 u149 u150 u151 u152 u153 u154 u155 u156 u157 u158 u159 u160 u161 u162 u163 u164 u165 u166 u167 u168 u169 u170 u171 u172 u173 u174 u175 u176 u177 u178 u179 u180 u181 u182 u183 u184 u185 u186 u187 u188 u189 u190 u191 u192 u193 u194 u195 u196 u197 u198 u199 u200 u201 u202 u203 u204 u205 u206 u207 u208 u209 u210 u211 u212 u213 u214 u215 u216 u217 u218 u219 u220 u221 u222 u223 u224 u225 u226 u227 u228 u229 u230 u231 u232 u233 u234 u235 u236 u237 u238 u239 u240 u241 u242 u243 u244 u245 u246, LrPost W D i C d u4 u6 u7 u8 u9 u10 w' ∧ a' = ⟨#[.slice (some ⟨g, o, none⟩) n cap, undef, u2, .pointer (some ⟨D, 0, none⟩), u4, .int .i64 0, u6, u7, u8, u9, u10, undef, .pointer (some ⟨C, 0, none⟩), u13, u14, u15, u16, u17, u18, u19, u20, u21, u22, u23, u24, u25, .bool true, .bool false, .slice (some ⟨g, o, none⟩) n cap, .bool true, .bool false, .pointer (some ⟨D, 0, none⟩), .tuple #[.pointer (some ⟨P, 0, none⟩), .int .i64 0], .pointer (some ⟨D, 0, none⟩), .tuple #[.pointer (some ⟨P, 0, none⟩), .int .i64 0], .pointer (some ⟨P, 0, none⟩), .int .i64 0, .agg #[.int .i64 1, .int .i64 0, .int .i64 0, .int .i64 0, .string ⟨#[]⟩, .string ⟨#[]⟩, .string ⟨#[]⟩, .slice none 0 0], .slice (some ⟨N0, 0, none⟩) 1 1, .slice (some ⟨g, o, none⟩) n cap, .int .i64 (n : Nat), .int .i64 (i : Nat), u42, u43, u44, u45, u46, u47, u48, .int .i64 (((kq : Nat)) : Int), u50, u51, u52, u53, u54, u55, u56, u57, u58, u59, u60, u61, u62, u63, u64, u65, u66, u67, u68, u69, u70, u71, u72, u73, u74, u75, u76, u77, u78, u79, u80, u81, u82, u83, u84, u85, u86, u87, u88, u89, u90, u91, u92, u93, u94, u95, u96, u97, u98, u99, u100, u101, u102, u103, u104, u105, u106, u107, u108, u109, u110, u111, u112, u113, u114, u115, u116, u117, u118, u119, u120, u121, u122, u123, u124, u125, u126, u127, u128, u129, u130, u131, u132, u133, u134, u135, u136, u137, u138, u139, u140, u141, u142, u143, u144, u145, u146, u147, u148, u149, u150, u151, u152, u153, u154, u155, u156, u157, u158, u159, u160, u161, u162, u163, u164, u165, u166, u167, u168, u169, u170, u171, u172, u173, u174, u175, u176, u177, u178, u179, u180, u181, u182, u183, u184, u185, u186, u187, u188, u189, u190, u191, u192, u193, u194, u195, u196, u197, u198, u199, u200, u201, u202, u203, u204, u205, u206, u207, u208, u209, u210, u211, u212, u213, u214, u215, u216, u217, u218, u219, u220, u221, u222, u223, u224, u225, u226, u227, u228, u229, u230, u231, u232, u233, u234, u235, u236, u237, u238, u239, u240, u241, u242, u243, u244, u245, u246], []⟩
/-- A block of a text, by its number. -/
def findBlock (n : Nat) : Code → Option Code
  | .block m c => if m = n then some (.block m c) else findBlock n c
  | .seq a b => match findBlock n a with
    | some s => some s
    | none => findBlock n b
  | .cond _ a b => match findBlock n a with
    | some s => some s
    | none => findBlock n b
  | .loop c => findBlock n c
  | _ => none

set_option maxRecDepth 100000 in
set_option maxHeartbeats 64000000 in
theorem lr_arm0 (W : World) (n i : Nat) (hn60 : n ≤ 60) (i2 : TypeInfo) (z2 : Value) (hy0 : i2.zero = some z2) (hy1 : z2.cells.size = 8) (hy2 : i2.size = 8) (hy3 : i2.bytes = 104) (Hi2 : Hid (Try.prog.info? 44 = some i2)) (hil : i < n)
    (D P N0 cap g o P2 : Nat) (L2 : Ln) (m : Dk) (all : List RecV) (a6 : Option Addr) (c6 k : Nat) (F : HP) (u2 u8 u13 u14 u15 u16 u17 u18 u19 u20 u21 u22 u23 u24 u25 u50 u51 u52 u53 u54 u55 u56 u57 u58 u59 u60 u61 u62 u63 u64 u65 u66 u67 u68 u69 u70 u71 u72 u73 u74 u75 u76 u77 u78 u79 u80 u81 u82 u83 u84 u85 u86 u87 u88 u89 u90 u91 u92 u93 u94 u95 u96 u97 u98 u99 u100 u101 u102 u103 u104 u105 u106 u107 u108 u109 u110 u111 u112 u113 u114 u115 u116 u117 u118 u119 u120 u121 u122 u123 u124 u125 u126 u127 u128 u129 u130 u131 u132 u133 u134 u135 u136 u137 u138 u139 u140 u141 u142 u143 u144 u145 u146 u147 u148 u149 u150 u151 u152 u153 u154 u155 u156 u157 u158 u159 u160 u161 u162 u163 u164 u165 u166 u167 u168 u169 u170 u171 u172 u173 u174 u175 u176 u177 u178 u179 u180 u181 u182 u183 u184 u185 u186 u187 u188 u189 u190 u191 u192 u193 u194 u195 u196 u197 u198 u199 u200 u201 u202 u203 u204 u205 u206 u207 u208 u209 u210 u211 u212 u213 u214 u215 u216 u217 u218 u219 u220 u221 u222 u223 u224 u225 u226 u227 u228 u229 u230 u231 u232 u233 u234 u235 u236 u237 u238 u239 u240 u241 u242 u243 u244 u245 u246 : Value)
    (Hall : Hid (AllIn W F a6 c6 all)) (HF : Hid (∀ w', At W F w' → At W (old W * 1) w')) (Hst2 : Hid (LSt m 0 L2 (all.map (·.1)) k)) (Hg2 : Hid (L2.gen ≤ i + 1)) (hwr2 : m.writes ≤ 520 + 1800 * i)
    (d : DdV) (C : Nat) (HdIn : Hid (d.In W (old W * 1))) (Hd1 : Hid (d.sd.1.dirty.length ≤ 100)) (w5 : World) (h8 : At W (lan P2 D 0 L2 * (dsk D m * (cel C d.cs.toArray 72 * F))) w5) (d0 : w5.cell? ⟨C, 0, none⟩ = some (.int .i64 d.kind))
    (hkk : (d.kind.tmod 5 + 5).tmod 5 = (((0 : Nat)) : Int)) (hkw1 : IntKind.i64.wrap (d.kind.tmod 5) = d.kind.tmod 5) (hkw2 : IntKind.i64.wrap (d.kind.tmod 5 + 5) = d.kind.tmod 5 + 5) (hkw3 : IntKind.i64.wrap (((0 : Nat)) : Int) = (((0 : Nat)) : Int))
    (Hlo : Hid (L2.b = encR (all.map (·.1)) ∧ (encR (all.map (·.1))).length ≤ 14336)) (Jn Kn : Act → World → Prop) (Qx : Exit → Act → World → Prop)
    (hKM : ∀ a' w', Met Jn a' w' → Kn a' w') (hJ : ∀ a' w', LrMeet W D i C d P N0 cap g o n 0 u22 u23 u24 u25 a' w' → Jn a' w')
    (s : Code) (hs : Try.f10.body.bind (findBlock 2) = some s) :
    Code.wp Try.prog s (Exit.then Kn Qx) ⟨#[.slice (some ⟨g, o, none⟩) n cap, undef, u2, .pointer (some ⟨D, 0, none⟩), .pointer (some ⟨P2, 0, none⟩), .int .i64 0, .slice a6 all.length c6, .int .i64 (k : Nat), u8, .bool false, .bool false, undef, .pointer (some ⟨C, 0, none⟩), u13, u14, u15, u16, u17, u18, u19, u20, u21, u22, u23, u24, u25, .bool true, .bool false, .slice (some ⟨g, o, none⟩) n cap, .bool true, .bool false, .pointer (some ⟨D, 0, none⟩), .tuple #[.pointer (some ⟨P, 0, none⟩), .int .i64 0], .pointer (some ⟨D, 0, none⟩), .tuple #[.pointer (some ⟨P, 0, none⟩), .int .i64 0], .pointer (some ⟨P, 0, none⟩), .int .i64 0, .agg #[.int .i64 1, .int .i64 0, .int .i64 0, .int .i64 0, .string ⟨#[]⟩, .string ⟨#[]⟩, .string ⟨#[]⟩, .slice none 0 0], .slice (some ⟨N0, 0, none⟩) 1 1, .slice (some ⟨g, o, none⟩) n cap, .int .i64 (n : Nat), .int .i64 (i : Nat), .bool true, .pointer (some ⟨g, o + i * 11, none⟩), .agg d.cs.toArray, .pointer (some ⟨C, 0, none⟩), .int .i64 d.kind, .int .i64 (d.kind.tmod 5), .int .i64 (d.kind.tmod 5 + 5), .int .i64 (((0 : Nat)) : Int), u50, u51, u52, u53, u54, u55, u56, u57, u58, u59, u60, u61, u62, u63, u64, u65, u66, u67, u68, u69, u70, u71, u72, u73, u74, u75, u76, u77, u78, u79, u80, u81, u82, u83, u84, u85, u86, u87, u88, u89, u90, u91, u92, u93, u94, u95, u96, u97, u98, u99, u100, u101, u102, u103, u104, u105, u106, u107, u108, u109, u110, u111, u112, u113, u114, u115, u116, u117, u118, u119, u120, u121, u122, u123, u124, u125, u126, u127, u128, u129, u130, u131, u132, u133, u134, u135, u136, u137, u138, u139, u140, u141, u142, u143, u144, u145, u146, u147, u148, u149, u150, u151, u152, u153, u154, u155, u156, u157, u158, u159, u160, u161, u162, u163, u164, u165, u166, u167, u168, u169, u170, u171, u172, u173, u174, u175, u176, u177, u178, u179, u180, u181, u182, u183, u184, u185, u186, u187, u188, u189, u190, u191, u192, u193, u194, u195, u196, u197, u198, u199, u200, u201, u202, u203, u204, u205, u206, u207, u208, u209, u210, u211, u212, u213, u214, u215, u216, u217, u218, u219, u220, u221, u222, u223, u224, u225, u226, u227, u228, u229, u230, u231, u232, u233, u234, u235, u236, u237, u238, u239, u240, u241, u242, u243, u244, u245, u246], []⟩ w5 := by
  have hilz : (i : Int) < (n : Int) := by omega
  have left : u8 = u8 := rfl
  cases hs
  skip
  have hcs2 : ∀ j u, d.sd.cs[j]? = some u → w5.cell? ⟨C, 2 + j, none⟩ = some u := fun j u hu => At.cell h8.pull3 (by
    simp only [DdV.cs, List.getElem?_toArray]
    rw [show 2 + j = j + 2 by omega, List.getElem?_cons_succ, List.getElem?_cons_succ, List.getElem?_append_left (List.getElem?_eq_some_iff.1 hu).1]
    exact hu)
  have hsIn := HdIn.out.1
  have hd100 := Hd1.out
  obtain ⟨s, hs⟩ : ∃ s, d.sd = s := ⟨_, rfl⟩
  rw [hs] at hcs2 hsIn hd100
  obtain ⟨dl, hdl⟩ : ∃ dl, s.1.dirty.length = dl := ⟨_, rfl⟩
  rw [hdl] at hd100
  have HsIn := hide hsIn
  have Hdl := hide hdl
  clear hsIn hdl hs
  have hgood := Sd.good HsIn.out.1
  have hxl := Sd.rcd_len (s := s.1)
  have hrc := fun (R : HP) w' (hR : ∀ w', At W R w' → At W (old W * 1) w') (h : At W R w') => seedRec_v W w' R s (HsIn.out.of hR) (by rw [Hdl.out]; omega) h
  obtain ⟨x, hx⟩ : ∃ x, s.1.rcd = x := ⟨_, rfl⟩
  rw [hx] at hrc hgood hxl
  change ∀ (R : HP) w' (hR : ∀ w', At W R w' → At W (old W * 1) w') (h : At W R w'), Calls _ _ _ _ (fun e w' => ∃ a1 c1, e = .returned (.agg #[.int .i64 x.kind, .int .i64 x.txn, .int .i64 x.page, .int .i64 x.slot, .string x.before, .string x.after, .string x.image, .slice a1 x.dirty.length c1]) ∧ At W (row 33 1 (.slice a1 x.dirty.length c1) x.dirty.length (nus x.dirty) * R) w') at hrc
  have Hrc := hide hrc
  have Hgood := hide hgood
  have Hx := hide hx
  clear hrc hgood hx
  go_upto_region 16 with fail
  refine wp_region_lit ?_
  refine wpList_value rfl (v := .pointer (some ⟨C, 2, none⟩)) (by go_simp) ?_
  refine wpList_load_agg rfl (.tmp 57) 56 rfl _ Try.underlying56 rfl (ys := s.cs) (by rw [SdV.cs_len]; kernel_rfl) (g := C) (off := 2) (by go_simp) hcs2 ?_
  go_wp2_with fail
  refine (Hrc.out _ w5 (fun w' h' => HF.out w' h'.r.r.r) h8).mono ?_
  rintro e w6 ⟨a4, c4, rfl, h9⟩
  clear hcs2 d0 h8
  obtain ⟨X, hX⟩ : ∃ X, w6.heap.size = X := ⟨_, rfl⟩
  have h10 := h9.alloc' hX (.cells #[.int .i64 x.kind, .int .i64 x.txn, .int .i64 x.page, .int .i64 x.slot, .string x.before, .string x.after, .string x.image, .slice a4 x.dirty.length c4] 44)
  clear h9
  go_upto_region 17 with fail
  try rw [hX]
  generalize hW : w6.alloc _ = w7 at h10 ⊢
  clear hX hW
  have h11 := h10.cast (show _ = lan P2 D 0 L2 * (dsk D m * (cel C d.cs.toArray 72 * (cel X #[.int .i64 x.kind, .int .i64 x.txn, .int .i64 x.page, .int .i64 x.slot, .string x.before, .string x.after, .string x.image, .slice a4 x.dirty.length c4] 44 * (row 33 1 (.slice a4 x.dirty.length c4) x.dirty.length (nus x.dirty) * F)))) by unfold cel; ac_rfl)
  clear h10
  obtain ⟨T, hTe⟩ : ∃ T, (encR (all.map (·.1))).length = T := ⟨_, rfl⟩
  obtain ⟨n1, hn1⟩ : ∃ n1, x.enc.length = n1 := ⟨_, rfl⟩
  have hTl : T ≤ 14336 := by rw [← hTe]; exact Hlo.out.2
  have hnl : n1 ≤ 395 := by rw [← hn1]; exact Rec.enc_le Hgood.out
  have hal := encR_len_le Hlo.out.2
  rw [List.length_map] at hal
  have hwT := IntWalk.i64_in ((T : Int) + (n1 : Int)) (by omega)
  have HTe := hide hTe
  have Hn1 := hide hn1
  clear hTe hn1
  by_cases hft : T + n1 ≤ 14336
  · have hftz : (T : Int) + (n1 : Int) ≤ 14336 := by omega
    have hap := laneAppend_ok W w7 _ P2 D 0 x a4 c4 Hst2.out Hgood.out (by rw [HTe.out, Hn1.out]; exact hft) (fun w' h' => h'.r.r.r.rd) h11
    change Calls _ _ #[_, .agg #[.int .i64 x.kind, .int .i64 x.txn, .int .i64 x.page, .int .i64 x.slot, .string x.before, .string x.after, .string x.image, .slice a4 x.dirty.length c4]] _ _ at hap
    generalize L2.gen * 1048576 + _ + 1 = pl at hap
    refine wp_region_lit ?_
    refine wpList_value rfl (v := .pointer (some ⟨P2, 0, none⟩)) (by go_simp) ?_
    refine wpList_load_agg rfl (.tmp 13) 44 rfl _ Try.underlying44 rfl (ys := #[.int .i64 x.kind, .int .i64 x.txn, .int .i64 x.page, .int .i64 x.slot, .string x.before, .string x.after, .string x.image, .slice a4 x.dirty.length c4].toList) (by kernel_rfl) (g := X) (off := 0) (by go_simp) (fun j u hu => by rw [Nat.zero_add]; exact At.cell h11.pull4 (by simpa using hu)) ?_
    go_wp2_with fail
    refine hap.mono ?_
    rintro e w8 ⟨L3, rfl, hs3, hg3, hb3, h12⟩
    clear hap h11
    have Hs3 := hide hs3
    have hR := ((((Hall.out.1.mono (B := row 33 1 (.slice a4 x.dirty.length c4) x.dirty.length (nus x.dirty))).mono (B := cel X #[.int .i64 x.kind, .int .i64 x.txn, .int .i64 x.page, .int .i64 x.slot, .string x.before, .string x.after, .string x.image, .slice a4 x.dirty.length c4] 44)).mono (B := cel C d.cs.toArray 72)).mono (B := dsk D m)).mono (B := lan P2 D 0 L3)
    have hsz := fun w' (h' : At W (lan P2 D 0 L3 * (dsk D m * (cel C d.cs.toArray 72 * (cel X #[.int .i64 x.kind, .int .i64 x.txn, .int .i64 x.page, .int .i64 x.slot, .string x.before, .string x.after, .string x.image, .slice a4 x.dirty.length c4] 44 * (row 33 1 (.slice a4 x.dirty.length c4) x.dirty.length (nus x.dirty) * F))))) w') => lawSize_any W w' _ a6 c6 all (by omega) Hall.out.2.1 hR h'
    rw [encs_encR, HTe.out] at hsz
    have hen := fun w' (h' : At W (lan P2 D 0 L3 * (dsk D m * (cel C d.cs.toArray 72 * (cel X #[.int .i64 x.kind, .int .i64 x.txn, .int .i64 x.page, .int .i64 x.slot, .string x.before, .string x.after, .string x.image, .slice a4 x.dirty.length c4] 44 * (row 33 1 (.slice a4 x.dirty.length c4) x.dirty.length (nus x.dirty) * F))))) w') => recEncode_any W w' _ x a4 c4 (Rec.fair Hgood.out.right Hgood.out.nums) (fun w1 h1 => h1.r.r.r.r.rd) h'
    rw [Hn1.out] at hen
    change ∀ (w' : World) h', Calls _ _ #[.agg #[.int .i64 x.kind, .int .i64 x.txn, .int .i64 x.page, .int .i64 x.slot, .string x.before, .string x.after, .string x.image, .slice a4 x.dirty.length c4]] w' _ at hen
    clear hs3 hR
    go_upto_region 18 with fail
    have hs1 := hsz _ h12.drew
    go_region_held3 (fun w' => w'.cell? ⟨X, 0, none⟩ = some (.int .i64 x.kind) ∧ w'.cell? ⟨X, 1, none⟩ = some (.int .i64 x.txn) ∧ w'.cell? ⟨X, 2, none⟩ = some (.int .i64 x.page) ∧ w'.cell? ⟨X, 3, none⟩ = some (.int .i64 x.slot) ∧ w'.cell? ⟨X, 4, none⟩ = some (.string x.before) ∧ w'.cell? ⟨X, 5, none⟩ = some (.string x.after) ∧ w'.cell? ⟨X, 6, none⟩ = some (.string x.image) ∧ w'.cell? ⟨X, 7, none⟩ = some (.slice a4 x.dirty.length c4)) (first | exact ⟨At.cell h12.drew.pull4 rfl, At.cell h12.drew.pull4 rfl, At.cell h12.drew.pull4 rfl, At.cell h12.drew.pull4 rfl, At.cell h12.drew.pull4 rfl, At.cell h12.drew.pull4 rfl, At.cell h12.drew.pull4 rfl, At.cell h12.drew.pull4 rfl⟩ | exact ⟨At.cell h13.pull4 rfl, At.cell h13.pull4 rfl, At.cell h13.pull4 rfl, At.cell h13.pull4 rfl, At.cell h13.pull4 rfl, At.cell h13.pull4 rfl, At.cell h13.pull4 rfl, At.cell h13.pull4 rfl⟩ | exact ⟨At.cell h14.r.pull4 rfl, At.cell h14.r.pull4 rfl, At.cell h14.r.pull4 rfl, At.cell h14.r.pull4 rfl, At.cell h14.r.pull4 rfl, At.cell h14.r.pull4 rfl, At.cell h14.r.pull4 rfl, At.cell h14.r.pull4 rfl⟩) (first | ((with_reducible refine hs1.mono ?_); rintro e w9 ⟨rfl, h13⟩) | ((with_reducible refine (hen w9 h13).mono ?_); rintro e w10 ⟨a1, c1, rfl, h14⟩))
    have h15 := h14.r
    have hcp := Hall.out.2.2.1
    have hlc : (all.length : Int) ≤ (c6 : Int) := by omega
    have hl0 : (0 : Int) ≤ (all.length : Int) := by omega
    have hdir : ∀ y ∈ all ++ [(x, a4, c4)], DirIn W (cel w10.heap.size (RecV.cs (x, a4, c4)).toArray 44 * (cel X #[.int .i64 x.kind, .int .i64 x.txn, .int .i64 x.page, .int .i64 x.slot, .string x.before, .string x.after, .string x.image, .slice a4 x.dirty.length c4] 44 * (row 33 1 (.slice a4 x.dirty.length c4) x.dirty.length (nus x.dirty) * F))) y := fun y hy => by
      rcases List.mem_append.1 hy with h1 | h1
      · exact (((Hall.out.1.mono (B := row 33 1 (.slice a4 x.dirty.length c4) x.dirty.length (nus x.dirty))).mono (B := cel X #[.int .i64 x.kind, .int .i64 x.txn, .int .i64 x.page, .int .i64 x.slot, .string x.before, .string x.after, .string x.image, .slice a4 x.dirty.length c4] 44)).mono (B := cel w10.heap.size (RecV.cs (x, a4, c4)).toArray 44)).2.1 y h1
      · rw [List.mem_singleton.1 h1]
        exact fun w' h' => h'.r.r.rd
    have hG : GoodV (all ++ [(x, a4, c4)]) := fun y hy => by
      rcases List.mem_append.1 hy with h1 | h1
      · exact Hall.out.2.1 y h1
      · rw [List.mem_singleton.1 h1]; exact Hgood.out
    have hs4 : LSt m 0 L3 ((all ++ [(x, a4, c4)]).map (·.1)) k := by rw [List.map_append]; exact Hs3.out
    have Hs4 := hide hs4
    have Hdir := hide hdir
    have HG := hide hG
    have hg3' : L3.gen ≤ i + 2 := by have := Hg2.out; omega
    clear hs4 hdir hG
    have h16 := ((h15.alloc' rfl (.cells #[.int .i64 x.kind, .int .i64 x.txn, .int .i64 x.page, .int .i64 x.slot, .string x.before, .string x.after, .string x.image, .slice a4 x.dirty.length c4] 44)).drew).cast (show _ = cel w10.heap.size (RecV.cs (x, a4, c4)).toArray 44 * (lan P2 D 0 L3 * (dsk D m * (cel C d.cs.toArray 72 * (cel X #[.int .i64 x.kind, .int .i64 x.txn, .int .i64 x.page, .int .i64 x.slot, .string x.before, .string x.after, .string x.image, .slice a4 x.dirty.length c4] 44 * (row 33 1 (.slice a4 x.dirty.length c4) x.dirty.length (nus x.dirty) * F))))) from rfl)
    have hra := recs_one (w0 := W) (R := lan P2 D 0 L3 * (dsk D m * (cel C d.cs.toArray 72 * (cel X #[.int .i64 x.kind, .int .i64 x.txn, .int .i64 x.page, .int .i64 x.slot, .string x.before, .string x.after, .string x.image, .slice a4 x.dirty.length c4] 44 * (row 33 1 (.slice a4 x.dirty.length c4) x.dirty.length (nus x.dirty) * F))))) (N := w10.heap.size) (x, a4, c4) 44 (fun w' h' => h'.r.r.r.r.rd) Hgood.out.nums
    have hNr := (((((Hall.out.1.mono (B := row 33 1 (.slice a4 x.dirty.length c4) x.dirty.length (nus x.dirty))).mono (B := cel X #[.int .i64 x.kind, .int .i64 x.txn, .int .i64 x.page, .int .i64 x.slot, .string x.before, .string x.after, .string x.image, .slice a4 x.dirty.length c4] 44)).mono (B := cel C d.cs.toArray 72)).mono (B := dsk D m)).mono (B := lan P2 D 0 L3)).mono (B := cel w10.heap.size (RecV.cs (x, a4, c4)).toArray 44)
    rcases Hall.out.2.2.2 with ⟨rfl, hnil, rfl⟩ | ⟨g6, o6, rfl⟩
    · subst hnil
      go_upto_region 21 with fail
      refine wp_region_line [0, 1, 2, 3, 4, 5, 6, 7, 8, 9] rfl (by kernel_rfl) ?_
      simp only [picks_cons, picks_nil, getD_zero, getD_succ]
      go_wp2_with (at_builtin; go_loud (refine wpList_append_all rfl (.tmp 83) (.tmp 85) 62 rfl i2 z2 Try.underlying62 Hi2.out hy0 hy2 hy3 hy1 (a0 := none) (n := ([] : List RecV).length) (rs := ([] : List RecV)) rfl (.inl ⟨rfl, rfl⟩) rfl h16 hNr (ad := some ⟨w10.heap.size, 0, none⟩) (c := 1) (ys := [(x, a4, c4)]) rfl (fun h => by cases h) Nat.one_pos hra (by simp only [List.length_cons, List.length_nil]; omega) ?_))
      intro ar cp w12 h17
      as_aux_lemma =>
        change At W (row 44 8 (.slice ar ([(x, a4, c4)] : List RecV).length cp) ([(x, a4, c4)] : List RecV).length (([(x, a4, c4)] : List RecV).flatMap RecV.cs) * _) w12 at h17
        rw [List.nil_append] at Hs4 Hdir HG
        have h18 := h17.cast (show _ = lan P2 D 0 L3 * (dsk D m * (cel C d.cs.toArray 72 * (row 44 8 (.slice ar ([(x, a4, c4)] : List RecV).length cp) ([(x, a4, c4)] : List RecV).length (([(x, a4, c4)] : List RecV).flatMap RecV.cs) * (cel w10.heap.size (RecV.cs (x, a4, c4)).toArray 44 * (cel X #[.int .i64 x.kind, .int .i64 x.txn, .int .i64 x.page, .int .i64 x.slot, .string x.before, .string x.after, .string x.image, .slice a4 x.dirty.length c4] 44 * (row 33 1 (.slice a4 x.dirty.length c4) x.dirty.length (nus x.dirty) * F)))))) by ac_rfl)
        have hnew := AllIn.of_row rfl HG.out Hdir.out h18.r.r.r
        have Hnew := hide hnew
        clear h15 h16 h17 hra hNr hnew
        go_wp2_with fail
        refine ⟨by kernel_rfl, ?_⟩
        go_wp2_with fail
        go_meet
        exact ⟨P2, L3, m, ([(x, a4, c4)] : List RecV), ar, cp, k, [], none, 0, 0, false, false, _, rfl, rfl, rfl, (fun h => by cases h), rfl, rfl, Hnew, hide (fun h => by cases h), hide (fun w' h' => HF.out w' h'.r.r.r.r), hide ⟨Hs4.out.b, hg3', Hs4.out.len⟩, hide (fun _ => ⟨rfl, Hs4.out⟩), hide (fun h => by cases h), by omega, h18⟩
    · skip
      go_upto_region 21 with fail
      refine wp_region_line [0, 1, 2, 3, 4, 5, 6, 7, 8, 9] rfl (by kernel_rfl) ?_
      simp only [picks_cons, picks_nil, getD_zero, getD_succ]
      go_wp2_with (at_builtin; go_loud (refine wpList_append_all rfl (.tmp 83) (.tmp 85) 62 rfl i2 z2 Try.underlying62 Hi2.out hy0 hy2 hy3 hy1 (a0 := some ⟨g6, o6, none⟩) (n := all.length) (rs := all) rfl (.inr ⟨_, _, rfl⟩) rfl h16 hNr (ad := some ⟨w10.heap.size, 0, none⟩) (c := 1) (ys := [(x, a4, c4)]) rfl (fun h => by cases h) Nat.one_pos hra (by simp only [List.length_cons, List.length_nil]; omega) ?_))
      intro ar cp w12 h17
      as_aux_lemma =>
        have hl1 : all.length + 1 = (all ++ [(x, a4, c4)]).length := by rw [List.length_append]; rfl
        have hf1 : List.flatMap RecV.cs all ++ RecV.cs (x, a4, c4) = (all ++ [(x, a4, c4)]).flatMap RecV.cs := by rw [List.flatMap_append]; simp
        rw [hl1, hf1] at h17
        rw [hl1]
        clear hl1 hf1
        obtain ⟨al2, hal2⟩ : ∃ al2, all ++ [(x, a4, c4)] = al2 := ⟨_, rfl⟩
        rw [hal2] at h17 Hs4 Hdir HG ⊢
        have h18 := h17.cast (show _ = lan P2 D 0 L3 * (dsk D m * (cel C d.cs.toArray 72 * (row 44 8 (.slice ar al2.length cp) al2.length (al2.flatMap RecV.cs) * (cel w10.heap.size (RecV.cs (x, a4, c4)).toArray 44 * (cel X #[.int .i64 x.kind, .int .i64 x.txn, .int .i64 x.page, .int .i64 x.slot, .string x.before, .string x.after, .string x.image, .slice a4 x.dirty.length c4] 44 * (row 33 1 (.slice a4 x.dirty.length c4) x.dirty.length (nus x.dirty) * F)))))) by ac_rfl)
        have hnew := AllIn.of_row rfl HG.out Hdir.out h18.r.r.r
        have Hnew := hide hnew
        clear h15 h16 h17 hra hNr hnew hal2
        go_wp2_with fail
        refine ⟨by kernel_rfl, ?_⟩
        go_wp2_with fail
        go_meet
        exact ⟨P2, L3, m, al2, ar, cp, k, [], none, 0, 0, false, false, _, rfl, rfl, rfl, (fun h => by cases h), rfl, rfl, Hnew, hide (fun h => by cases h), hide (fun w' h' => HF.out w' h'.r.r.r.r), hide ⟨Hs4.out.b, hg3', Hs4.out.len⟩, hide (fun _ => ⟨rfl, Hs4.out⟩), hide (fun h => by cases h), by omega, h18⟩
  · as_aux_lemma =>
    have hftz : ¬ (T : Int) + (n1 : Int) ≤ 14336 := by omega
    have hap := laneAppend_full W w7 _ P2 D 0 x a4 c4 Hst2.out Hgood.out (by rw [HTe.out, Hn1.out]; exact hft) (fun w' h' => h'.r.r.r.rd) h11
    change Calls _ _ #[_, .agg #[.int .i64 x.kind, .int .i64 x.txn, .int .i64 x.page, .int .i64 x.slot, .string x.before, .string x.after, .string x.image, .slice a4 x.dirty.length c4]] _ _ at hap
    refine wp_region_lit ?_
    refine wpList_value rfl (v := .pointer (some ⟨P2, 0, none⟩)) (by go_simp) ?_
    refine wpList_load_agg rfl (.tmp 13) 44 rfl _ Try.underlying44 rfl (ys := #[.int .i64 x.kind, .int .i64 x.txn, .int .i64 x.page, .int .i64 x.slot, .string x.before, .string x.after, .string x.image, .slice a4 x.dirty.length c4].toList) (by kernel_rfl) (g := X) (off := 0) (by go_simp) (fun j u hu => by rw [Nat.zero_add]; exact At.cell h11.pull4 (by simpa using hu)) ?_
    go_wp2_with fail
    refine hap.mono ?_
    rintro e w8 ⟨rfl, h12⟩
    clear hap h11
    have hR := ((((Hall.out.1.mono (B := row 33 1 (.slice a4 x.dirty.length c4) x.dirty.length (nus x.dirty))).mono (B := cel X #[.int .i64 x.kind, .int .i64 x.txn, .int .i64 x.page, .int .i64 x.slot, .string x.before, .string x.after, .string x.image, .slice a4 x.dirty.length c4] 44)).mono (B := cel C d.cs.toArray 72)).mono (B := dsk D m)).mono (B := lan P2 D 0 L2)
    have hsz := fun w' (h' : At W (lan P2 D 0 L2 * (dsk D m * (cel C d.cs.toArray 72 * (cel X #[.int .i64 x.kind, .int .i64 x.txn, .int .i64 x.page, .int .i64 x.slot, .string x.before, .string x.after, .string x.image, .slice a4 x.dirty.length c4] 44 * (row 33 1 (.slice a4 x.dirty.length c4) x.dirty.length (nus x.dirty) * F))))) w') => lawSize_any W w' _ a6 c6 all (by omega) Hall.out.2.1 hR h'
    rw [encs_encR, HTe.out] at hsz
    have hen := fun w' (h' : At W (lan P2 D 0 L2 * (dsk D m * (cel C d.cs.toArray 72 * (cel X #[.int .i64 x.kind, .int .i64 x.txn, .int .i64 x.page, .int .i64 x.slot, .string x.before, .string x.after, .string x.image, .slice a4 x.dirty.length c4] 44 * (row 33 1 (.slice a4 x.dirty.length c4) x.dirty.length (nus x.dirty) * F))))) w') => recEncode_any W w' _ x a4 c4 (Rec.fair Hgood.out.right Hgood.out.nums) (fun w1 h1 => h1.r.r.r.r.rd) h'
    rw [Hn1.out] at hen
    change ∀ (w' : World) h', Calls _ _ #[.agg #[.int .i64 x.kind, .int .i64 x.txn, .int .i64 x.page, .int .i64 x.slot, .string x.before, .string x.after, .string x.image, .slice a4 x.dirty.length c4]] w' _ at hen
    clear hR
    go_upto_region 18 with fail
    have hs1 := hsz _ h12.drew
    go_region_held3 (fun w' => w'.cell? ⟨X, 0, none⟩ = some (.int .i64 x.kind) ∧ w'.cell? ⟨X, 1, none⟩ = some (.int .i64 x.txn) ∧ w'.cell? ⟨X, 2, none⟩ = some (.int .i64 x.page) ∧ w'.cell? ⟨X, 3, none⟩ = some (.int .i64 x.slot) ∧ w'.cell? ⟨X, 4, none⟩ = some (.string x.before) ∧ w'.cell? ⟨X, 5, none⟩ = some (.string x.after) ∧ w'.cell? ⟨X, 6, none⟩ = some (.string x.image) ∧ w'.cell? ⟨X, 7, none⟩ = some (.slice a4 x.dirty.length c4)) (first | exact ⟨At.cell h12.drew.pull4 rfl, At.cell h12.drew.pull4 rfl, At.cell h12.drew.pull4 rfl, At.cell h12.drew.pull4 rfl, At.cell h12.drew.pull4 rfl, At.cell h12.drew.pull4 rfl, At.cell h12.drew.pull4 rfl, At.cell h12.drew.pull4 rfl⟩ | exact ⟨At.cell h13.pull4 rfl, At.cell h13.pull4 rfl, At.cell h13.pull4 rfl, At.cell h13.pull4 rfl, At.cell h13.pull4 rfl, At.cell h13.pull4 rfl, At.cell h13.pull4 rfl, At.cell h13.pull4 rfl⟩ | exact ⟨At.cell h14.r.pull4 rfl, At.cell h14.r.pull4 rfl, At.cell h14.r.pull4 rfl, At.cell h14.r.pull4 rfl, At.cell h14.r.pull4 rfl, At.cell h14.r.pull4 rfl, At.cell h14.r.pull4 rfl, At.cell h14.r.pull4 rfl⟩) (first | ((with_reducible refine hs1.mono ?_); rintro e w9 ⟨rfl, h13⟩) | ((with_reducible refine (hen w9 h13).mono ?_); rintro e w10 ⟨a1, c1, rfl, h14⟩))
    have h15 := h14.r
    go_wp2_with fail
    go_meet
    exact ⟨P2, L2, m, all, a6, c6, k, [], none, 0, 0, false, false, cel X #[.int .i64 x.kind, .int .i64 x.txn, .int .i64 x.page, .int .i64 x.slot, .string x.before, .string x.after, .string x.image, .slice a4 x.dirty.length c4] 44 * (row 33 1 (.slice a4 x.dirty.length c4) x.dirty.length (nus x.dirty) * F), rfl, rfl, rfl, (fun h => by cases h), rfl, rfl, hide Hall.out.mono.mono, hide (fun h => by cases h), hide (fun w' h' => HF.out w' h'.r.r), hide ⟨Hlo.out.1, by have := Hg2.out; omega, Hlo.out.2⟩, hide (fun _ => ⟨rfl, Hst2.out⟩), hide (fun h => by cases h), by omega, h15⟩

set_option maxRecDepth 100000 in
set_option maxHeartbeats 64000000 in
theorem lr_arm1 (W : World) (n i : Nat) (hn60 : n ≤ 60) (i2 : TypeInfo) (z2 : Value) (hy0 : i2.zero = some z2) (hy1 : z2.cells.size = 8) (hy2 : i2.size = 8) (hy3 : i2.bytes = 104) (Hi2 : Hid (Try.prog.info? 44 = some i2)) (hil : i < n)
    (D P N0 cap g o P2 : Nat) (L2 : Ln) (m : Dk) (all : List RecV) (a6 : Option Addr) (c6 k : Nat) (F : HP) (u2 u8 u13 u14 u15 u16 u17 u18 u19 u20 u21 u22 u23 u24 u25 u50 u51 u52 u53 u54 u55 u56 u57 u58 u59 u60 u61 u62 u63 u64 u65 u66 u67 u68 u69 u70 u71 u72 u73 u74 u75 u76 u77 u78 u79 u80 u81 u82 u83 u84 u85 u86 u87 u88 u89 u90 u91 u92 u93 u94 u95 u96 u97 u98 u99 u100 u101 u102 u103 u104 u105 u106 u107 u108 u109 u110 u111 u112 u113 u114 u115 u116 u117 u118 u119 u120 u121 u122 u123 u124 u125 u126 u127 u128 u129 u130 u131 u132 u133 u134 u135 u136 u137 u138 u139 u140 u141 u142 u143 u144 u145 u146 u147 u148 u149 u150 u151 u152 u153 u154 u155 u156 u157 u158 u159 u160 u161 u162 u163 u164 u165 u166 u167 u168 u169 u170 u171 u172 u173 u174 u175 u176 u177 u178 u179 u180 u181 u182 u183 u184 u185 u186 u187 u188 u189 u190 u191 u192 u193 u194 u195 u196 u197 u198 u199 u200 u201 u202 u203 u204 u205 u206 u207 u208 u209 u210 u211 u212 u213 u214 u215 u216 u217 u218 u219 u220 u221 u222 u223 u224 u225 u226 u227 u228 u229 u230 u231 u232 u233 u234 u235 u236 u237 u238 u239 u240 u241 u242 u243 u244 u245 u246 : Value)
    (Hall : Hid (AllIn W F a6 c6 all)) (HF : Hid (∀ w', At W F w' → At W (old W * 1) w')) (Hst2 : Hid (LSt m 0 L2 (all.map (·.1)) k)) (Hg2 : Hid (L2.gen ≤ i + 1)) (hwr2 : m.writes ≤ 520 + 1800 * i)
    (d : DdV) (C : Nat) (HdIn : Hid (d.In W (old W * 1))) (Hd1 : Hid (d.sd.1.dirty.length ≤ 100)) (w5 : World) (h8 : At W (lan P2 D 0 L2 * (dsk D m * (cel C d.cs.toArray 72 * F))) w5) (d0 : w5.cell? ⟨C, 0, none⟩ = some (.int .i64 d.kind))
    (hkk : (d.kind.tmod 5 + 5).tmod 5 = (((1 : Nat)) : Int)) (hkw1 : IntKind.i64.wrap (d.kind.tmod 5) = d.kind.tmod 5) (hkw2 : IntKind.i64.wrap (d.kind.tmod 5 + 5) = d.kind.tmod 5 + 5) (hkw3 : IntKind.i64.wrap (((1 : Nat)) : Int) = (((1 : Nat)) : Int))
    (Hlo : Hid (L2.b = encR (all.map (·.1)) ∧ (encR (all.map (·.1))).length ≤ 14336)) (Jn Kn : Act → World → Prop) (Qx : Exit → Act → World → Prop)
    (hKM : ∀ a' w', Met Jn a' w' → Kn a' w') (hJ : ∀ a' w', LrMeet W D i C d P N0 cap g o n 1 u22 u23 u24 u25 a' w' → Jn a' w')
    (s : Code) (hs : Try.f10.body.bind (findBlock 2) = some s) :
    Code.wp Try.prog s (Exit.then Kn Qx) ⟨#[.slice (some ⟨g, o, none⟩) n cap, undef, u2, .pointer (some ⟨D, 0, none⟩), .pointer (some ⟨P2, 0, none⟩), .int .i64 0, .slice a6 all.length c6, .int .i64 (k : Nat), u8, .bool false, .bool false, undef, .pointer (some ⟨C, 0, none⟩), u13, u14, u15, u16, u17, u18, u19, u20, u21, u22, u23, u24, u25, .bool true, .bool false, .slice (some ⟨g, o, none⟩) n cap, .bool true, .bool false, .pointer (some ⟨D, 0, none⟩), .tuple #[.pointer (some ⟨P, 0, none⟩), .int .i64 0], .pointer (some ⟨D, 0, none⟩), .tuple #[.pointer (some ⟨P, 0, none⟩), .int .i64 0], .pointer (some ⟨P, 0, none⟩), .int .i64 0, .agg #[.int .i64 1, .int .i64 0, .int .i64 0, .int .i64 0, .string ⟨#[]⟩, .string ⟨#[]⟩, .string ⟨#[]⟩, .slice none 0 0], .slice (some ⟨N0, 0, none⟩) 1 1, .slice (some ⟨g, o, none⟩) n cap, .int .i64 (n : Nat), .int .i64 (i : Nat), .bool true, .pointer (some ⟨g, o + i * 11, none⟩), .agg d.cs.toArray, .pointer (some ⟨C, 0, none⟩), .int .i64 d.kind, .int .i64 (d.kind.tmod 5), .int .i64 (d.kind.tmod 5 + 5), .int .i64 (((1 : Nat)) : Int), u50, u51, u52, u53, u54, u55, u56, u57, u58, u59, u60, u61, u62, u63, u64, u65, u66, u67, u68, u69, u70, u71, u72, u73, u74, u75, u76, u77, u78, u79, u80, u81, u82, u83, u84, u85, u86, u87, u88, u89, u90, u91, u92, u93, u94, u95, u96, u97, u98, u99, u100, u101, u102, u103, u104, u105, u106, u107, u108, u109, u110, u111, u112, u113, u114, u115, u116, u117, u118, u119, u120, u121, u122, u123, u124, u125, u126, u127, u128, u129, u130, u131, u132, u133, u134, u135, u136, u137, u138, u139, u140, u141, u142, u143, u144, u145, u146, u147, u148, u149, u150, u151, u152, u153, u154, u155, u156, u157, u158, u159, u160, u161, u162, u163, u164, u165, u166, u167, u168, u169, u170, u171, u172, u173, u174, u175, u176, u177, u178, u179, u180, u181, u182, u183, u184, u185, u186, u187, u188, u189, u190, u191, u192, u193, u194, u195, u196, u197, u198, u199, u200, u201, u202, u203, u204, u205, u206, u207, u208, u209, u210, u211, u212, u213, u214, u215, u216, u217, u218, u219, u220, u221, u222, u223, u224, u225, u226, u227, u228, u229, u230, u231, u232, u233, u234, u235, u236, u237, u238, u239, u240, u241, u242, u243, u244, u245, u246], []⟩ w5 := by
  have hilz : (i : Int) < (n : Int) := by omega
  have left : u8 = u8 := rfl
  cases hs
  skip
  have hfl := laneFlush_any W w5 _ P2 D 0 L2 m Hst2.out.rest.hr (by omega) h8
  obtain ⟨g1, g2, g3, g4, g5, g6, g7, g8⟩ := Hst2.out.flush
  have hgen0 := Hst2.out.rest.gen0
  have hbk := Hst2.out.rest.bankle
  generalize hfr : L2.flush m 0 = fr at hfl g1 g3 g4 g6 g7 g8
  obtain ⟨cd, L3, m3⟩ := fr
  simp only at hfl g1 g3 g4 g6 g7 g8
  clear h8 hfr g2 g3 g4 g5
  rcases g1 with rfl | rfl
  · obtain ⟨q1, q2, q3, q4⟩ := g7 rfl
    rw [List.length_map] at q1
    have hq := hide q1
    clear g7 g8 q1
    go_wp2_with fail
    refine hfl.mono ?_
    rintro e w6 ⟨rfl, h9⟩
    clear hfl d0
    go_wp2_with fail
    go_meet
    exact ⟨P2, L3, m3, all, a6, c6, all.length, [], none, 0, 0, false, false, F, rfl, rfl, rfl, (fun h => by cases h), rfl, rfl, Hall, hide (fun h => by cases h), HF, hide ⟨hq.out.b, by have := Hg2.out; omega, Hlo.out.2⟩, hide (fun _ => ⟨rfl, hq.out⟩), hide (fun h => by cases h), by omega, h9⟩
  · obtain ⟨rfl, q2⟩ := g8 (by decide)
    have hq := hide q2
    clear g7 g8 q2
    go_wp2_with fail
    refine hfl.mono ?_
    rintro e w6 ⟨rfl, h9⟩
    clear hfl d0
    go_wp2_with fail
    go_meet
    exact ⟨P2, L3, m3, all, a6, c6, k, [], none, 0, L3.sure, true, false, F, rfl, rfl, rfl, (fun h => by cases h), rfl, rfl, Hall, hide (fun h => by cases h), HF, hide ⟨Hlo.out.1, by have := Hg2.out; omega, Hlo.out.2⟩, hide (fun h => by cases h), hide (fun _ => ⟨hq.out.imp fun f hf => .inl hf, Nat.le_of_eq Hst2.out.sure.symm, by rw [Hst2.out.sure]; exact encR_take_le _ _, by have := Hst2.out.kle; rwa [List.length_map] at this, hgen0, hbk, by have := Hg2.out; omega⟩), by omega, h9⟩

set_option maxRecDepth 100000 in
set_option maxHeartbeats 64000000 in
theorem lr_arm3 (W : World) (n i : Nat) (hn60 : n ≤ 60) (i2 : TypeInfo) (z2 : Value) (hy0 : i2.zero = some z2) (hy1 : z2.cells.size = 8) (hy2 : i2.size = 8) (hy3 : i2.bytes = 104) (Hi2 : Hid (Try.prog.info? 44 = some i2)) (hil : i < n)
    (D P N0 cap g o P2 : Nat) (L2 : Ln) (m : Dk) (all : List RecV) (a6 : Option Addr) (c6 k : Nat) (F : HP) (u2 u8 u13 u14 u15 u16 u17 u18 u19 u20 u21 u22 u23 u24 u25 u50 u51 u52 u53 u54 u55 u56 u57 u58 u59 u60 u61 u62 u63 u64 u65 u66 u67 u68 u69 u70 u71 u72 u73 u74 u75 u76 u77 u78 u79 u80 u81 u82 u83 u84 u85 u86 u87 u88 u89 u90 u91 u92 u93 u94 u95 u96 u97 u98 u99 u100 u101 u102 u103 u104 u105 u106 u107 u108 u109 u110 u111 u112 u113 u114 u115 u116 u117 u118 u119 u120 u121 u122 u123 u124 u125 u126 u127 u128 u129 u130 u131 u132 u133 u134 u135 u136 u137 u138 u139 u140 u141 u142 u143 u144 u145 u146 u147 u148 u149 u150 u151 u152 u153 u154 u155 u156 u157 u158 u159 u160 u161 u162 u163 u164 u165 u166 u167 u168 u169 u170 u171 u172 u173 u174 u175 u176 u177 u178 u179 u180 u181 u182 u183 u184 u185 u186 u187 u188 u189 u190 u191 u192 u193 u194 u195 u196 u197 u198 u199 u200 u201 u202 u203 u204 u205 u206 u207 u208 u209 u210 u211 u212 u213 u214 u215 u216 u217 u218 u219 u220 u221 u222 u223 u224 u225 u226 u227 u228 u229 u230 u231 u232 u233 u234 u235 u236 u237 u238 u239 u240 u241 u242 u243 u244 u245 u246 : Value)
    (Hall : Hid (AllIn W F a6 c6 all)) (HF : Hid (∀ w', At W F w' → At W (old W * 1) w')) (Hst2 : Hid (LSt m 0 L2 (all.map (·.1)) k)) (Hg2 : Hid (L2.gen ≤ i + 1)) (hwr2 : m.writes ≤ 520 + 1800 * i)
    (d : DdV) (C : Nat) (HdIn : Hid (d.In W (old W * 1))) (Hd1 : Hid (d.sd.1.dirty.length ≤ 100)) (w5 : World) (h8 : At W (lan P2 D 0 L2 * (dsk D m * (cel C d.cs.toArray 72 * F))) w5) (d0 : w5.cell? ⟨C, 0, none⟩ = some (.int .i64 d.kind))
    (hkk : (d.kind.tmod 5 + 5).tmod 5 = (((3 : Nat)) : Int)) (hkw1 : IntKind.i64.wrap (d.kind.tmod 5) = d.kind.tmod 5) (hkw2 : IntKind.i64.wrap (d.kind.tmod 5 + 5) = d.kind.tmod 5 + 5) (hkw3 : IntKind.i64.wrap (((3 : Nat)) : Int) = (((3 : Nat)) : Int))
    (Hlo : Hid (L2.b = encR (all.map (·.1)) ∧ (encR (all.map (·.1))).length ≤ 14336)) (Jn Kn : Act → World → Prop) (Qx : Exit → Act → World → Prop)
    (hKM : ∀ a' w', Met Jn a' w' → Kn a' w') (hJ : ∀ a' w', LrMeet W D i C d P N0 cap g o n 3 u22 u23 u24 u25 a' w' → Jn a' w')
    (s : Code) (hs : Try.f10.body.bind (findBlock 2) = some s) :
    Code.wp Try.prog s (Exit.then Kn Qx) ⟨#[.slice (some ⟨g, o, none⟩) n cap, undef, u2, .pointer (some ⟨D, 0, none⟩), .pointer (some ⟨P2, 0, none⟩), .int .i64 0, .slice a6 all.length c6, .int .i64 (k : Nat), u8, .bool false, .bool false, undef, .pointer (some ⟨C, 0, none⟩), u13, u14, u15, u16, u17, u18, u19, u20, u21, u22, u23, u24, u25, .bool true, .bool false, .slice (some ⟨g, o, none⟩) n cap, .bool true, .bool false, .pointer (some ⟨D, 0, none⟩), .tuple #[.pointer (some ⟨P, 0, none⟩), .int .i64 0], .pointer (some ⟨D, 0, none⟩), .tuple #[.pointer (some ⟨P, 0, none⟩), .int .i64 0], .pointer (some ⟨P, 0, none⟩), .int .i64 0, .agg #[.int .i64 1, .int .i64 0, .int .i64 0, .int .i64 0, .string ⟨#[]⟩, .string ⟨#[]⟩, .string ⟨#[]⟩, .slice none 0 0], .slice (some ⟨N0, 0, none⟩) 1 1, .slice (some ⟨g, o, none⟩) n cap, .int .i64 (n : Nat), .int .i64 (i : Nat), .bool true, .pointer (some ⟨g, o + i * 11, none⟩), .agg d.cs.toArray, .pointer (some ⟨C, 0, none⟩), .int .i64 d.kind, .int .i64 (d.kind.tmod 5), .int .i64 (d.kind.tmod 5 + 5), .int .i64 (((3 : Nat)) : Int), u50, u51, u52, u53, u54, u55, u56, u57, u58, u59, u60, u61, u62, u63, u64, u65, u66, u67, u68, u69, u70, u71, u72, u73, u74, u75, u76, u77, u78, u79, u80, u81, u82, u83, u84, u85, u86, u87, u88, u89, u90, u91, u92, u93, u94, u95, u96, u97, u98, u99, u100, u101, u102, u103, u104, u105, u106, u107, u108, u109, u110, u111, u112, u113, u114, u115, u116, u117, u118, u119, u120, u121, u122, u123, u124, u125, u126, u127, u128, u129, u130, u131, u132, u133, u134, u135, u136, u137, u138, u139, u140, u141, u142, u143, u144, u145, u146, u147, u148, u149, u150, u151, u152, u153, u154, u155, u156, u157, u158, u159, u160, u161, u162, u163, u164, u165, u166, u167, u168, u169, u170, u171, u172, u173, u174, u175, u176, u177, u178, u179, u180, u181, u182, u183, u184, u185, u186, u187, u188, u189, u190, u191, u192, u193, u194, u195, u196, u197, u198, u199, u200, u201, u202, u203, u204, u205, u206, u207, u208, u209, u210, u211, u212, u213, u214, u215, u216, u217, u218, u219, u220, u221, u222, u223, u224, u225, u226, u227, u228, u229, u230, u231, u232, u233, u234, u235, u236, u237, u238, u239, u240, u241, u242, u243, u244, u245, u246], []⟩ w5 := by
  have hilz : (i : Int) < (n : Int) := by omega
  have left : u8 = u8 := rfl
  cases hs
  skip
  have d10 : w5.cell? ⟨C, 10, none⟩ = some (.int .u64 d.mask) := At.cell h8.pull3 rfl
  have hcr := diskCrash_any W w5 _ D m d.mask HdIn.out.2 (by omega) h8.pull2
  obtain ⟨hs3, hun3⟩ := Hst2.out.crashed d.mask
  have hwc := (Dk.crash_at (mask := d.mask) Hst2.out.rest.wf).2.2.2.1
  have hkle := Hst2.out.kle
  rw [List.length_map] at hkle
  have hal := encR_len_le Hlo.out.2
  rw [List.length_map] at hal
  generalize m.crash d.mask = mc at *
  clear h8
  go_wp2_with fail
  refine hcr.mono ?_
  rintro e w6 ⟨rfl, h9⟩
  clear hcr d0 d10
  have hop := laneOpen_st W w6 _ D 0 mc hs3 hun3 (by omega) h9
  change Calls _ _ #[_, .int .i64 0] _ _ at hop
  clear h9
  go_wp2_with fail
  refine hop.mono ?_
  rintro e w7 ⟨P4, ae, ce, es, m6, rfl, hel, hes, hs6, hsm6, hun6, hwr6, h10⟩
  clear hop
  rw [List.length_take, List.length_map, Nat.min_eq_left hkle] at hel
  have hE := (EntsIn.of_row rfl h10.r).mono (B := lan P4 D 0 ⟨L2.gen, L2.bank, encR ((all.map (·.1)).take k), (encR ((all.map (·.1)).take k)).length⟩)
  have hR := (((((Hall.out.1.mono (B := cel C d.cs.toArray 72)).mono (B := lan P2 D 0 L2)).mono (B := dsk D m6)).mono (B := dirts es)).mono (B := row 52 9 (.slice ae es.length ce) es.length (es.flatMap EntV.cs))).mono (B := lan P4 D 0 ⟨L2.gen, L2.bank, encR ((all.map (·.1)).take k), (encR ((all.map (·.1)).take k)).length⟩)
  have hst := lawStarts_any W w7 _ ae a6 ce c6 es all (by rw [hel]; omega) (by omega) (fun y hy => by
    have h1 : y.2.1 ∈ es.map (·.2.1) := List.mem_map.2 ⟨y, hy, rfl⟩
    rw [places_good hes] at h1
    have := (hs6.good _ h1).dirty
    omega) (hE) (hR) h10
  rw [places_good hes] at hst
  rw [startsB_take _ k (by rw [List.length_map]; exact hkle)] at hst
  rw [hel] at hst ⊢
  have hkz : (k : Int) ≤ (all.length : Int) := by omega
  have hw6 : m6.writes ≤ 520 + 1800 * i + 1100 := by omega
  rw [List.length_take, List.length_map, Nat.min_eq_left hkle] at hs6
  have Hs6 := hide hs6
  have hgl := Hg2.out
  have hlen6 : (encR ((all.take k).map (·.1))).length ≤ 14336 := by
    rw [List.map_take]
    exact hs6.len
  have Hlen6 := hide hlen6
  clear hE hR hes hs6 hsm6 hun6 hwr6 h10 hel hs3 hun3 hwc hlen6
  go_wp2_with fail
  refine hst.mono ?_
  rintro e w8 ⟨rfl, h11⟩
  clear hst
  have hpost : ∀ w', At W (lan P4 D 0 ⟨L2.gen, L2.bank, encR ((all.map (·.1)).take k), (encR ((all.map (·.1)).take k)).length⟩ * (dsk D m6 * (cel C d.cs.toArray 72 * F))) w' → ∀ a6', AllIn W F a6' k (all.take k) → True := fun _ _ _ _ => trivial
  clear hpost
  have h12 := (h11.cast (show _ = lan P4 D 0 ⟨L2.gen, L2.bank, encR ((all.map (·.1)).take k), (encR ((all.map (·.1)).take k)).length⟩ * (dsk D m6 * (cel C d.cs.toArray 72 * F)) * (row 52 9 (.slice ae k ce) k (es.flatMap EntV.cs) * (dirts es * lan P2 D 0 L2)) by ac_rfl)).l.drew
  clear h11
  have htl : (all.take k).length = k := by rw [List.length_take]; omega
  have Htl := hide htl
  have hcap := Hall.out.2.2.1
  have hkc : (k : Int) ≤ (c6 : Int) := by omega
  have hk0 : (0 : Int) ≤ (k : Int) := by omega
  have hkcn : k ≤ c6 := by omega
  clear htl
  rcases Hall.out.2.2.2 with ⟨rfl, hnil, rfl⟩ | ⟨g6, o6, rfl⟩
  · subst hnil
    obtain rfl : k = 0 := by simpa using hkle
    go_upto_region 47 with fail
    refine wp_region_line [0, 1, 2, 3, 4, 5, 6, 7, 8] rfl (by kernel_rfl) ?_
    simp only [picks_cons, picks_nil, getD_zero, getD_succ]
    go_wp2_with fail
    refine ⟨by kernel_rfl, ?_⟩
    go_wp2_with fail
    go_meet
    exact ⟨P4, _, m6, [], none, 0, 0, [], none, 0, 0, false, false, F, rfl, rfl, rfl, (fun h => by cases h), rfl, rfl, Hall, hide (fun h => by cases h), HF, hide ⟨rfl, by show L2.gen ≤ i + 2; omega, by simp [encR]⟩, hide (fun _ => ⟨rfl, Hs6.out⟩), hide (fun h => by cases h), hw6, h12⟩
  · go_upto_region 47 with fail
    refine wp_region_line [0, 1, 2, 3, 4, 5, 6, 7, 8] rfl (by kernel_rfl) ?_
    simp only [picks_cons, picks_nil, getD_zero, getD_succ]
    go_wp2_with fail
    refine ⟨by kernel_rfl, ?_⟩
    go_wp2_with fail
    go_meet
    exact ⟨P4, _, m6, all.take k, some ⟨g6, o6, none⟩, k, k, [], none, 0, 0, false, false, F, rfl, by rw [Htl.out], rfl, (fun h => by cases h), rfl, rfl, hide ⟨Hall.out.1.take k, fun y hy => Hall.out.2.1 y (List.mem_of_mem_take hy), by rw [Htl.out]; exact Nat.le_refl _, .inr ⟨g6, o6, rfl⟩⟩, hide (fun h => by cases h), HF, hide ⟨by rw [List.map_take], by show L2.gen ≤ i + 2; omega, Hlen6.out⟩, hide (fun _ => ⟨rfl, by rw [List.map_take]; exact Hs6.out⟩), hide (fun h => by cases h), hw6, h12⟩

set_option maxRecDepth 100000 in
set_option maxHeartbeats 64000000 in
theorem lr_arm4 (W : World) (n i : Nat) (hn60 : n ≤ 60) (i2 : TypeInfo) (z2 : Value) (hy0 : i2.zero = some z2) (hy1 : z2.cells.size = 8) (hy2 : i2.size = 8) (hy3 : i2.bytes = 104) (Hi2 : Hid (Try.prog.info? 44 = some i2)) (hil : i < n)
    (D P N0 cap g o P2 : Nat) (L2 : Ln) (m : Dk) (all : List RecV) (a6 : Option Addr) (c6 k : Nat) (F : HP) (u2 u8 u13 u14 u15 u16 u17 u18 u19 u20 u21 u22 u23 u24 u25 u50 u51 u52 u53 u54 u55 u56 u57 u58 u59 u60 u61 u62 u63 u64 u65 u66 u67 u68 u69 u70 u71 u72 u73 u74 u75 u76 u77 u78 u79 u80 u81 u82 u83 u84 u85 u86 u87 u88 u89 u90 u91 u92 u93 u94 u95 u96 u97 u98 u99 u100 u101 u102 u103 u104 u105 u106 u107 u108 u109 u110 u111 u112 u113 u114 u115 u116 u117 u118 u119 u120 u121 u122 u123 u124 u125 u126 u127 u128 u129 u130 u131 u132 u133 u134 u135 u136 u137 u138 u139 u140 u141 u142 u143 u144 u145 u146 u147 u148 u149 u150 u151 u152 u153 u154 u155 u156 u157 u158 u159 u160 u161 u162 u163 u164 u165 u166 u167 u168 u169 u170 u171 u172 u173 u174 u175 u176 u177 u178 u179 u180 u181 u182 u183 u184 u185 u186 u187 u188 u189 u190 u191 u192 u193 u194 u195 u196 u197 u198 u199 u200 u201 u202 u203 u204 u205 u206 u207 u208 u209 u210 u211 u212 u213 u214 u215 u216 u217 u218 u219 u220 u221 u222 u223 u224 u225 u226 u227 u228 u229 u230 u231 u232 u233 u234 u235 u236 u237 u238 u239 u240 u241 u242 u243 u244 u245 u246 : Value)
    (Hall : Hid (AllIn W F a6 c6 all)) (HF : Hid (∀ w', At W F w' → At W (old W * 1) w')) (Hst2 : Hid (LSt m 0 L2 (all.map (·.1)) k)) (Hg2 : Hid (L2.gen ≤ i + 1)) (hwr2 : m.writes ≤ 520 + 1800 * i)
    (d : DdV) (C : Nat) (HdIn : Hid (d.In W (old W * 1))) (Hd1 : Hid (d.sd.1.dirty.length ≤ 100)) (w5 : World) (h8 : At W (lan P2 D 0 L2 * (dsk D m * (cel C d.cs.toArray 72 * F))) w5) (d0 : w5.cell? ⟨C, 0, none⟩ = some (.int .i64 d.kind))
    (hkk : (d.kind.tmod 5 + 5).tmod 5 = (((4 : Nat)) : Int)) (hkw1 : IntKind.i64.wrap (d.kind.tmod 5) = d.kind.tmod 5) (hkw2 : IntKind.i64.wrap (d.kind.tmod 5 + 5) = d.kind.tmod 5 + 5) (hkw3 : IntKind.i64.wrap (((4 : Nat)) : Int) = (((4 : Nat)) : Int))
    (Hlo : Hid (L2.b = encR (all.map (·.1)) ∧ (encR (all.map (·.1))).length ≤ 14336)) (Jn Kn : Act → World → Prop) (Qx : Exit → Act → World → Prop)
    (hKM : ∀ a' w', Met Jn a' w' → Kn a' w') (hJ : ∀ a' w', LrMeet W D i C d P N0 cap g o n 4 u22 u23 u24 u25 a' w' → Jn a' w')
    (s : Code) (hs : Try.f10.body.bind (findBlock 2) = some s) :
    Code.wp Try.prog s (Exit.then Kn Qx) ⟨#[.slice (some ⟨g, o, none⟩) n cap, undef, u2, .pointer (some ⟨D, 0, none⟩), .pointer (some ⟨P2, 0, none⟩), .int .i64 0, .slice a6 all.length c6, .int .i64 (k : Nat), u8, .bool false, .bool false, undef, .pointer (some ⟨C, 0, none⟩), u13, u14, u15, u16, u17, u18, u19, u20, u21, u22, u23, u24, u25, .bool true, .bool false, .slice (some ⟨g, o, none⟩) n cap, .bool true, .bool false, .pointer (some ⟨D, 0, none⟩), .tuple #[.pointer (some ⟨P, 0, none⟩), .int .i64 0], .pointer (some ⟨D, 0, none⟩), .tuple #[.pointer (some ⟨P, 0, none⟩), .int .i64 0], .pointer (some ⟨P, 0, none⟩), .int .i64 0, .agg #[.int .i64 1, .int .i64 0, .int .i64 0, .int .i64 0, .string ⟨#[]⟩, .string ⟨#[]⟩, .string ⟨#[]⟩, .slice none 0 0], .slice (some ⟨N0, 0, none⟩) 1 1, .slice (some ⟨g, o, none⟩) n cap, .int .i64 (n : Nat), .int .i64 (i : Nat), .bool true, .pointer (some ⟨g, o + i * 11, none⟩), .agg d.cs.toArray, .pointer (some ⟨C, 0, none⟩), .int .i64 d.kind, .int .i64 (d.kind.tmod 5), .int .i64 (d.kind.tmod 5 + 5), .int .i64 (((4 : Nat)) : Int), u50, u51, u52, u53, u54, u55, u56, u57, u58, u59, u60, u61, u62, u63, u64, u65, u66, u67, u68, u69, u70, u71, u72, u73, u74, u75, u76, u77, u78, u79, u80, u81, u82, u83, u84, u85, u86, u87, u88, u89, u90, u91, u92, u93, u94, u95, u96, u97, u98, u99, u100, u101, u102, u103, u104, u105, u106, u107, u108, u109, u110, u111, u112, u113, u114, u115, u116, u117, u118, u119, u120, u121, u122, u123, u124, u125, u126, u127, u128, u129, u130, u131, u132, u133, u134, u135, u136, u137, u138, u139, u140, u141, u142, u143, u144, u145, u146, u147, u148, u149, u150, u151, u152, u153, u154, u155, u156, u157, u158, u159, u160, u161, u162, u163, u164, u165, u166, u167, u168, u169, u170, u171, u172, u173, u174, u175, u176, u177, u178, u179, u180, u181, u182, u183, u184, u185, u186, u187, u188, u189, u190, u191, u192, u193, u194, u195, u196, u197, u198, u199, u200, u201, u202, u203, u204, u205, u206, u207, u208, u209, u210, u211, u212, u213, u214, u215, u216, u217, u218, u219, u220, u221, u222, u223, u224, u225, u226, u227, u228, u229, u230, u231, u232, u233, u234, u235, u236, u237, u238, u239, u240, u241, u242, u243, u244, u245, u246], []⟩ w5 := by
  have hilz : (i : Int) < (n : Int) := by omega
  have left : u8 = u8 := rfl
  cases hs
  skip
  have d1 : w5.cell? ⟨C, 1, none⟩ = some (.int .i64 d.num) := At.cell h8.pull3 rfl
  obtain ⟨k1, hk1, hk63⟩ := and63i d.num
  have har := diskArm_any W w5 _ D m 0 (k1 : Int) (by omega) Hst2.out.rest.hr h8.pull2
  rw [Int.toNat_natCast] at har
  change Calls _ _ #[_, .int .i64 0, _] _ _ at har
  have hs2 := Hst2.out.arm Hst2.out.rest.hr true (n := k1) (by omega)
  have hwm : (m.setReg 0 ⟨(m.regs[0]'Hst2.out.rest.hr).waits, true, k1⟩).writes = m.writes := rfl
  generalize m.setReg 0 _ = m2 at har hs2 hwm
  clear h8
  go_wp2_with fail
  refine har.mono ?_
  rintro e w6 ⟨rfl, h9⟩
  clear har d0 d1 hk1
  go_wp2_with fail
  go_meet
  exact ⟨P2, L2, m2, all, a6, c6, k, [], none, 0, 0, false, false, F, rfl, rfl, rfl, (fun h => by cases h), rfl, rfl, Hall, hide (fun h => by cases h), HF, hide ⟨Hlo.out.1, by have := Hg2.out; omega, Hlo.out.2⟩, hide (fun _ => ⟨rfl, hs2⟩), hide (fun h => by cases h), by omega, h9.pull2⟩

set_option maxRecDepth 100000 in
set_option maxHeartbeats 64000000 in
theorem lr_arm2 (W : World) (n i : Nat) (hn60 : n ≤ 60) (i2 : TypeInfo) (z2 : Value) (hy0 : i2.zero = some z2) (hy1 : z2.cells.size = 8) (hy2 : i2.size = 8) (hy3 : i2.bytes = 104) (Hi2 : Hid (Try.prog.info? 44 = some i2)) (hil : i < n)
    (D P N0 cap g o P2 : Nat) (L2 : Ln) (m : Dk) (all : List RecV) (a6 : Option Addr) (c6 k : Nat) (F : HP) (u2 u8 u13 u14 u15 u16 u17 u18 u19 u20 u21 u22 u23 u24 u25 u50 u51 u52 u53 u54 u55 u56 u57 u58 u59 u60 u61 u62 u63 u64 u65 u66 u67 u68 u69 u70 u71 u72 u73 u74 u75 u76 u77 u78 u79 u80 u81 u82 u83 u84 u85 u86 u87 u88 u89 u90 u91 u92 u93 u94 u95 u96 u97 u98 u99 u100 u101 u102 u103 u104 u105 u106 u107 u108 u109 u110 u111 u112 u113 u114 u115 u116 u117 u118 u119 u120 u121 u122 u123 u124 u125 u126 u127 u128 u129 u130 u131 u132 u133 u134 u135 u136 u137 u138 u139 u140 u141 u142 u143 u144 u145 u146 u147 u148 u149 u150 u151 u152 u153 u154 u155 u156 u157 u158 u159 u160 u161 u162 u163 u164 u165 u166 u167 u168 u169 u170 u171 u172 u173 u174 u175 u176 u177 u178 u179 u180 u181 u182 u183 u184 u185 u186 u187 u188 u189 u190 u191 u192 u193 u194 u195 u196 u197 u198 u199 u200 u201 u202 u203 u204 u205 u206 u207 u208 u209 u210 u211 u212 u213 u214 u215 u216 u217 u218 u219 u220 u221 u222 u223 u224 u225 u226 u227 u228 u229 u230 u231 u232 u233 u234 u235 u236 u237 u238 u239 u240 u241 u242 u243 u244 u245 u246 : Value)
    (Hall : Hid (AllIn W F a6 c6 all)) (HF : Hid (∀ w', At W F w' → At W (old W * 1) w')) (Hst2 : Hid (LSt m 0 L2 (all.map (·.1)) k)) (Hg2 : Hid (L2.gen ≤ i + 1)) (hwr2 : m.writes ≤ 520 + 1800 * i)
    (d : DdV) (C : Nat) (HdIn : Hid (d.In W (old W * 1))) (Hd1 : Hid (d.sd.1.dirty.length ≤ 100)) (w5 : World) (h8 : At W (lan P2 D 0 L2 * (dsk D m * (cel C d.cs.toArray 72 * F))) w5) (d0 : w5.cell? ⟨C, 0, none⟩ = some (.int .i64 d.kind))
    (hkk : (d.kind.tmod 5 + 5).tmod 5 = (((2 : Nat)) : Int)) (hkw1 : IntKind.i64.wrap (d.kind.tmod 5) = d.kind.tmod 5) (hkw2 : IntKind.i64.wrap (d.kind.tmod 5 + 5) = d.kind.tmod 5 + 5) (hkw3 : IntKind.i64.wrap (((2 : Nat)) : Int) = (((2 : Nat)) : Int))
    (Hlo : Hid (L2.b = encR (all.map (·.1)) ∧ (encR (all.map (·.1))).length ≤ 14336)) (Jn Kn : Act → World → Prop) (Qx : Exit → Act → World → Prop)
    (hKM : ∀ a' w', Met Jn a' w' → Kn a' w') (hJ : ∀ a' w', LrMeet W D i C d P N0 cap g o n 2 u22 u23 u24 u25 a' w' → Jn a' w')
    (s : Code) (hs : Try.f10.body.bind (findBlock 2) = some s) :
    Code.wp Try.prog s (Exit.then Kn Qx) ⟨#[.slice (some ⟨g, o, none⟩) n cap, undef, u2, .pointer (some ⟨D, 0, none⟩), .pointer (some ⟨P2, 0, none⟩), .int .i64 0, .slice a6 all.length c6, .int .i64 (k : Nat), u8, .bool false, .bool false, undef, .pointer (some ⟨C, 0, none⟩), u13, u14, u15, u16, u17, u18, u19, u20, u21, u22, u23, u24, u25, .bool true, .bool false, .slice (some ⟨g, o, none⟩) n cap, .bool true, .bool false, .pointer (some ⟨D, 0, none⟩), .tuple #[.pointer (some ⟨P, 0, none⟩), .int .i64 0], .pointer (some ⟨D, 0, none⟩), .tuple #[.pointer (some ⟨P, 0, none⟩), .int .i64 0], .pointer (some ⟨P, 0, none⟩), .int .i64 0, .agg #[.int .i64 1, .int .i64 0, .int .i64 0, .int .i64 0, .string ⟨#[]⟩, .string ⟨#[]⟩, .string ⟨#[]⟩, .slice none 0 0], .slice (some ⟨N0, 0, none⟩) 1 1, .slice (some ⟨g, o, none⟩) n cap, .int .i64 (n : Nat), .int .i64 (i : Nat), .bool true, .pointer (some ⟨g, o + i * 11, none⟩), .agg d.cs.toArray, .pointer (some ⟨C, 0, none⟩), .int .i64 d.kind, .int .i64 (d.kind.tmod 5), .int .i64 (d.kind.tmod 5 + 5), .int .i64 (((2 : Nat)) : Int), u50, u51, u52, u53, u54, u55, u56, u57, u58, u59, u60, u61, u62, u63, u64, u65, u66, u67, u68, u69, u70, u71, u72, u73, u74, u75, u76, u77, u78, u79, u80, u81, u82, u83, u84, u85, u86, u87, u88, u89, u90, u91, u92, u93, u94, u95, u96, u97, u98, u99, u100, u101, u102, u103, u104, u105, u106, u107, u108, u109, u110, u111, u112, u113, u114, u115, u116, u117, u118, u119, u120, u121, u122, u123, u124, u125, u126, u127, u128, u129, u130, u131, u132, u133, u134, u135, u136, u137, u138, u139, u140, u141, u142, u143, u144, u145, u146, u147, u148, u149, u150, u151, u152, u153, u154, u155, u156, u157, u158, u159, u160, u161, u162, u163, u164, u165, u166, u167, u168, u169, u170, u171, u172, u173, u174, u175, u176, u177, u178, u179, u180, u181, u182, u183, u184, u185, u186, u187, u188, u189, u190, u191, u192, u193, u194, u195, u196, u197, u198, u199, u200, u201, u202, u203, u204, u205, u206, u207, u208, u209, u210, u211, u212, u213, u214, u215, u216, u217, u218, u219, u220, u221, u222, u223, u224, u225, u226, u227, u228, u229, u230, u231, u232, u233, u234, u235, u236, u237, u238, u239, u240, u241, u242, u243, u244, u245, u246], []⟩ w5 := by
  have hilz : (i : Int) < (n : Int) := by omega
  have left : u8 = u8 := rfl
  cases hs
  skip
  have d1 : w5.cell? ⟨C, 1, none⟩ = some (.int .i64 d.num) := At.cell h8.pull3 rfl
  obtain ⟨k1, hk1, hk7⟩ := and7i d.num
  have hkle := Hst2.out.kle
  rw [List.length_map] at hkle
  have hal := encR_len_le Hlo.out.2
  rw [List.length_map] at hal
  have hcp := Hall.out.2.2.1
  obtain ⟨q, hq⟩ : ∃ q, all.length - min k1 all.length = q := ⟨_, rfl⟩
  have hql : q ≤ all.length := by omega
  have hqz : (q : Int) ≤ (all.length : Int) := by omega
  have hwq := IntWalk.i64_in ((all.length : Int) - (min k1 all.length : Nat)) (by omega)
  have hqe : (all.length : Int) - (min k1 all.length : Nat) = (q : Int) := by omega
  rw [hqe] at hwq
  go_upto_region 30 with fail
  go_cut [6, 17] from 50 to 246 (fun u6 u17 wd => u6 = .slice a6 all.length c6 ∧ ∃ (a0 : Option Addr) (c0 : Nat) (rs : List RecV), u17 = .slice a0 rs.length c0 ∧ rs.length ≤ 7 ∧ Hid (AllIn W F a0 c0 rs ∧ (encR (rs.map (·.1))).length ≤ 14336) ∧ At W (lan P2 D 0 L2 * (dsk D m * (cel C d.cs.toArray 72 * F))) wd)
  case first =>
    rcases Nat.lt_or_ge k1 all.length with hc | hc
    · rw [Nat.min_eq_left (by omega)] at hqe
      have hcz : (k1 : Int) < (all.length : Int) := by omega
      rcases Hall.out.2.2.2 with ⟨rfl, hnil, rfl⟩ | ⟨g6, o6, rfl⟩
      · subst hnil
        simp at hc
      by_cases hcq : c6 = q
      · have hd0 : all.length - q = 0 := by omega
        have hk0 : k1 = 0 := by omega
        go_wp2_with fail
        all_goals (go_meet; exact ⟨by rw [hcq], some ⟨g6, o6, none⟩, 0, [], by first | rfl | (rw [hd0]; rfl) | (simp [hd0, hk0]; done), Nat.zero_le _, hide ⟨⟨by simpa using Hall.out.1.take 0, fun y hy => by simp at hy, Nat.le_refl _, .inr ⟨_, _, rfl⟩⟩, by simp [encR]⟩, h8⟩)
      · have hcq2 : ¬ (c6 : Int) = (q : Int) := by omega
        have hcq3 : ¬ c6 - q = 0 := by omega
        go_wp2_with fail
        all_goals (go_meet; exact ⟨rfl, some ⟨g6, o6 + q * 8, none⟩, c6 - q, all.drop q, by rw [List.length_drop], by rw [List.length_drop]; omega, hide ⟨⟨Hall.out.1.drop q hql, fun y hy => Hall.out.2.1 y (List.mem_of_mem_drop hy), by rw [List.length_drop]; omega, .inr ⟨_, _, rfl⟩⟩, by rw [List.map_drop]; exact Nat.le_trans (encR_drop_le _ _) Hlo.out.2⟩, h8⟩)
    · rw [Nat.min_eq_right (by omega)] at hqe
      have hcz : ¬ (k1 : Int) < (all.length : Int) := by omega
      have hq0 : q = 0 := by omega
      subst hq0
      rcases Hall.out.2.2.2 with ⟨rfl, hnil, rfl⟩ | ⟨g6, o6, rfl⟩
      · subst hnil
        go_wp2_with fail
        all_goals (go_meet; exact ⟨rfl, none, 0, [], rfl, Nat.zero_le _, hide ⟨Hall.out, Hlo.out.2⟩, h8⟩)
      · by_cases hc0 : c6 = 0
        · subst hc0
          obtain rfl : all = [] := List.eq_nil_of_length_eq_zero (by omega)
          go_wp2_with fail
          all_goals (go_meet; exact ⟨rfl, some ⟨g6, o6, none⟩, 0, [], rfl, Nat.zero_le _, hide ⟨Hall.out, Hlo.out.2⟩, h8⟩)
        · go_wp2_with fail
          all_goals (go_meet; exact ⟨rfl, some ⟨g6, o6, none⟩, c6, all, rfl, by omega, hide ⟨Hall.out, Hlo.out.2⟩, h8⟩)
  case rest =>
    obtain ⟨rfl, a0, c0, rs, rfl, hr7, Hals, h8⟩ := hcut
    have hrl2 := encR_len_le Hals.out.2
    rw [List.length_map] at hrl2
    obtain ⟨nr, hnr⟩ : ∃ nr, rs.length = nr := ⟨_, rfl⟩
    have hcap2 := Hals.out.1.2.2.1
    rw [hnr] at hcap2 hrl2 hr7 ⊢
    have han := laneAnew_any W wc _ P2 D 0 L2 m a0 c0 rs Hst2.out.rest.hr (by have := Hg2.out; omega) (by omega) (by omega) (Hals.out.1.1.mono (B := cel C d.cs.toArray 72)) h8
    have hs2 := Hst2.out.anew (rs := rs) (by have := Hg2.out; omega) Hals.out.1.2.1 (by rw [encs_encR]; exact Hals.out.2)
    rw [hnr] at han
    generalize hfr : L2.anew m 0 rs = fr at han hs2
    obtain ⟨cd, L3, m3⟩ := fr
    obtain ⟨e1, _, _, _, _, e6, e7, e8⟩ := hs2
    simp only at han e1 e6 e7 e8
    have hwr3 : m3.writes ≤ 520 + 1800 * i + 1100 := by omega
    have hgen0 := Hst2.out.rest.gen0
    have hbk := Hst2.out.rest.bankle
    have Hnr := hide hnr
    clear h8 hfr e6 hnr hqe hqz hwq
    rcases e1 with rfl | rfl
    · obtain ⟨q1, q2⟩ := e7 rfl
      have Hq1 := hide q1
      clear e7 e8 q1
      go_wp2_with fail
      refine han.mono ?_
      rintro e w6 ⟨rfl, h9⟩
      clear han d0 d1 hk1
      have hcapn : a0 = none → c0 = 0 := Hals.out.1.capn
      have h9n := h9.row_nil 44 8
      go_upto_region 34 with fail
      go_wp2_with (at_builtin; go_loud (refine wpList_append_recs rfl (.const (.slice none 0 0)) (.tmp 115) 62 rfl 44 i2 z2 Try.underlying62 Hi2.out hy0 hy2 hy3 hy1 (v := .slice none 0 0) (rs := []) rfl h9n (ad := a0) (c := c0) (ys := rs) (by rw [Hnr.out]; rfl) hcapn (((Hals.out.1.1.mono (B := cel C d.cs.toArray 72)).mono (B := dsk D m3)).mono (B := lan P2 D 0 L3)) (by rw [Hnr.out]; simp only [List.length_nil]; omega) ?_))
      intro ar cp w7 h10
      rw [Hnr.out] at h10 ⊢
      have h11 := h10.cast (show _ = lan P2 D 0 L3 * (dsk D m3 * (cel C d.cs.toArray 72 * (row 44 8 (.slice ar nr cp) nr (rs.flatMap RecV.cs) * F))) by ac_rfl)
      have hnew := AllIn.of_row Hnr.out.symm Hals.out.1.2.1 Hals.out.1.1.2.1 h11.r.r.r
      have Hnew := hide hnew
      clear h9 h9n h10 hnew
      go_wp2_with fail
      go_meet
      exact ⟨P2, L3, m3, rs, ar, cp, rs.length, [], none, 0, 0, false, false, _, rfl, by rw [Hnr.out], by rw [Hnr.out], (fun h => by cases h), rfl, rfl, Hnew, hide (fun h => by cases h), hide (fun w' h' => HF.out w' h'.r), hide ⟨Hq1.out.b, by have := Hg2.out; omega, Hals.out.2⟩, hide (fun _ => ⟨rfl, Hq1.out⟩), hide (fun h => by cases h), hwr3, h11⟩
    · obtain ⟨rfl, q2⟩ := e8 (by decide)
      have Hq2 := hide q2
      clear e7 e8 q2
      go_wp2_with fail
      refine han.mono ?_
      rintro e w6 ⟨rfl, h9⟩
      clear han d0 d1 hk1
      go_wp2_with fail
      go_meet
      exact ⟨P2, L3, m3, all, a6, c6, k, rs, a0, c0, (encR ((all.map (·.1)).take k)).length, true, true, F, rfl, rfl, rfl, (fun _ => by rw [Hnr.out]), rfl, rfl, Hall, hide (fun _ => Hals.out), HF, hide ⟨Hlo.out.1, by have := Hg2.out; omega, Hlo.out.2⟩, hide (fun h => by cases h), hide (fun _ => ⟨Hq2.out.imp fun f hf => hf.imp rest_part fun h => ⟨rfl, h⟩, Nat.le_refl _, encR_take_le _ _, hkle, hgen0, hbk, by have := Hg2.out; omega⟩), hwr3, h9⟩
end Go.Proofs.Ytgkibjjcdcpkfaa
