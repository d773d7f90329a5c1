/-
  (*Page).Set of a row's bytes: a contract, no statement.
-/
import Derived.Test.YtmlifjfgelfbbaaEE
import Derived.Test.YtmlifjfgelfbbaaGd
import Derived.Lib.BufferWrite
import Derived.Laws.IdiomStrings
namespace Go.Proofs.Ytmlifjfgelfbbaa
open Go Go.RowKit

/-- A page with other bytes in slot i. -/
def Pg.put (p : Pg) (i : Nat) (b : List UInt8) : Pg := { p with slots := p.slots.take (40 * i) ++ (b ++ p.slots.drop (40 * i + 40)) }
theorem Pg.put_len {p : Pg} (h : p.slots.length = 200) {i : Nat} (hi : i < 5) {b : List UInt8} (hb : b.length = 40) : (p.put i b).slots.length = 200 := by
  show (p.slots.take (40 * i) ++ (b ++ p.slots.drop (40 * i + 40))).length = 200
  rw [List.length_append, List.length_append, List.length_take, List.length_drop]
  omega
theorem Pg.put_cells (p : Pg) (i : Nat) (b : List UInt8) (hb : b.length = 40) :
    (p.put i b).cells = p.cells.take (3 + i * 40) ++ (bys b ++ p.cells.drop (3 + i * 40 + (bys b).length)) := by
  have e1 : 3 + i * 40 = 40 * i + 3 := by omega
  have e2 : 40 * i + 3 + (bys b).length = (40 * i + 40) + 3 := by have := bys_len b; omega
  rw [e1, e2]
  unfold Pg.cells Pg.put
  rw [bys_append, bys_append, ← bys_take, ← bys_drop]
  rfl
/-- 'copy' of a text into a page's slot. -/
theorem wpList_copy_txt {P : Program} {w0 w : World} {R : HP} {ops : Array Oper} {rest : List Oper} {o : Oper} {a : Act} {Q : Exit → Act → World → Prop} (hgd : o.guard = none) (d s : Operand) (dT sT : TypeId)
    (ho : o.op = .call { callee := .builtin .copy, args := #[d, s], argTypes := #[dT, sT] }) (elem : TypeId) (hu : P.underlying dT = some (.slice elem)) (hsz : (P.info? elem).map (·.size) = some 1)
    (g off dLen dCap : Nat) (hd : a.eval d = .slice (some ⟨g, off, none⟩) dLen dCap) {t : ByteArray} (hs : a.eval s = .string t) {xs zs : List Value} {ty : TypeId} (hle : t.size ≤ dLen)
    (h : At w0 (cel g xs.toArray ty * R) w) (hfit : off + t.size ≤ xs.length) (hz : zs = xs.take off ++ (bys t.data.toList ++ xs.drop (off + t.size)))
    (hK : ∀ w', At w0 (cel g zs.toArray ty * R) w' → wpList P ops Q rest (a.put o.dst (goInt t.size)) w') : wpList P ops Q (o :: rest) a w := by
  subst hz
  refine wpList_plain hgd fun K hK' => ?_
  have hrun := Lib.run_copy_row_string (P := P) w dT sT o.type elem g off dLen dCap t xs.toArray ty hu hsz (At.blk (o := .cells xs.toArray ty) h) hle (by simpa using hfit)
  unfold Oper.wp
  simp [execOp, ho, resolve, invoke, builtin, hd, hs, hrun, Result.andThen]
  have := hK _ (h.setRow ((xs.take off ++ (bys t.data.toList ++ xs.drop (off + t.size))).toArray))
  have e : Lib.byteCells t.data.toList = bys t.data.toList := rfl
  rw [e]
  refine hK' _ _ ?_
  simpa using this

set_option maxRecDepth 100000 in
set_option maxHeartbeats 4000000 in
theorem pageSet_row (w0 w : World) (R : HP) (k : Nat) (p : Pg) (i : Nat) (s : ByteArray) (hp : p.slots.length = 200) (hi : i < 5) (hs : s.data.toList.length = 40) (hrow : rowSt s.data.toList = 0) (h : At w0 (pgB k p * R) w) :
    Calls Try.prog 21 #[.pointer (some ⟨k, 0, none⟩), .int .i64 i, .string s] w fun e w' => e = .returned (.bool true) ∧ At w0 (pgB k (p.put i s.data.toList) * R) w' := by
  have hss : s.size = 40 := by rw [← hs, Array.length_toList]; rfl
  have hne : (s.toList == (ByteArray.mk #[]).toList) = false := by
    rw [ByteArray.toList_eq, ByteArray.toList_eq]
    cases hq : s.data.toList with
    | nil => rw [hq] at hs; cases hs
    | cons x l => rfl
  have hne2 : (s.toList == ([] : List UInt8)) = false := by
    rw [ByteArray.toList_eq]
    cases hq : s.data.toList with
    | nil => rw [hq] at hs; cases hs
    | cons x l => rfl
  have hcv := run_bytes_of_string (P := Try.prog) w 9 32 5 s Try.underlying9 Try.underlying32 Try.underlying5
  obtain ⟨cp, hcp⟩ : ∃ cp, grownCap w s.size 0 5 = cp := ⟨_, rfl⟩
  rw [hcp, hss] at hcv
  have hge : 40 ≤ cp := by rw [← hcp, ← hss]; exact grownCap_ge w s.size 0 _
  obtain ⟨ob, hob⟩ : ∃ ob, Obj.cells (bytesRow s cp) 5 ((bytesRow s cp).size, (bytesRow s cp).size + 1) = ob := ⟨_, rfl⟩
  rw [hob] at hcv
  obtain ⟨N, hN⟩ : ∃ N, w.heap.size = N := ⟨_, rfl⟩
  have h1 : At w0 (pt N ob * (pgB k p * R)) (w.drew.alloc ob) := h.drew.alloc' hN ob
  have hrd : ∀ w', At w0 (pt N ob * (pgB k p * R)) w' → Rd w' (.slice (some ⟨N, 0, none⟩) 40 cp) (bys s.data.toList) := fun w' h' => by
    have hb := At.blk h'
    rw [← hob] at hb
    refine .inr ⟨N, 0, cp, by rw [bys_len, hs], by rw [bys_len, hs]; exact hge, fun j u hu => ?_⟩
    rw [Nat.zero_add, cell_of_row w' N j _ _ _ hb]
    have hj : j < s.data.toList.length := by
      have := (List.getElem?_eq_some_iff.1 hu).1
      rwa [bys_len] at this
    have hj2 : j < s.data.size := by rwa [Array.length_toList] at hj
    rw [bytesRow_at s cp j hj2]
    rw [bys, List.getElem?_map, List.getElem?_eq_getElem hj] at hu
    simp only [Option.map_some, Option.some.injEq] at hu
    rw [← hu]
    unfold byv
    rw [Array.getElem_toList]
  have hdc := rowDecode_any w0 (w.drew.alloc ob) _ (some ⟨N, 0, none⟩) cp s.data.toList hs hrd h1
  rw [hrow] at hdc
  have hcl : p.cells.length = 203 := pg_len hp
  have hiz : (i : Int) < 5 := by omega
  have Hz := hide (Pg.put_cells p i s.data.toList hs)
  have Hs := hide hs
  clear hrd h1 h hob hcp hrow hs
  go_enter Try.func21, Try.ntmps21
  go_wp2_with fail
  refine hdc.mono ?_
  rintro e w2 ⟨t, kk, ss, rfl, -, h2⟩
  clear hdc hcv
  unfold str
  have h3 := (h2.alloc (.cells #[.int .i64 t, .string ⟨kk.toArray⟩, .string ⟨ss.toArray⟩] 57)).cast (show _ = cel k p.cells.toArray 41 * (R * (pt w2.heap.size (.cells #[.int .i64 t, .string ⟨kk.toArray⟩, .string ⟨ss.toArray⟩] 57) * pt N ob)) by unfold pgB; ac_rfl)
  clear h2
  go_upto_region 9 with fail
  go_wp2_with (refine wpList_copy_txt rfl (.tmp 40) (.tmp 41) 32 9 rfl 5 Try.underlying32 (by kernel_rfl) k (3 + i * 40) 40 40 rfl rfl (by omega) h3 (by rw [hcl]; omega) (zs := (p.put i s.data.toList).cells) (by rw [Hz.out, bys_len, Hs.out, hss]) ?_)
  intro w4 h4
  have h5 := (h4.cast (show _ = pgB k (p.put i s.data.toList) * R * (pt w2.heap.size (.cells #[.int .i64 t, .string ⟨kk.toArray⟩, .string ⟨ss.toArray⟩] 57) * pt N ob) by unfold pgB; ac_rfl)).l
  clear h3 h4
  go_wp2_with fail
  go_ret
  exact ⟨rfl, h5⟩
/-- The slots of a blank page with a row in slot s. -/
theorem put_slots {b : List UInt8} (hb : b.length = 40) {s : Nat} (hs : s < 5) (p : Pg) (hp : p.slots = zs 200) : (∀ i, i < 5 → slotAt (p.put s b).slots i = if i = s then b else zs 40) := by
  intro i hi
  show slotAt (p.slots.take (40 * s) ++ (b ++ p.slots.drop (40 * s + 40))) i = _
  rw [hp]
  unfold slotAt zs
  rw [List.take_replicate, List.drop_replicate]
  by_cases h1 : i = s
  · subst h1
    rw [if_pos rfl, List.drop_append, List.drop_eq_nil_of_le (by simp; omega), List.nil_append, List.length_replicate]
    rw [show i * 40 - min (40 * i) 200 = 0 by omega, List.drop_zero, List.take_append_of_le_length (by omega), List.take_of_length_le (by omega)]
  · rw [if_neg h1]
    by_cases h2 : i < s
    · rw [List.drop_append_of_le_length (by simp; omega), List.drop_replicate, List.take_append_of_le_length (by simp; omega), List.take_replicate]
      congr 1
      omega
    · rw [List.drop_append, List.drop_eq_nil_of_le (by simp; omega), List.nil_append, List.length_replicate, List.drop_append, List.drop_eq_nil_of_le (by omega), List.nil_append, List.drop_replicate, List.take_replicate]
      congr 1
      omega
end Go.Proofs.Ytmlifjfgelfbbaa
