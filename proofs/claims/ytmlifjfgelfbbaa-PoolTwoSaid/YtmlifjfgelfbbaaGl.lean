/-
  (*Page).Slot: a contract, no statement.
-/
import Derived.Test.YtmlifjfgelfbbaaEE
import Derived.ChangeKeysEq
import Derived.Deep.CutBlock
namespace Go.Proofs.Ytmlifjfgelfbbaa
open Go Go.RowKit

section
variable {P : Program} {w : World}
/-- Arrays of bytes, compared. -/
theorem run_items_bytes {e : TypeId} (hue : P.underlying e = some (.int .u8)) (he : P.plainKey e = true) (hc : P.cellsOf e = 1) (d : Nat) (X Y : List UInt8) (n : Nat) (hX : X.length = n) (hY : Y.length = n) :
    ∀ is : List Nat, (∀ i ∈ is, i < n) → (Op.eqItems (d + 1) e (P.cellsOf e) (bys X).toArray (bys Y).toArray is).run P w = .ok (is.all fun i => decide (X.getD i 0 = Y.getD i 0)) w
  | [], _ => by simp [Op.eqItems]
  | i :: is, h => by
    have hi := h i List.mem_cons_self
    have ih := run_items_bytes hue he hc d X Y n hX hY is (fun j hj => h j (List.mem_cons_of_mem _ hj))
    have px : (part e (bys X).toArray (i * P.cellsOf e)).run P w = .ok (byv (X.getD i 0)) w := run_part_plain w he (by
      rw [hc, Nat.mul_one, List.getElem?_toArray, bys, List.getElem?_map, List.getElem?_eq_getElem (by omega), List.getD_eq_getElem?_getD, List.getElem?_eq_getElem (by omega)]
      rfl)
    have py : (part e (bys Y).toArray (i * P.cellsOf e)).run P w = .ok (byv (Y.getD i 0)) w := run_part_plain w he (by
      rw [hc, Nat.mul_one, List.getElem?_toArray, bys, List.getElem?_map, List.getElem?_eq_getElem (by omega), List.getD_eq_getElem?_getD, List.getElem?_eq_getElem (by omega)]
      rfl)
    have pe : (Op.equalIn (d + 1) e (byv (X.getD i 0)) (byv (Y.getD i 0))).run P w = .ok (decide (X.getD i 0 = Y.getD i 0)) w := by
      unfold byv
      simp only [Op.equalIn, Sem.run_bind, run_underlying hue, Result.andThen_ok, if_true, Sem.run_pure]
      congr 1
      by_cases hh : X.getD i 0 = Y.getD i 0
      · rw [hh, decide_eq_true rfl]
        simp
      · rw [decide_eq_false hh, beq_eq_false_iff_ne]
        intro he
        exact hh (UInt8.toNat_inj.1 (by omega))
    simp only [Op.eqItems, Sem.run_bind, px, py, pe, Result.andThen_ok]
    by_cases hh : X.getD i 0 = Y.getD i 0
    · rw [decide_eq_true hh]
      simp only [Bool.not_true, Bool.false_eq_true, if_false]
      rw [ih]
      simp only [List.all_cons, decide_eq_true hh, Bool.true_and]
    · rw [decide_eq_false hh]
      simp only [List.all_cons, decide_eq_false hh, Bool.false_and, Bool.not_false, if_true, Sem.run_pure]
theorem run_eql_bytes {t e : TypeId} {n : Nat} {i : TypeInfo} (hu : P.underlying t = some (.array n e)) (hi : P.info? e = some i) (hue : P.underlying e = some (.int .u8)) (he : P.plainKey e = true) (hc : P.cellsOf e = 1) (X Y : List UInt8) (hX : X.length = n) (hY : Y.length = n) :
    (binOp .eql t (.agg (bys X).toArray) (.agg (bys Y).toArray)).run P w = .ok (.bool (decide (X = Y))) w := by
  have h : ∀ d : Nat, (Op.equalIn (d + 2) t (.agg (bys X).toArray) (.agg (bys Y).toArray)).run P w = .ok (decide (X = Y)) w := fun d => by
    rw [run_equalIn_array w (d + 1) _ _ hu hi, run_items_bytes hue he hc d X Y n hX hY _ (fun j hj => List.mem_range.1 hj)]
    congr 1
    rw [Bool.eq_iff_iff, List.all_eq_true, decide_eq_true_eq]
    constructor
    · intro hh
      refine List.ext_getElem (by omega) fun j h1 h2 => ?_
      have := hh j (List.mem_range.2 (by omega))
      rw [decide_eq_true_eq, List.getD_eq_getElem?_getD, List.getD_eq_getElem?_getD, List.getElem?_eq_getElem h1, List.getElem?_eq_getElem h2] at this
      exact this
    · rintro rfl j _
      exact decide_eq_true rfl
  simp only [binOp]
  simp [Op.equal, Op.maxDepth, h 9998]
variable {ops : Array Oper} {o : Oper} {a : Act} {Q : Exit → Act → World → Prop} {rest : List Oper}
theorem exec_eql_agg {x y : Operand} {t t2 : TypeId} {xs ys : Array Value} {r : Bool} (ho : o.op = .binOp .eql t x y t2) (hx : a.eval x = .agg xs) (hy : a.eval y = .agg ys) (hg : P.eqGuardType P.depth t = false) (hb : (binOp .eql t (.agg xs) (.agg ys)).run P w = .ok (.bool r) w) :
    (execOp a.eval o).run P w = .ok (.value (.bool r)) w := by
  unfold execOp
  simp only [ho, hx, hy]
  simp [eqGuard, hg, hb]
theorem exec_build0 {t : TypeId} {u : Value} (ho : o.op = .build t #[]) (hr : (Instr.build t #[]).run P w = .ok u w) : (execOp a.eval o).run P w = .ok (.value u) w := by
  unfold execOp
  simp only [ho, List.map_toArray, List.map_nil, Sem.run_bind, hr, Result.andThen_ok]
  rfl
theorem wpList_value_w (hw : Region.wanted o (yielded ops a.tmps) = true) {v : Value} (hr : (execOp a.eval o).run P w = .ok (.value v) w) (h : wpList P ops Q rest (a.put o.dst v) w) : wpList P ops Q (o :: rest) a w := by
  unfold wpList
  rw [if_pos hw]
  left
  unfold Oper.wp
  rw [hr]
  exact h
end
theorem Try.build40 (w : World) : (Instr.build 38 #[]).run Try.prog w = .ok (.agg (bys (zs 40)).toArray) w := by kernel_rfl

/-- What a slot tells: nothing, where it is free. -/
def slotStr (b : List UInt8) : List UInt8 := if b = zs 40 then [] else b
set_option maxRecDepth 100000 in
set_option maxHeartbeats 4000000 in
theorem pageSlot_any (w0 w : World) (R : HP) (k : Nat) (p : Pg) (i : Nat) (hp : p.slots.length = 200) (hi : i < 5) (h : At w0 (pgB k p * R) w) :
    Calls Try.prog 23 #[.pointer (some ⟨k, 0, none⟩), .int .i64 i] w fun e w' => e = .returned (str (slotStr (slotAt p.slots i))) ∧ w = w' := by
  obtain ⟨iu, hiu⟩ : ∃ iu, Try.prog.info? 5 = some iu := info_of_underlying Try.underlying5
  have hrd := pg_rd h hp i hi
  have hsa : (p.slots.drop (40 * i)).take 40 = slotAt p.slots i := by unfold slotAt; rw [Nat.mul_comm]
  rw [hsa] at hrd
  obtain ⟨b, hb⟩ : ∃ b, slotAt p.slots i = b := ⟨_, rfl⟩
  have hbl : b.length = 40 := by rw [← hb, ← hsa, List.length_take, List.length_drop, hp]; omega
  rw [hb] at hrd ⊢
  obtain ⟨g, o, hgo, hcells⟩ := hrd.get (by decide)
  cases hgo
  have hld : (loadVar 38 ⟨k, 3 + i * 40, none⟩).run Try.prog w = .ok (.agg (bys b).toArray) w := run_load_agg 38 _ Try.underlying38 rfl (by rw [bys_len, hbl]; kernel_rfl) hcells
  have heq := run_eql_bytes (P := Try.prog) (w := w) Try.underlying38 hiu Try.underlying5 (by kernel_rfl) (by kernel_rfl) b (zs 40) hbl (zs_len 40)
  have hcv := run_txt (P := Try.prog) 32 5 9 Try.underlying32 Try.underlying5 Try.underlying9 hrd
  have hiz : (i : Int) < 5 := by omega
  have hd0 : decide ((i : Int) < 0) = false := decide_eq_false (by omega)
  have hd5 : decide ((5 : Int) ≤ (i : Int)) = false := decide_eq_false (by omega)
  have hg : Try.prog.eqGuardType Try.prog.depth 38 = false := by kernel_rfl
  obtain ⟨q, hq⟩ : ∃ q, decide (b = zs 40) = q := ⟨_, rfl⟩
  rw [hq] at heq
  clear hrd hcells hsa hb h
  generalize hzz : (bys (zs 40)).toArray = zc at heq
  have hbd : ∀ ws, (Instr.build 38 #[]).run Try.prog ws = .ok (.agg zc) ws := fun ws => by rw [← hzz]; exact Try.build40 ws
  generalize hbb : (bys b).toArray = bc at heq hld
  by_cases hbz : b = zs 40
  · obtain rfl : q = true := by rw [← hq]; exact decide_eq_true hbz
    have Hb := hide hbz
    clear hzz hbb hq hbz
    go_enter Try.func23, Try.ntmps23
    go_wp2_with (first | (refine wpList_value_w (by kernel_rfl) (exec_load (t := 38) rfl rfl hld) ?_) | (refine wpList_value_w (by kernel_rfl) (exec_build0 (t := 38) rfl (hbd _)) ?_) | (refine wpList_value_w (by kernel_rfl) (exec_eql_agg (t := 38) rfl rfl rfl hg heq) ?_))
    go_ret
    exact ⟨by unfold slotStr; rw [if_pos Hb.out]; rfl, rfl⟩
  · obtain rfl : q = false := by rw [← hq]; exact decide_eq_false hbz
    have Hb := hide hbz
    clear hzz hbb hq hbz
    go_enter Try.func23, Try.ntmps23
    go_wp2_with (first | (refine wpList_value_w (by kernel_rfl) (exec_load (t := 38) rfl rfl hld) ?_) | (refine wpList_value_w (by kernel_rfl) (exec_build0 (t := 38) rfl (hbd _)) ?_) | (refine wpList_value_w (by kernel_rfl) (exec_eql_agg (t := 38) rfl rfl rfl hg heq) ?_))
    go_ret
    exact ⟨by unfold slotStr; rw [if_neg Hb.out]; rfl, rfl⟩
end Go.Proofs.Ytmlifjfgelfbbaa
