/-
  The package disk: New: what it comes to, in terms of blocks: a contract, no statement.
-/
import Derived.Test.YtmlifjfgelfbbaaDc
import Derived.Laws.MakeOwn
namespace Go.Proofs.Ytmlifjfgelfbbaa
open Go Go.RowKit

theorem made_flat (z : Array Value) (n : Nat) (hz : 0 < z.size) : (madeCells z (n * z.size)).toList = (List.replicate n ()).flatMap fun _ => z.toList := by
  have hk : ∀ x ∈ List.replicate n (), ((fun _ => z.toList) x).length = z.size := fun x _ => by simp
  apply List.ext_getElem?
  intro i
  by_cases hi : i < n * z.size
  · have hq : i / z.size < n := (Nat.div_lt_iff_lt_mul hz).2 hi
    have hr : i % z.size < z.size := Nat.mod_lt _ hz
    have e := flat_at hk (i / z.size) (i % z.size) (by simpa using hq) hr
    rw [Nat.div_add_mod' i z.size] at e
    rw [e]
    unfold madeCells
    simp [hi, hr]
  · have h1 : (madeCells z (n * z.size)).toList.length = n * z.size := by simp [size_madeCells]
    have h2 : ((List.replicate n ()).flatMap fun _ => z.toList).length = n * z.size := by rw [flat_sized hk]; simp
    rw [List.getElem?_eq_none (by omega), List.getElem?_eq_none (by omega)]
theorem flat_rep (n : Nat) (l : List Value) {α : Type} (x : α) (f : α → List Value) (h : f x = l) : (List.replicate n ()).flatMap (fun _ => l) = (List.replicate n x).flatMap f := by
  induction n with
  | zero => rfl
  | succ n ih => rw [List.replicate_succ, List.replicate_succ, List.flatMap_cons, List.flatMap_cons, ih, h]

section
variable {P : Program} {ops : Array Oper} {rest : List Oper} {o : Oper} {a : Act} {Q : Exit → Act → World → Prop} {w0 w : World} {R : HP}
theorem At.made {z : Array Value} {e : TypeId} {c : Nat} {xs : List Value} (h : At w0 R w) (hz : 0 < z.size) (hc : c ≤ maxLen) (hx : ((List.replicate c ()).flatMap fun _ => z.toList) = xs) :
    At w0 (row e z.size (.slice (some ⟨w.heap.size, 0, none⟩) c c) c xs * R) (w.alloc (.cells (madeCells z (c * z.size)) e)) := by
  refine At.mkrow (h.alloc _) (Nat.le_refl _) hc (by rw [size_madeCells]; exact Nat.le_refl _) ?_
  rw [made_flat z c hz, hx]
  rw [List.take_of_length_le]
  rw [← hx, flat_sized (k := z.size) (fun x _ => by simp)]
  simp
theorem wpList_make (hg : o.guard = none) (t e : TypeId) (x y : Operand) (ho : o.op = .makeSlice t x y) (i : TypeInfo) (z : Array Value) (zv : Value) (size by' : Nat) (ht : P.underlying t = some (.slice e)) (hi : P.info? e = some i) (hzv : i.zero = some zv) (hzc : zv.cells = z) (hsz : i.size = size) (hzs : z.size = size) (h0 : 0 < size) (hby : i.bytes = by')
    (kl kc : IntKind) (c : Nat) (hx : a.eval x = .int kl c) (hy : a.eval y = .int kc c) (hbytes : by' * c ≤ 281474976710656) (hcm : c ≤ maxLen) {xs : List Value} (hxs : ((List.replicate c ()).flatMap fun _ => z.toList) = xs) (h : At w0 R w)
    (hK : ∀ g w', At w0 (row e size (.slice (some ⟨g, 0, none⟩) c c) c xs * R) w' → wpList P ops Q rest (a.put o.dst (.slice (some ⟨g, 0, none⟩) c c)) w') : wpList P ops Q (o :: rest) a w := by
  refine wpList_plain hg fun K hK' => ?_
  have hcm' : (c : Int) ≤ 9223372036854775807 := by have h := hcm; simp [maxLen] at h; omega
  have hb' : (i.bytes : Int) * (c : Int) ≤ 281474976710656 := by
    have h : ((i.bytes * c : Nat) : Int) ≤ 281474976710656 := by rw [hby]; omega
    rwa [Int.natCast_mul] at h
  have hr := run_make (P := P) w t e i zv ht hi hzv kl kc c c (by omega) (Int.le_refl _) hb' hcm'
  simp only [Int.toNat_natCast] at hr
  unfold Oper.wp execOp
  simp only [ho, hx, hy, Sem.run_bind, hr, Result.andThen_ok]
  refine hK' _ _ (hK _ _ ?_)
  subst hzs
  rw [hsz, hzc]
  exact h.made h0 hcm hxs
end

theorem Try.infoRg : (Try.prog.info? 95).map (fun i => (i.zero.map (·.cells), i.size, i.bytes)) = some (some #[.slice none 0 0, .bool false, .int .i64 0], 3, 40) := by kernel_rfl
theorem Try.infoSec : (Try.prog.info? 96).map (fun i => (i.zero.map (·.cells), i.size, i.bytes)) = some (some (List.replicate 64 (.int .u8 0)).toArray, 64, 64) := by kernel_rfl
theorem info_zc {P : Program} {t : TypeId} {c : Array Value} {sz by' : Nat} (h : (P.info? t).map (fun i => (i.zero.map (·.cells), i.size, i.bytes)) = some (some c, sz, by')) : ∃ i z, P.info? t = some i ∧ i.zero = some z ∧ z.cells = c ∧ i.size = sz ∧ i.bytes = by' := by
  cases hq : P.info? t with
  | none => rw [hq] at h; cases h
  | some i =>
    rw [hq] at h
    simp only [Option.map_some, Option.some.injEq, Prod.mk.injEq] at h
    cases hz : i.zero with
    | none => rw [hz] at h; cases h.1
    | some z => rw [hz] at h; exact ⟨i, z, rfl, hz, by simpa using h.1, h.2.1, h.2.2⟩

/-- A disk that is all zeros. -/
def Dk.new (n size : Nat) : Dk := ⟨size, List.replicate (n * size) (zbys 64), List.replicate n ⟨[], false, 0⟩, 0⟩
theorem Dk.new_wf {n size : Nat} (h1 : n ≤ 64) (h2 : 0 < size) (h3 : size ≤ 65536) : (Dk.new n size).Wf := by
  refine ⟨by simp [Dk.new], by simpa [Dk.new] using h1, h2, h3, fun s hs => ?_, fun r hr => ?_, fun r hr => ?_⟩
  · rw [List.eq_of_mem_replicate hs]; simp [zbys]
  · rw [List.eq_of_mem_replicate hr]; simp
  · rw [List.eq_of_mem_replicate hr]; simp
theorem new_rgcs : ∀ n, rgcs (List.replicate n ⟨[], false, 0⟩) (List.replicate n (.slice none 0 0)) = (List.replicate n ()).flatMap fun _ => (#[.slice none 0 0, .bool false, .int .i64 0] : Array Value).toList
  | 0 => rfl
  | n + 1 => by
    rw [List.replicate_succ, List.replicate_succ, List.replicate_succ, rgcs, new_rgcs n, List.flatMap_cons]
    rfl
theorem new_rgsP : ∀ n, rgsP (List.replicate n ⟨[], false, 0⟩) (List.replicate n (.slice none 0 0)) = 1
  | 0 => rfl
  | n + 1 => by
    rw [List.replicate_succ, List.replicate_succ, rgsP, new_rgsP n]
    show row _ _ _ 0 [] * 1 = 1
    rw [row_nil, HP.mul_one]

set_option maxRecDepth 100000 in
set_option maxHeartbeats 2000000 in
theorem diskNew_any (w0 w : World) (R : HP) (n size : Nat) (hn : 0 < n) (hn2 : n ≤ 64) (hs : 0 < size) (hs2 : size ≤ 65536) (h : At w0 R w) :
    Calls Try.prog 9 #[.int .i64 n, .int .i64 size] w fun e w' => ∃ b, e = .returned (.pointer (some ⟨b, 0, none⟩)) ∧ At w0 (dsk b (Dk.new n size) * R) w' := by
  obtain ⟨i1, z1, hi1, hz1, hc1, hs1, hb1⟩ := info_zc Try.infoRg
  obtain ⟨i2, z2, hi2, hz2, hc2, hs22, hb2⟩ := info_zc Try.infoSec
  have hmul : (n : Int) * (size : Int) = ((n * size : Nat) : Int) := by simp
  have hle : n * size ≤ 4194304 := Nat.le_trans (Nat.mul_le_mul hn2 hs2) (by decide)
  have hq1 : ¬ ((n : Int) < 1) := by omega
  have hq2 : ¬ ((n : Int) > 64) := by omega
  have hq3 : ¬ ((size : Int) < 1) := by omega
  have hq4 : ¬ ((size : Int) > 65536) := by omega
  obtain ⟨q, hq⟩ : ∃ q, n * size = q := ⟨_, rfl⟩
  rw [hq] at hmul hle
  have hw1 := IntWalk.i64_in (q : Int) (by omega)
  have Hq := hide hq
  clear hq
  go_enter Try.func9, Try.ntmps9
  go_wp2_with fail
  have hmk1 : ∀ w : World, (Instr.makeSlice 79 (.int .i64 q) (.int .i64 q)).run Try.prog w = .ok (.slice (some ⟨w.heap.size, 0, none⟩) q q) (w.alloc (.cells (madeCells (List.replicate 64 (.int .u8 0)).toArray (q * 64)) 96)) := fun w => by
    have h := run_make (P := Try.prog) w 79 96 i2 z2 Try.underlying79 hi2 hz2 .i64 .i64 q q (by omega) (Int.le_refl _) (by rw [hb2]; omega) (by omega)
    simpa only [Int.toNat_natCast, hc2, hs22] using h
  have hmk2 : ∀ w : World, (Instr.makeSlice 80 (.int .i64 n) (.int .i64 n)).run Try.prog w = .ok (.slice (some ⟨w.heap.size, 0, none⟩) n n) (w.alloc (.cells (madeCells #[.slice none 0 0, .bool false, .int .i64 0] (n * 3)) 95)) := fun w => by
    have h := run_make (P := Try.prog) w 80 95 i1 z1 Try.underlying80 hi1 hz1 .i64 .i64 n n (by omega) (Int.le_refl _) (by rw [hb1]; omega) (by omega)
    simpa only [Int.toNat_natCast, hc1, hs1] using h
  clear hi1 hi2 hz1 hz2 hc1 hc2 hs1 hs22 hb1 hb2
  obtain ⟨C1, hC1⟩ : ∃ C, madeCells (List.replicate 64 (.int .u8 0)).toArray (q * 64) = C := ⟨_, rfl⟩
  obtain ⟨C2, hC2⟩ : ∃ C, madeCells #[.slice none 0 0, .bool false, .int .i64 0] (n * 3) = C := ⟨_, rfl⟩
  have hM1 : ∀ (w : World) (A : HP), At w0 A w → At w0 (row 96 64 (.slice (some ⟨w.heap.size, 0, none⟩) q q) q (secs (List.replicate q (zbys 64))) * A) (w.alloc (.cells C1 96)) := fun w A h => by
    have := h.made (z := (List.replicate 64 (.int .u8 0)).toArray) (e := 96) (c := q) (xs := secs (List.replicate q (zbys 64))) (by simp) (by unfold maxLen; omega) (flat_rep q _ (zbys 64) bys rfl)
    simp only [List.size_toArray, List.length_replicate] at this
    rw [hC1] at this
    exact this
  have hM2 : ∀ (w : World) (A : HP), At w0 A w → At w0 (row 95 3 (.slice (some ⟨w.heap.size, 0, none⟩) n n) n (rgcs (List.replicate n ⟨[], false, 0⟩) (List.replicate n (.slice none 0 0))) * A) (w.alloc (.cells C2 95)) := fun w A h => by
    have := h.made (z := #[.slice none 0 0, .bool false, .int .i64 0]) (e := 95) (c := n) (xs := rgcs (List.replicate n ⟨[], false, 0⟩) (List.replicate n (.slice none 0 0))) (by decide) (by unfold maxLen; omega) (new_rgcs n).symm
    change At w0 (row _ 3 _ n _ * A) (w.alloc (.cells (madeCells _ (n * 3)) _)) at this
    rw [hC2] at this
    exact this
  rw [hC1] at hmk1
  rw [hC2] at hmk2
  have hfin : ∀ (w' : World) (b : Nat) (dv rv : Value), At w0 (cel b #[.int .i64 size, dv, rv, .int .i64 0] 82 * (row 96 64 dv q (secs (List.replicate q (zbys 64))) * (row 95 3 rv n (rgcs (List.replicate n ⟨[], false, 0⟩) (List.replicate n (.slice none 0 0))) * R))) w' → At w0 (dsk b (Dk.new n size) * R) w' := fun w' b dv rv h => by
    refine At.dsk_shut (dv := dv) (rv := rv) (vs := List.replicate n (.slice none 0 0)) (Dk.new_wf hn2 hs hs2) (by simp [Dk.new]) (h.cast ?_)
    simp only [Dk.new, List.length_replicate, new_rgsP, HP.one_mul, Hq.out]
    rfl
  have HM1 := hide hM1
  have HM2 := hide hM2
  have Hfin := hide hfin
  clear hM1 hM2 hfin hC1 hC2
  go_region
  all_goals
    go_wp2_with fail
    go_ret
  · have h1 := HM2.out _ _ (HM1.out _ _ h)
    have h2 := h1.alloc (.cells #[.int .i64 size, .slice (some ⟨w.heap.size, 0, none⟩) q q, .slice (some ⟨w.heap.size + 1, 0, none⟩) n n, .int .i64 0] 82)
    simp only [World.size_alloc] at h2
    exact ⟨_, rfl, (Hfin.out _ _ (.slice (some ⟨w.heap.size, 0, none⟩) q q) (.slice (some ⟨w.heap.size + 1, 0, none⟩) n n) (h2.cast (by unfold cel; ac_rfl))).drew⟩
  · have h1 := HM1.out _ _ (HM2.out _ _ h)
    have h2 := h1.alloc (.cells #[.int .i64 size, .slice (some ⟨w.heap.size + 1, 0, none⟩) q q, .slice (some ⟨w.heap.size, 0, none⟩) n n, .int .i64 0] 82)
    simp only [World.size_alloc] at h2
    exact ⟨_, rfl, (Hfin.out _ _ (.slice (some ⟨w.heap.size + 1, 0, none⟩) q q) (.slice (some ⟨w.heap.size, 0, none⟩) n n) (h2.cast (by unfold cel; ac_rfl))).drew⟩
end Go.Proofs.Ytmlifjfgelfbbaa
