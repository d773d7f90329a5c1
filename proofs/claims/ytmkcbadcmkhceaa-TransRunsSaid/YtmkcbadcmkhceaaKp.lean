/-
  Kept: a contract, no statement.
-/
import Derived.Test.YtmkcbadcmkhceaaCg
namespace Go.Proofs.Ytmkcbadcmkhceaa
open Go Go.RowKit Go.Shelf
attribute [local go_sem] Oper.semAt_some

theorem wpListIn_append_row {F : Fence} {nF : Nat} {P : Program} {ops : Array Oper} {o : Oper} {a : Act} {Q : Exit → Act → World → Prop} {w0 w : World} {R : HP} {rest : List Oper} (hgd : o.guard = none) (s x : Operand) (t : TypeId)
    (ho : o.op = .call { callee := .builtin .append, args := #[s, x], argTypes := #[t, t] })
    (e : TypeId) (i : TypeInfo) (z : Value) (size bytes : Nat) (ht : P.underlying t = some (.slice e)) (hi : P.info? e = some i) (hz : i.zero = some z)
    (hsize : i.size = size) (hby : i.bytes = bytes) (hzs : z.cells.size = size) (hsz : 0 < size)
    (v : Value) (n : Nat) (xs : List Value) (hs : a.eval s = v) (h : At w0 (row e size v n xs * R) w)
    (ad : Addr) (m c : Nat) (news : List Value) (hx : a.eval x = .slice (some ad) m c) (hl : news.length = m * size) (hnews : ∀ j u, news[j]? = some u → w.cell? (ad.add j) = some u) (h1 : ∀ u ∈ news, u.oneCell' = true)
    (h63 : n + m ≤ maxLen) (hbytes : (n + m) * bytes ≤ 140737488355328)
    (hK : ∀ ar cp w', At w0 (row e size (.slice ar (n + m) cp) (n + m) (xs ++ news) * R) w' → wpListIn F nF P ops Q rest (a.put o.dst (.slice ar (n + m) cp)) w') : wpListIn F nF P ops Q (o :: rest) a w := by
  refine wpListIn_plain hgd fun K hK' => ?_
  obtain ⟨v', w', hr, h2, h3⟩ := run_append_row (P := P) t o.type e i z size bytes ht hi hz hsize hby hzs hsz h ad m c news hl hnews h1 h63 hbytes
  obtain ⟨ar, cp, rfl⟩ := h2.row_len
  unfold Oper.wpIn
  refine ⟨by simp [Oper.about, ho, resolve, Target.leads, Sem.run_pure], ?_⟩
  rw [Oper.semAt_plain F _ _ (by rw [ho]; intro c hc'; cases hc')]
  unfold execOp
  simp only [ho, resolve, invoke, builtin, Sem.run_bind, Sem.run_pure, Result.andThen_ok, List.map_toArray, List.map_cons, List.map_nil, hs, hx, hr]
  exact hK' _ _ (hK ar cp w' h2)

/-- The slots of a page that changes may have to fill again. -/
def slotsOf (pg : Int) (l : List Ch) : List Int := (l.filter fun c => decide (c.p = pg ∧ c.b.toList.isEmpty = false)).map (·.s)
def keptOf (pg : Int) (d : Nat → Td) (l : List (Nat × Nat)) : List Int := l.flatMap fun x => slotsOf pg (d x.1).l
theorem keptOf_snoc (pg : Int) (d : Nat → Td) (l : List (Nat × Nat)) (x : Nat × Nat) : keptOf pg d (l ++ [x]) = keptOf pg d l ++ slotsOf pg (d x.1).l := by simp [keptOf]
theorem slotsOf_length (pg : Int) (l : List Ch) : (slotsOf pg l).length ≤ l.length := by
  unfold slotsOf
  rw [List.length_map]
  exact List.length_filter_le _ _
theorem keptOf_length (pg : Int) (d : Nat → Td) (l : List (Nat × Nat)) : (keptOf pg d l).length ≤ totOf d l := by
  induction l with
  | nil => exact Nat.le_refl _
  | cons x l ih =>
    show (slotsOf pg (d x.1).l ++ keptOf pg d l).length ≤ (d x.1).l.length + totOf d l
    rw [List.length_append]
    exact Nat.add_le_add (slotsOf_length _ _) ih

theorem chs_trio (L : List Ch) (j : Nat) (c : Ch) (hc : L[j]? = some c) : (chs L)[j * 3]? = some (.int .i64 c.p) ∧ (chs L)[j * 3 + 1]? = some (.int .i64 c.s) ∧ (chs L)[j * 3 + 2]? = some (.string c.b) := by
  obtain ⟨hj, rfl⟩ := List.getElem?_eq_some_iff.1 hc
  refine ⟨?_, ?_, ?_⟩
  · have := chs_at L j 0 hj (by decide); simpa [Ch.cells] using this
  · have := chs_at L j 1 hj (by decide); simpa [Ch.cells] using this
  · have := chs_at L j 2 hj (by decide); simpa [Ch.cells] using this

/-- The row that is built, in its box. -/
def outb (O PG : Nat) (pg : Int) (out : List Int) : HP :=
  hex fun ar => hex fun cp => cel O #[.slice ar out.length cp] 22 * (row 3 1 (.slice ar out.length cp) out.length (out.map (.int .i64)) * cel PG #[.int .i64 pg] 3)
theorem At.outb_open {w0 w : World} {R : HP} {O PG : Nat} {pg : Int} {out : List Int} (h : At w0 (outb O PG pg out * R) w) :
    ∃ ar cp, At w0 (cel O #[.slice ar out.length cp] 22 * (row 3 1 (.slice ar out.length cp) out.length (out.map (.int .i64)) * (cel PG #[.int .i64 pg] 3 * R))) w := by
  obtain ⟨ar, h⟩ := h.exl
  obtain ⟨cp, h⟩ := h.exl
  exact ⟨ar, cp, h.cast (by ac_rfl)⟩
theorem At.outb_shut {w0 w : World} {R : HP} {O PG : Nat} {pg : Int} {out : List Int} {ar : Option Addr} {cp : Nat}
    (h : At w0 (cel O #[.slice ar out.length cp] 22 * (row 3 1 (.slice ar out.length cp) out.length (out.map (.int .i64)) * (cel PG #[.int .i64 pg] 3 * R))) w) : At w0 (outb O PG pg out * R) w :=
  At.mkex ar (At.mkex cp (h.cast (by ac_rfl)))
theorem slotsOf_take (pg : Int) (l : List Ch) (k : Nat) (hk : k < l.length) : slotsOf pg (l.take (k + 1)) = slotsOf pg (l.take k) ++ slotsOf pg [l[k]] := by
  rw [List.take_add_one, List.getElem?_eq_getElem hk]
  simp only [slotsOf, Option.toList_some, List.filter_append, List.map_append]
theorem slotsOf_yes {pg : Int} {c : Ch} (h1 : c.p = pg) (h2 : c.b.toList.isEmpty = false) : slotsOf pg [c] = [c.s] := by unfold slotsOf; rw [List.filter_cons_of_pos (by rw [decide_eq_true_eq]; exact ⟨h1, h2⟩)]; rfl
theorem slotsOf_no1 {pg : Int} {c : Ch} (h1 : c.p ≠ pg) : slotsOf pg [c] = [] := by unfold slotsOf; rw [List.filter_cons_of_neg (by rw [decide_eq_true_eq]; exact fun h => h1 h.1)]; rfl
theorem slotsOf_no2 {pg : Int} {c : Ch} (h2 : c.b.toList.isEmpty = true) : slotsOf pg [c] = [] := by unfold slotsOf; rw [List.filter_cons_of_neg (by rw [decide_eq_true_eq]; exact fun h => by rw [h2] at h; cases h.2)]; rfl

set_option maxRecDepth 100000 in
set_option maxHeartbeats 2000000 in
theorem kept_any (w0 w : World) (R : HP) (b : Nat) (p : Nat → Option Nat) (d : Nat → Td) (pg : Int) (hs : tot p d ≤ 1000) (h : At w0 (tabl b p d * R) w) :
    Calls Try.prog 22 #[.pointer (some ⟨b, 0, none⟩), .int .i64 pg] w fun e w' => ∃ ar cp, e = .returned (.slice ar (keptOf pg d (opens p)).length cp) ∧
      At w0 (row 3 1 (.slice ar (keptOf pg d (opens p)).length cp) (keptOf pg d (opens p)).length ((keptOf pg d (opens p)).map (.int .i64)) * (tabl b p d * R)) w' := by
  have hlt := At.lt h.assoc
  obtain ⟨i0, hi, hz0, hz1, hz2⟩ := info_parts Try.infoInt
  refine (callsIn_wide (n := 9)).1 ?_
  refine callsIn_of_wp_marks Try.func22 rfl trivial ?_
  simp only [Try.ntmps22, List.size_toArray, List.length_cons, List.length_nil, Nat.reduceAdd, Nat.reduceSub, Array.replicate_succ, Array.replicate_zero, List.push_toArray, List.append_toArray, List.nil_append, List.cons_append]
  gi_wp2
  obtain ⟨PG, hPG⟩ : ∃ N, w.heap.size = N := ⟨_, rfl⟩
  obtain ⟨O, hO⟩ : ∃ N, w.heap.size + 1 = N := ⟨_, rfl⟩
  have h1 : At w0 (outb O PG pg [] * (tabl b p d * R)) ((w.alloc (.cells #[.int .i64 pg] 3)).alloc (.cells #[.slice none 0 0] 22)) :=
    At.outb_shut (ar := none) (cp := 0) (((h.alloc' hPG (.cells #[.int .i64 pg] 3)).row_nil 3 1).alloc' (show _ = O by simp [hO]) (.cells #[.slice none 0 0] 22))
  rw [hPG] at hlt ⊢
  rw [show PG + 1 = O by omega]
  have Hne := hide (show b < PG ∧ PG < O by omega)
  clear hPG hO hlt
  refine wp_rangeFunc_at (w0 := w0) rfl (enters_of Try.func25 (by kernel_rfl) rfl) (all_seq w0 b p) (fun _ => rfl)
    (fun pre => outb O PG pg (keptOf pg d pre) * tabl b p d) (fact False) R ⟨_, (h1.cast (by unfold tabl; ac_rfl : _ = tbl b p * (outb O PG pg [] * (otx (p 1) (d 1) * (otx (p 2) (d 2) * otx (p 3) (d 3)) * R))))⟩ (h1.cast (HP.mul_assoc _ _ _).symm) ?_ ?_ ?_
  · intro l pre x B W hp hJ
    simp only [enc2, ptr_some]
    gi_wp2
    refine ⟨_, hJ, fun B2 W2 hJ => ?_⟩
    obtain ⟨C, hC⟩ := tabl_at (b := b) (d := d) (mem_pre hp)
    have Hk0 := hide (keptOf_length pg d pre)
    have Htot2 := hide (Nat.le_trans (totOf_pre hp) hs)
    rw [totOf_snoc] at Htot2
    rw [keptOf_snoc]
    rw [hC] at hJ ⊢
    generalize (d x.1).l = ls at *
    generalize (d x.1).sv = sv at *
    generalize (d x.1).ops = op at *
    generalize keptOf pg d pre = out0 at *
    obtain ⟨v, vs, hx⟩ := (hJ.cast (show _ = txb x.2 ls sv op * (outb O PG pg out0 * (C * B2)) by ac_rfl)).txb_open
    obtain ⟨ar, cp, rfl⟩ := hx.pull2.row_len
    have hx0 := At.cell (i := 0) hx rfl
    have hJ2 := hx.cast (show _ = outb O PG pg out0 * (cel x.2 #[.slice ar ls.length cp, vs, .int .i64 op] 61 * (row 36 3 (.slice ar ls.length cp) ls.length (chs ls) * (row 3 1 vs sv.length (sv.map (.int .i64)) * (C * B2)))) by ac_rfl)
    clear hx hC hp hJ
    gi_wp2
    gi_loopw [19] (fun i wr => ∃ k : Nat, k ≤ ls.length ∧ i = .int .i64 k ∧ At w0 (outb O PG pg (out0 ++ slotsOf pg (ls.take k)) * (cel x.2 #[.slice ar ls.length cp, vs, .int .i64 op] 61 * (row 36 3 (.slice ar ls.length cp) ls.length (chs ls) * (row 3 1 vs sv.length (sv.map (.int .i64)) * (C * B2))))) wr) (fun i _ => ls.length - (intOf i).toNat)
    case atStart => exact ⟨0, Nat.zero_le _, rfl, by simpa [slotsOf] using hJ2⟩
    case round =>
      obtain ⟨k, hk, rfl, h3⟩ := hrel
      clear hJ2
      by_cases hkl : k < ls.length
      · have hkz : (k : Int) < (ls.length : Int) := by omega
        obtain ⟨g, cp9, hv, hle, hcell⟩ := h3.pull3.row_ptr (by omega)
        simp at hv
        obtain ⟨rfl, rfl⟩ := hv
        obtain ⟨hx0, hx1, hx2⟩ := chs_trio ls k _ (List.getElem?_eq_getElem hkl)
        have hg0 := hcell _ _ hx0
        have hg1 := hcell _ _ hx1
        have hg2 := hcell _ _ hx2
        have Hs := hide (slotsOf_take pg ls k hkl)
        clear hcell hx0 hx1 hx2
        generalize ls[k] = c at *
        have Hlen := hide (show (out0 ++ slotsOf pg (ls.take k)).length ≤ 1000 by
          have h1 := Hk0.out
          have h2 := Htot2.out
          have h3 := slotsOf_length pg (ls.take k)
          rw [List.length_take] at h3
          rw [List.length_append]; omega)
        obtain ⟨out, hout⟩ : ∃ out, out0 ++ slotsOf pg (ls.take k) = out := ⟨_, rfl⟩
        have Hout := hide (show out0 ++ slotsOf pg (ls.take (k + 1)) = out ++ slotsOf pg [c] by rw [Hs.out, ← hout, List.append_assoc])
        rw [hout] at h3 Hlen
        clear hout Hs
        obtain ⟨ar2, cp2, h4⟩ := h3.outb_open
        have hpg := At.cell (i := 0) h4.pull3 rfl
        have ho := At.cell (i := 0) h4 rfl
        have hfo := At.frz h4 0
        have hlt := At.lt h4
        have hltp := At.lt h4.pull3
        have hls : ls.length ≤ 1000 := by have := Htot2.out; omega
        by_cases hp1 : c.p = pg
        · cases hb1 : c.b.toList.isEmpty with
          | true =>
            have Hn := hide (slotsOf_no2 (pg := pg) hb1)
            have hp2 : (c.p == pg) = true := by rw [hp1]; simp
            have Hp := hide hp1
            clear hp1
            gi_wp2
            go_roundw
            case rel => exact ⟨k + 1, by omega, by go_num, by rw [Hout.out, Hn.out, List.append_nil]; exact (h3.alloc _).r⟩
            case measure => simp [intOf]; omega
          | false =>
            have Hy := hide (slotsOf_yes hp1 hb1)
            have hp2 : (c.p == pg) = true := by rw [hp1]; simp
            have Hp := hide hp1
            clear hp1
            have hlo := Hlen.out
            gi_wp2_with (gi_at_builtin; go_loud (refine wpListIn_append_row rfl _ _ _ rfl 3 i0 _ 1 8 Try.underlying22 hi hz0 hz1 hz2 rfl (by decide) _ _ _ rfl ((h4.alloc (.cells #[.int .i64 c.p, .int .i64 c.s, .string c.b] 36)).alloc (.cells #[.int .i64 c.s] 3)).pull4 _ 1 1 [.int .i64 c.s] rfl rfl (fun j u hu => new_cells (w := wr.alloc _) (by simp) j u hu) (one_cells1 rfl) (by unfold maxLen; omega) (by omega) ?_))
            intro a1 cap1 w1 h5
            have hfo1 := At.frz h5.pull4 0
            have hlt1 := At.lt h5.pull4
            have ho1 := At.cell (i := 0) h5.pull4 rfl
            gi_wp2
            go_roundw
            case rel =>
              refine ⟨k + 1, by omega, by go_num, ?_⟩
              rw [Hout.out, Hy.out]
              refine At.outb_shut (ar := a1) (cp := cap1) ?_
              have h6 := (h5.pull4.set' 0 (.slice a1 (out.length + 1) cap1) rfl).pull3.r.pull3.r
              rw [List.length_append, List.map_append]
              exact h6
            case measure => simp [intOf]; omega
        · have Hn := hide (slotsOf_no1 hp1)
          have hp2 : (c.p == pg) = false := beq_eq_false_iff_ne.2 hp1
          gi_wp2
          go_roundw
          case rel => exact ⟨k + 1, by omega, by go_num, by rw [Hout.out, Hn.out, List.append_nil]; exact (h3.alloc _).r⟩
          case measure => simp [intOf]; omega
      · obtain rfl : k = ls.length := by omega
        rw [List.take_length] at h3
        gi_wp2
        have h4 := At.txb_shut (h3.cast (show _ = cel x.2 #[.slice ar ls.length cp, vs, .int .i64 op] 61 * (row 36 3 (.slice ar ls.length cp) ls.length (chs ls) * (row 3 1 vs sv.length (sv.map (.int .i64)) * (outb O PG pg (out0 ++ slotsOf pg ls) * (C * B2)))) by ac_rfl))
        exact h4.cast (show _ = (outb O PG pg (out0 ++ slotsOf pg ls) * (txb x.2 ls sv op * C)) * B2 by ac_rfl)
  · intro D W hJ
    obtain ⟨ar, cp, h2⟩ := (hJ.cast (show _ = outb O PG pg (keptOf pg d (opens p)) * (pt D (.deferred (some [])) * (tabl b p d * R)) by ac_rfl)).outb_open
    have ho := At.cell (i := 0) h2 rfl
    gi_wp2
    have h3 := h2.cast (show _ = pt D (.deferred (some [])) * (cel PG #[.int .i64 pg] 3 * (cel O #[.slice ar (keptOf pg d (opens p)).length cp] 22 * (row 3 1 (.slice ar (keptOf pg d (opens p)).length cp) (keptOf pg d (opens p)).length ((keptOf pg d (opens p)).map (.int .i64)) * (tabl b p d * R)))) by ac_rfl)
    refine ⟨by simp, .inl ⟨_, _, rfl, run_takeDeferred (At.blk h3), ?_⟩⟩
    refine ⟨_, results_tmp rfl _ _ _, ar, cp, rfl, ?_⟩
    exact (At.putObj h3 (.deferred none)).r.r.r
  · intro D W hJ
    exact hJ.factl.1.elim

end Go.Proofs.Ytmkcbadcmkhceaa
