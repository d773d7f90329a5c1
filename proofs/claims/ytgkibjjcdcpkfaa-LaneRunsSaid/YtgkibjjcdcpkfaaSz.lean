/-
  Of layer 7's statements: size, starts: what they come to: contracts, no statement.
-/
import Derived.Test.YtgkibjjcdcpkfaaSd
namespace Go.Proofs.Ytgkibjjcdcpkfaa
open Go Go.RowKit

theorem RecsIn.mono {w0 : World} {A B : HP} {a : Option Addr} {rs : List RecV} (h : RecsIn w0 A a rs) : RecsIn w0 (B * A) a rs :=
  ⟨h.1.imp id fun ⟨g, o, e, hc⟩ => ⟨g, o, e, fun w' h' => hc w' h'.r⟩, fun x hx w' h' => h.2.1 x hx w' h'.r, h.2.2⟩
def GoodV (rs : List RecV) : Prop := ∀ x ∈ rs, Good x.1
/-- Element i of records that are read. -/
theorem RecsIn.at {w0 w : World} {A : HP} {a : Option Addr} {rs : List RecV} (h : RecsIn w0 A a rs) (hA : At w0 A w) {i : Nat} (hi : i < rs.length) : ∃ g o, a = some ⟨g, o, none⟩ ∧ ∀ j u, rs[i].cs[j]? = some u → w.cell? ⟨g, o + i * 8 + j, none⟩ = some u := by
  obtain ⟨g, o, e, hc⟩ := h.1.resolve_left (fun e => by subst e; simp at hi)
  refine ⟨g, o, e, fun j u hu => ?_⟩
  rw [Nat.add_assoc]
  refine hc w hA (i * 8 + j) u ?_
  have hj : j < 8 := by rw [← rs[i].cs_len]; exact (List.getElem?_eq_some_iff.1 hu).1
  rw [flat_at (fun y _ => y.cs_len) i j hi hj]
  exact hu

set_option maxRecDepth 100000 in
set_option maxHeartbeats 4000000 in
theorem lawSize_any (w0 w : World) (A : HP) (a : Option Addr) (c : Nat) (rs : List RecV) (hn : rs.length ≤ 1000000) (hg : GoodV rs) (hA : RecsIn w0 A a rs) (h : At w0 A w) :
    Calls Try.prog 27 #[.slice a rs.length c] w fun e w' => e = .returned (.int .i64 (encs rs).length) ∧ At w0 A w' := by
  obtain ⟨n, hnn⟩ : ∃ n, rs.length = n := ⟨_, rfl⟩
  have Hn := hide hnn
  have HA := hide hA
  have Hg := hide hg
  rw [hnn] at hn ⊢
  have hall : rs.take n = rs := by rw [← hnn, List.take_length]
  have Hall := hide hall
  have hle : ∀ i, (encs (rs.take i)).length ≤ i * 80000 := by
    intro i
    induction i with
    | zero => simp [encs]
    | succ i ih =>
      by_cases hi : i < rs.length
      · rw [List.take_succ_eq_append_getElem hi]
        unfold encs at ih ⊢
        rw [List.flatMap_append, List.length_append]
        have hgi := hg rs[i] (List.getElem_mem hi)
        have := Rec.enc_len (Rec.fair hgi.right hgi.nums)
        simp only [List.flatMap_cons, List.flatMap_nil, List.append_nil]
        omega
      · rw [List.take_of_length_le (by omega)]
        rw [List.take_of_length_le (by omega)] at ih
        exact Nat.le_trans ih (Nat.mul_le_mul_right _ (Nat.le_succ i))
  have Hle := hide hle
  clear hnn hA hg hall hle
  go_enter Try.func27, Try.ntmps27
  go_wp2_with fail
  go_loopw [3, 8] (fun u3 u8 wr => ∃ i : Nat, i ≤ n ∧ u8 = .int .i64 i ∧ u3 = .int .i64 (encs (rs.take i)).length ∧ At w0 A wr) (fun _ u _ => n - (intOf u).toNat)
  case atStart => exact ⟨0, Nat.zero_le _, rfl, rfl, h⟩
  case round =>
    obtain ⟨i, hin, rfl, rfl, h1⟩ := hrel
    clear h
    by_cases hil : i < n
    · have hir : i < rs.length := by have := Hn.out; omega
      obtain ⟨x, hx⟩ : ∃ x, rs[i] = x := ⟨_, rfl⟩
      have hxm : x ∈ rs := by rw [← hx]; exact List.getElem_mem _
      have hgx := Hg.out x hxm
      have hfair := Rec.fair hgx.right hgx.nums
      have hel := Rec.enc_len hfair
      have htk : encs (rs.take (i + 1)) = encs (rs.take i) ++ x.1.enc := by
        rw [List.take_succ_eq_append_getElem hir, hx]
        unfold encs
        rw [List.flatMap_append]
        simp
      obtain ⟨g, o, rfl, hcs⟩ := HA.out.at h1 hir
      rw [hx] at hcs
      have hlei := Hle.out i
      have hi2 : i * 80000 ≤ 80000000000 := by omega
      obtain ⟨q, hq⟩ : ∃ q, (encs (rs.take i)).length = q := ⟨_, rfl⟩
      obtain ⟨ys, hys⟩ : ∃ ys, x.cs = ys := ⟨_, rfl⟩
      have hyl : ys.length = 8 := by rw [← hys]; rfl
      have hyo : ys.toArray.all (·.oneCell') = true := by rw [← hys]; exact x.one
      rw [hys] at hcs
      rw [hq] at hlei ⊢
      obtain ⟨N, hN⟩ : ∃ N, wr.heap.size = N := ⟨_, rfl⟩
      have h2 := h1.alloc' hN (.cells (List.toArray [.int .i64 0, .int .i64 0, .int .i64 0, .int .i64 0, .string ⟨#[]⟩, .string ⟨#[]⟩, .string ⟨#[]⟩, .slice none 0 0]) 44)
      have hilz : (i : Int) < (n : Int) := by omega
      have hen := fun w9 (h9 : At w0 (cel N ys.toArray 44 * A) w9) => recEncode_any w0 w9 _ x.1 x.2.1 x.2.2 hfair (fun w' hw' => HA.out.2.1 x hxm w' hw'.r) h9
      have hen' : ∀ w9, At w0 (cel N ys.toArray 44 * A) w9 → Calls Try.prog 25 #[.agg x.cs.toArray] w9 _ := hen
      rw [hys] at hen'
      have Hen := hide hen'
      have Htk := hide htk
      have Hq := hide hq
      have hyl' := hide hyl
      have hyo' := hide hyo
      clear hen hen' htk hq hx hgx hfair hys hyl hyo
      go_upto_region 4 with fail
      refine wp_region_lit ?_
      refine wpList_value rfl (v := .pointer (some ⟨g, o + i * 8, none⟩)) (by go_simp) ?_
      refine wpList_load_agg rfl (.tmp 10) 44 rfl _ Try.underlying44 rfl (ys := ys) (by rw [hyl'.out]; kernel_rfl) (g := g) (off := o + i * 8) (by go_simp) hcs ?_
      refine wpList_alloc_at rfl _ rfl (Try.zeroRec wr) ?_
      rw [hN]
      refine wpList_store_at rfl (.tmp 5) (.tmp 11) _ rfl (g := N) (ys := ys) (by go_simp) (by go_simp) (by rw [hyl'.out]; kernel_rfl) (by rw [hyl'.out]; rfl) hyo'.out h2 ?_
      intro w7 h7
      clear h1 h2 hcs hN
      go_upto_region 5 with fail
      refine wp_region_lit ?_
      refine wpList_value rfl (v := .int .i64 q) (by go_simp) ?_
      refine wpList_load_agg rfl (.tmp 5) 44 rfl _ Try.underlying44 rfl (ys := ys) (by rw [hyl'.out]; kernel_rfl) (g := N) (off := 0) (by go_simp) (fun j u hu => by rw [Nat.zero_add]; exact At.cell h7 (by simpa using hu)) ?_
      have hen := Hen.out w7 h7
      go_wp2_with fail
      refine hen.mono ?_
      rintro e w8 ⟨a8, c8, rfl, h8⟩
      clear hen h7
      go_wp2_with fail
      go_roundw
      case rel =>
        refine ⟨i + 1, by omega, by go_num, ?_, h8.r.r⟩
        rw [Htk.out, List.length_append, Hq.out]
        go_num
      case measure => simp [intOf]; omega
    · obtain rfl : i = n := by omega
      rw [Hall.out]
      go_wp2_with fail
      go_ret
      exact ⟨rfl, h1⟩
theorem EntV.cs_len (x : EntV) : x.cs.length = 9 := rfl
/-- Entries that are read. -/
def EntsIn (w0 : World) (A : HP) (a : Option Addr) (es : List EntV) : Prop :=
  (es = [] ∨ ∃ g o, a = some ⟨g, o, none⟩ ∧ ∀ w', At w0 A w' → ∀ j u, (es.flatMap EntV.cs)[j]? = some u → w'.cell? ⟨g, o + j, none⟩ = some u) ∧
  ∀ x ∈ es, ∀ w', At w0 A w' → Rd w' (.slice x.2.2.1 x.2.1.dirty.length x.2.2.2) (nus x.2.1.dirty)
theorem EntsIn.mono {w0 : World} {A B : HP} {a : Option Addr} {es : List EntV} (h : EntsIn w0 A a es) : EntsIn w0 (B * A) a es :=
  ⟨h.1.imp id fun ⟨g, o, e, hc⟩ => ⟨g, o, e, fun w' h' => hc w' h'.r⟩, fun x hx w' h' => h.2 x hx w' h'.r⟩
theorem dirts_mem {w0 w : World} {R : HP} : ∀ {es : List EntV} {x : EntV}, x ∈ es → At w0 (dirts es * R) w → Rd w (.slice x.2.2.1 x.2.1.dirty.length x.2.2.2) (nus x.2.1.dirty)
  | [], _, hx, _ => by cases hx
  | y :: l, x, hx, h => by
    have h1 := (show At w0 (row _ 1 (.slice y.2.2.1 y.2.1.dirty.length y.2.2.2) y.2.1.dirty.length (nus y.2.1.dirty) * dirts l * R) w from h).assoc
    rcases List.mem_cons.1 hx with rfl | hx
    · exact h1.rd
    · exact dirts_mem hx h1.r
/-- What Open gives back is read. -/
theorem EntsIn.of_row {w0 w : World} {X : HP} {a : Option Addr} {c n : Nat} {es : List EntV} (hn : n = es.length) (h : At w0 (row 52 9 (.slice a n c) n (es.flatMap EntV.cs) * (dirts es * X)) w) :
    EntsIn w0 (row 52 9 (.slice a n c) n (es.flatMap EntV.cs) * (dirts es * X)) a es := by
  refine ⟨?_, fun x hx w' h' => dirts_mem hx h'.r⟩
  by_cases h0 : n = 0
  · left
    subst h0
    exact List.eq_nil_of_length_eq_zero hn.symm
  · right
    obtain ⟨g, cap, hv, _, _⟩ := h.row_ptr (by omega)
    simp only [Value.slice.injEq] at hv
    obtain ⟨rfl, _, rfl⟩ := hv
    refine ⟨g, 0, rfl, fun w' h' j u hu => ?_⟩
    rw [Nat.zero_add]
    exact (h'.row_cell rfl hu).2
theorem EntsIn.at {w0 w : World} {A : HP} {a : Option Addr} {es : List EntV} (h : EntsIn w0 A a es) (hA : At w0 A w) {i : Nat} (hi : i < es.length) : ∃ g o, a = some ⟨g, o, none⟩ ∧ ∀ j u, es[i].cs[j]? = some u → w.cell? ⟨g, o + i * 9 + j, none⟩ = some u := by
  obtain ⟨g, o, e, hc⟩ := h.1.resolve_left (fun e => by subst e; simp at hi)
  refine ⟨g, o, e, fun j u hu => ?_⟩
  rw [Nat.add_assoc]
  refine hc w hA (i * 9 + j) u ?_
  have hj : j < 9 := by rw [← es[i].cs_len]; exact (List.getElem?_eq_some_iff.1 hu).1
  rw [flat_at (fun y _ => y.cs_len) i j hi hj]
  exact hu
/-- Are these the first ones of those? -/
def startsB (gs ls : List Rec) : Bool := decide (gs.length ≤ ls.length ∧ ls.take gs.length = gs)

set_option maxRecDepth 100000 in
set_option maxHeartbeats 4000000 in
theorem lawStarts_any (w0 w : World) (A : HP) (a b : Option Addr) (c d : Nat) (es : List EntV) (rs : List RecV) (hn : es.length ≤ 1000000) (hm : rs.length ≤ 1000000) (hd : ∀ x ∈ es, x.2.1.dirty.length ≤ 1000000) (hA : EntsIn w0 A a es) (hB : RecsIn w0 A b rs) (h : At w0 A w) :
    Calls Try.prog 30 #[.slice a es.length c, .slice b rs.length d] w fun e w' => e = .returned (.bool (startsB (es.map (·.2.1)) (rs.map (·.1)))) ∧ At w0 A w' := by
  obtain ⟨R, hR⟩ : ∃ R, startsB (es.map (·.2.1)) (rs.map (·.1)) = R := ⟨_, rfl⟩
  rw [hR]
  unfold startsB at hR
  rw [List.length_map, List.length_map] at hR
  obtain ⟨n, hnn⟩ : ∃ n, es.length = n := ⟨_, rfl⟩
  obtain ⟨m, hmm⟩ : ∃ m, rs.length = m := ⟨_, rfl⟩
  rw [hnn] at hn hR ⊢
  rw [hmm] at hm hR ⊢
  have Hn := hide hnn
  have Hm := hide hmm
  have HA := hide hA
  have HB := hide hB
  have Hd := hide hd
  have HR := hide hR
  clear hnn hmm hA hB hd hR
  by_cases hnm : m < n
  · have hnz : (m : Int) < (n : Int) := by omega
    go_enter Try.func30, Try.ntmps30
    go_wp2_with fail
    go_ret
    refine ⟨?_, h⟩
    have : R = false := by
      rw [← HR.out]
      exact decide_eq_false fun hh => by omega
    rw [this]
    rfl
  · have hnz : ¬ ((m : Int) < (n : Int)) := by omega
    go_enter Try.func30, Try.ntmps30
    go_wp2_with fail
    go_loopw [13] (fun u wr => ∃ i : Nat, i ≤ n ∧ u = .int .i64 i ∧ Hid ((rs.map (·.1)).take i = (es.map (·.2.1)).take i) ∧ At w0 A wr) (fun u _ => n - (intOf u).toNat)
    case atStart => exact ⟨0, Nat.zero_le _, rfl, hide rfl, h⟩
    case round =>
      obtain ⟨i, hin, rfl, Htk, h1⟩ := hrel
      clear h
      by_cases hil : i < n
      · have hie : i < es.length := by have := Hn.out; omega
        have hir : i < rs.length := by have := Hm.out; omega
        obtain ⟨x, hx⟩ : ∃ x, es[i] = x := ⟨_, rfl⟩
        obtain ⟨y, hy⟩ : ∃ y, rs[i] = y := ⟨_, rfl⟩
        have hxm : x ∈ es := by rw [← hx]; exact List.getElem_mem _
        have hym : y ∈ rs := by rw [← hy]; exact List.getElem_mem _
        obtain ⟨g, o, rfl, hcs⟩ := HA.out.at h1.drew hie
        obtain ⟨g2, o2, rfl, hcs2⟩ := HB.out.at h1.drew hir
        rw [hx] at hcs
        rw [hy] at hcs2
        have hcs' : ∀ j u, x.2.cs[j]? = some u → wr.drew.cell? ⟨g, o + i * 9 + 1 + j, none⟩ = some u := fun j u hu => by
          rw [Nat.add_assoc _ 1 j, Nat.add_comm 1 j]
          exact hcs (j + 1) u hu
        have hsm := recSame_any w0 wr.drew A x.2.1 y.1 x.2.2.1 y.2.1 x.2.2.2 y.2.2 (Hd.out x hxm) (fun w' h' => HA.out.2 x hxm w' h') (fun w' h' => HB.out.2.1 y hym w' h') h1.drew
        have hsm' : Calls Try.prog 32 #[.agg x.2.cs.toArray, .agg y.cs.toArray] wr.drew _ := hsm
        have hs1 : (rs.map (·.1)).take (i + 1) = (rs.map (·.1)).take i ++ [y.1] := by rw [List.take_succ_eq_append_getElem (by rw [List.length_map]; exact hir), List.getElem_map, hy]
        have hs2 : (es.map (·.2.1)).take (i + 1) = (es.map (·.2.1)).take i ++ [x.2.1] := by rw [List.take_succ_eq_append_getElem (by rw [List.length_map]; exact hie), List.getElem_map, hx]
        have hbad : x.2.1 ≠ y.1 → R = false := fun hne => by
          rw [← HR.out]
          refine decide_eq_false fun hh => hne ?_
          have h3 := hh.2
          have h4 : ((rs.map (·.1)).take n)[i]? = (es.map (·.2.1))[i]? := by rw [h3]
          rw [List.getElem?_take, if_pos hil, List.getElem?_map, List.getElem?_map, List.getElem?_eq_getElem hie, List.getElem?_eq_getElem hir, hx, hy] at h4
          simpa using h4.symm
        obtain ⟨xs, hxs⟩ : ∃ xs, x.2.cs = xs := ⟨_, rfl⟩
        obtain ⟨ys, hys⟩ : ∃ ys, y.cs = ys := ⟨_, rfl⟩
        have hxl : xs.length = 8 := by rw [← hxs]; rfl
        have hyl : ys.length = 8 := by rw [← hys]; rfl
        rw [hxs] at hcs' hsm'
        rw [hys] at hcs2 hsm'
        have Hs1 := hide hs1
        have Hs2 := hide hs2
        have Hbad := hide hbad
        have Hxl := hide hxl
        have Hyl := hide hyl
        have hilz : (i : Int) < (n : Int) := by omega
        have himz : (i : Int) < (m : Int) := by omega
        clear hs1 hs2 hbad hsm hcs hx hy hxs hys hxl hyl
        go_upto_region 6 with fail
        refine wp_region_line [0, 1, 2, 3, 4, 5, 6, 7, 8, 9, 10] rfl (by kernel_rfl) ?_
        simp only [picks_cons, picks_nil, getD_zero, getD_succ]
        refine wpList_value rfl (v := .slice (some ⟨g, o, none⟩) n c) (by go_simp) ?_
        refine wpList_value rfl (v := .int .i64 i) (by go_simp) ?_
        refine wpList_value rfl (v := .pointer (some ⟨g, o + i * 9, none⟩)) (by go_simp) ?_
        refine wpList_value rfl (v := .pointer (some ⟨g, o + i * 9 + 1, none⟩)) (by go_simp) ?_
        refine wpList_load_agg rfl (.tmp 19) 44 rfl _ Try.underlying44 rfl (ys := xs) (by rw [Hxl.out]; kernel_rfl) (g := g) (off := o + i * 9 + 1) (by go_simp) hcs' ?_
        refine wpList_value rfl (v := .slice (some ⟨g2, o2, none⟩) m d) (by go_simp) ?_
        refine wpList_value rfl (v := .int .i64 i) (by go_simp) ?_
        refine wpList_value rfl (v := .pointer (some ⟨g2, o2 + i * 8, none⟩)) (by go_simp) ?_
        refine wpList_load_agg rfl (.tmp 23) 44 rfl _ Try.underlying44 rfl (ys := ys) (by rw [Hyl.out]; kernel_rfl) (g := g2) (off := o2 + i * 8) (by go_simp) hcs2 ?_
        go_wp2_with fail
        refine hsm'.mono ?_
        rintro e w8 ⟨rfl, h8⟩
        clear hsm' h1 hcs' hcs2
        by_cases hxy : x.2.1 = y.1
        · have hdc : decide (x.2.1 = y.1) = true := decide_eq_true hxy
          rw [hdc]
          go_wp2_with fail
          refine ⟨by kernel_rfl, ?_⟩
          go_wp2_with fail
          go_roundw
          case rel =>
            refine ⟨i + 1, by omega, by go_num, hide ?_, h8⟩
            rw [Hs1.out, Hs2.out, Htk.out, hxy]
          case measure => simp [intOf]; omega
        · have hdc : decide (x.2.1 = y.1) = false := decide_eq_false hxy
          rw [hdc]
          go_wp2_with fail
          refine ⟨by kernel_rfl, ?_⟩
          go_wp2_with fail
          go_ret
          rw [Hbad.out hxy]
          exact ⟨rfl, h8⟩
      · obtain rfl : i = n := by omega
        go_wp2_with fail
        go_ret
        refine ⟨?_, h1⟩
        have : R = true := by
          rw [← HR.out]
          refine decide_eq_true ⟨by omega, ?_⟩
          rw [Htk.out, List.take_of_length_le (by rw [List.length_map]; have := Hn.out; omega)]
        rw [this]
        rfl
end Go.Proofs.Ytgkibjjcdcpkfaa
