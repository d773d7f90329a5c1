/-
  LaneRuns' deeds that are read; light: a contract; slices of records cut. No statement.
-/
import Derived.Test.YtgkibjjcdcpkfaaLk
namespace Go.Proofs.Ytgkibjjcdcpkfaa
open Go Go.RowKit

/-- A deed: its kind, its number, its seed, its mask. -/
structure DdV where
  kind : Int
  num : Int
  sd : SdV
  mask : Nat
def DdV.cs (x : DdV) : List Value := .int .i64 x.kind :: .int .i64 x.num :: (x.sd.cs ++ [.int .u64 x.mask])
theorem DdV.cs_len (x : DdV) : x.cs.length = 11 := rfl
theorem DdV.one (x : DdV) : x.cs.toArray.all (·.oneCell') = true := by
  obtain ⟨k, n, ⟨⟨a1, a2, a3, a4, a5, a6, a7, a8⟩, q, c⟩, m⟩ := x
  simp only [DdV.cs, SdV.cs, Sd.cells, List.all_toArray, List.all_cons, List.all_nil, List.cons_append, List.nil_append]
  rfl
def DdV.In (w0 : World) (A : HP) (x : DdV) : Prop := x.sd.In w0 A ∧ x.mask < 18446744073709551616
def DdsIn (w0 : World) (A : HP) (a : Option Addr) (ss : List DdV) : Prop :=
  (ss = [] ∨ ∃ g o, a = some ⟨g, o, none⟩ ∧ ∀ w', At w0 A w' → ∀ j u, (ss.flatMap DdV.cs)[j]? = some u → w'.cell? ⟨g, o + j, none⟩ = some u) ∧ ∀ x ∈ ss, x.In w0 A
theorem DdsIn.at {w0 w : World} {A : HP} {a : Option Addr} {rs : List DdV} (h : DdsIn w0 A a rs) (hA : At w0 A w) {i : Nat} (hi : i < rs.length) : ∃ g o, a = some ⟨g, o, none⟩ ∧ ∀ j u, rs[i].cs[j]? = some u → w.cell? ⟨g, o + i * 11 + j, none⟩ = some u := by
  obtain ⟨g, o, e, hc⟩ := h.1.resolve_left (fun e => by subst e; simp at hi)
  refine ⟨g, o, e, fun j u hu => ?_⟩
  rw [Nat.add_assoc]
  refine hc w hA (i * 11 + j) u ?_
  have hj : j < 11 := by rw [← rs[i].cs_len]; exact (List.getElem?_eq_some_iff.1 hu).1
  rw [flat_at (fun y _ => y.cs_len) i j hi hj]
  exact hu
theorem Try.zeroDeed (w : World) : (zeroValue 72).run Try.prog w = .ok (.agg (List.toArray [.int .i64 0, .int .i64 0, .int .i64 0, .int .i64 0, .int .i64 0, .int .i64 0, .int .u8 0, .int .u8 0, .int .u8 0, .slice none 0 0, .int .u64 0])) w := by kernel_rfl
/-- Are deeds few? -/
def lightB (ds : List DdV) : Bool := decide (ds.length ≤ 60 ∧ ∀ x ∈ ds, x.sd.1.dirty.length ≤ 100)

set_option maxRecDepth 100000 in
set_option maxHeartbeats 4000000 in
theorem lawLight_any (W : World) (a : Option Addr) (c : Nat) (ds : List DdV) (hn : ds.length ≤ maxLen) (hA : DdsIn W (old W * 1) a ds) (w : World) (h : At W (old W * 1) w) :
    Calls Try.prog 31 #[.slice a ds.length c] w fun e w' => e = .returned (.bool (lightB ds)) ∧ At W (old W * 1) w' := by
  obtain ⟨R, hR⟩ : ∃ R, lightB ds = R := ⟨_, rfl⟩
  rw [hR]
  unfold lightB at hR
  obtain ⟨n, hnn⟩ : ∃ n, ds.length = n := ⟨_, rfl⟩
  rw [hnn] at hn hR ⊢
  unfold maxLen at hn
  have Hn := hide hnn
  have HA := hide hA
  have HR := hide hR
  clear hnn hA hR
  by_cases hb : 60 < n
  · have hbz : 60 < (n : Int) := by omega
    go_enter Try.func31, Try.ntmps31
    go_wp2_with fail
    go_ret
    refine ⟨?_, h⟩
    have : R = false := by
      rw [← HR.out]
      exact decide_eq_false fun hh => by omega
    rw [this]
    rfl
  · have hbz : ¬ 60 < (n : Int) := by omega
    go_enter Try.func31, Try.ntmps31
    go_wp2_with fail
    go_loopw [10] (fun u wr => ∃ i : Nat, i ≤ n ∧ u = .int .i64 i ∧ Hid (∀ x ∈ ds.take i, x.sd.1.dirty.length ≤ 100) ∧ At W (old W * 1) wr) (fun u _ => n - (intOf u).toNat)
    case atStart => exact ⟨0, Nat.zero_le _, rfl, hide (fun x hx => by simp at hx), h⟩
    case round =>
      obtain ⟨i, hin, rfl, Hs, h1⟩ := hrel
      clear h
      by_cases hil : i < n
      · obtain ⟨s, hs⟩ : ∃ s, ds[i]'(by have := Hn.out; omega) = s := ⟨_, rfl⟩
        obtain ⟨g, o, rfl, hcs⟩ := HA.out.at h1 (i := i) (by have := Hn.out; omega)
        rw [hs] at hcs
        obtain ⟨dl, hdl⟩ : ∃ dl, s.sd.1.dirty.length = dl := ⟨_, rfl⟩
        obtain ⟨B, hB⟩ : ∃ B, wr.heap.size = B := ⟨_, rfl⟩
        have h5 := h1.alloc' hB (.cells (List.toArray [.int .i64 0, .int .i64 0, .int .i64 0, .int .i64 0, .int .i64 0, .int .i64 0, .int .u8 0, .int .u8 0, .int .u8 0, .slice none 0 0, .int .u64 0]) 72)
        have hts : ds.take (i + 1) = ds.take i ++ [s] := by rw [List.take_succ_eq_append_getElem (by have := Hn.out; omega), hs]
        have hsm : s ∈ ds := by rw [← hs]; exact List.getElem_mem _
        have Hts := hide hts
        have Hsm := hide hsm
        have Hdl := hide hdl
        have hilz : (i : Int) < (n : Int) := by omega
        clear hs hdl hts hsm h1
        go_upto_region 5 with fail
        refine wp_region_lit ?_
        refine wpList_value rfl (v := .pointer (some ⟨g, o + i * 11, none⟩)) (by go_simp) ?_
        refine wpList_load_agg rfl (.tmp 12) 72 rfl _ Try.underlying72 rfl (ys := s.cs) (by rw [DdV.cs_len]; kernel_rfl) (g := g) (off := o + i * 11) (by go_simp) hcs ?_
        refine wpList_alloc_at rfl _ rfl (Try.zeroDeed wr) ?_
        try rw [hB]
        refine wpList_store_at rfl (.tmp 4) (.tmp 13) _ rfl (g := B) (c := List.toArray [.int .i64 0, .int .i64 0, .int .i64 0, .int .i64 0, .int .i64 0, .int .i64 0, .int .u8 0, .int .u8 0, .int .u8 0, .slice none 0 0, .int .u64 0]) (ys := s.cs) (by go_simp) (by go_simp) (by rw [DdV.cs_len]; kernel_rfl) rfl s.one h5 ?_
        intro w5 h6
        have c9 : w5.cell? ⟨B, 9, none⟩ = some (.slice s.sd.2.1 dl s.sd.2.2) := by
          rw [← Hdl.out]
          exact At.cell h6 rfl
        clear h5 hcs hB
        by_cases hdb : 100 < dl
        · have hdz : 100 < (dl : Int) := by omega
          go_wp2_with fail
          go_ret
          refine ⟨?_, h6.r⟩
          have : R = false := by
            rw [← HR.out]
            refine decide_eq_false fun hh => ?_
            have := hh.2 s Hsm.out
            rw [Hdl.out] at this
            omega
          rw [this]
          rfl
        · have hdz : ¬ 100 < (dl : Int) := by omega
          go_wp2_with fail
          go_roundw
          case rel =>
            refine ⟨i + 1, by omega, by go_num, hide fun y hy => ?_, h6.r⟩
            rw [Hts.out] at hy
            rcases List.mem_append.1 hy with h | h
            · exact Hs.out y h
            · rw [List.mem_singleton.1 h, Hdl.out]; omega
          case measure => simp [intOf]; omega
      · obtain rfl : i = n := by omega
        go_wp2_with fail
        go_ret
        refine ⟨?_, h1⟩
        have : R = true := by
          rw [← HR.out]
          refine decide_eq_true ⟨by omega, ?_⟩
          have := Hs.out
          rw [List.take_of_length_le (by have := Hn.out; omega)] at this
          exact this
        rw [this]
        rfl

/-! ### Slices of records that are read, cut -/
/-- A slice of records that is read: where it lies. -/
def AllIn (W : World) (F : HP) (a : Option Addr) (c : Nat) (rs : List RecV) : Prop :=
  RecsIn W F a rs ∧ GoodV rs ∧ rs.length ≤ c ∧ ((a = none ∧ rs = [] ∧ c = 0) ∨ ∃ g o, a = some ⟨g, o, none⟩)
theorem AllIn.mono {W : World} {F X : HP} {a : Option Addr} {c : Nat} {rs : List RecV} (h : AllIn W F a c rs) : AllIn W (X * F) a c rs := ⟨h.1.mono, h.2⟩
theorem RecsIn.take {W : World} {F : HP} {a : Option Addr} {rs : List RecV} (h : RecsIn W F a rs) (j : Nat) : RecsIn W F a (rs.take j) := by
  refine ⟨?_, fun x hx => h.2.1 x (List.mem_of_mem_take hx), fun x hx => h.2.2 x (List.mem_of_mem_take hx)⟩
  rcases h.1 with h1 | ⟨g, o, e, hc⟩
  · left; rw [h1]; exact List.take_nil
  · refine .inr ⟨g, o, e, fun w' h' t u hu => hc w' h' t u ?_⟩
    have hs : rs.flatMap RecV.cs = (rs.take j).flatMap RecV.cs ++ (rs.drop j).flatMap RecV.cs := by rw [← List.flatMap_append, List.take_append_drop]
    rw [hs, List.getElem?_append_left (List.getElem?_eq_some_iff.1 hu).1]
    exact hu
theorem RecsIn.drop {W : World} {F : HP} {g o : Nat} {rs : List RecV} (h : RecsIn W F (some ⟨g, o, none⟩) rs) (j : Nat) (hj : j ≤ rs.length) : RecsIn W F (some ⟨g, o + j * 8, none⟩) (rs.drop j) := by
  refine ⟨?_, fun x hx => h.2.1 x (List.mem_of_mem_drop hx), fun x hx => h.2.2 x (List.mem_of_mem_drop hx)⟩
  rcases h.1 with h1 | ⟨g2, o2, e, hc⟩
  · left; rw [h1]; exact List.drop_nil
  · simp only [Option.some.injEq, Addr.mk.injEq, and_true] at e
    obtain ⟨rfl, rfl⟩ := e
    refine .inr ⟨g, o + j * 8, rfl, fun w' h' t u hu => ?_⟩
    rw [Nat.add_assoc]
    refine hc w' h' (j * 8 + t) u ?_
    have hs : rs.flatMap RecV.cs = (rs.take j).flatMap RecV.cs ++ (rs.drop j).flatMap RecV.cs := by rw [← List.flatMap_append, List.take_append_drop]
    have hl : ((rs.take j).flatMap RecV.cs).length = j * 8 := by rw [recs_len, List.length_take, Nat.min_eq_left hj]
    rw [hs, List.getElem?_append_right (by omega), hl, show j * 8 + t - j * 8 = t by omega]
    exact hu
end Go.Proofs.Ytgkibjjcdcpkfaa
