/-
  page.Encode of a page without a mark: a contract, no statement.
  page.Encode of a page with a mark: a contract, no statement.
  Pages as values: the zero page, one that is built, loaded, stored. Laws; no statement.
-/
import Derived.Test.YtmlifjfgelfbbaaFF
import Derived.Test.YtmlifjfgelfbbaaDn
import Derived.Deep.CutBlock
import Derived.Test.YtmlifjfgelfbbaaBB
import Derived.Test.YtmlifjfgelfbbaaPn
import Derived.Deep.RegionHeld3
import Derived.Test.YtmlifjfgelfbbaaDD
/-! ## Pe -/
namespace Go.Proofs.Ytmlifjfgelfbbaa
open Go Go.RowKit

theorem zeros_flat : ∀ n : Nat, ((List.replicate n ()).flatMap fun _ => (#[Value.int .u8 0] : Array Value).toList) = bys (zs n)
  | 0 => rfl
  | n + 1 => by
    rw [List.replicate_succ, List.flatMap_cons, zeros_flat n]
    rfl
set_option maxRecDepth 100000 in
set_option maxHeartbeats 4000000 in
theorem pageEncode_zero (w0 w : World) (A : HP) (p : Pg) (hp : p.slots.length = 200) (h0 : p.mark = 0) (h : At w0 A w) :
    Calls Try.prog 57 #[.agg p.cells.toArray] w fun e w' => ∃ g, e = .returned (.slice (some ⟨g, 0, none⟩) 256 256) ∧ At w0 (row 5 1 (.slice (some ⟨g, 0, none⟩) 256 256) 256 (bys p.enc) * A) w' := by
  obtain ⟨i0, hi, hz0, hz1, hz2⟩ := info_parts Try.info8
  obtain ⟨B, hB⟩ : ∃ N, w.heap.size = N := ⟨_, rfl⟩
  have h1 := h.alloc' hB (.cells p.cells.toArray 41)
  have he : p.enc = zs 256 := if_pos h0
  rw [he]
  obtain ⟨cs, hcs⟩ : ∃ cs, p.cells = cs := ⟨_, rfl⟩
  have hm : cs[0]? = some (.int .u64 0) := by rw [← hcs, Pg.cells, h0]; rfl
  have hl : cs.length = 203 := by rw [← hcs, Pg.cells]; simp [bys_len, hp]
  rw [hcs] at h1 ⊢
  clear hcs
  go_enter Try.func57, Try.ntmps57
  go_upto_region 1 with fail
  try rw [hB]
  generalize hw1 : w.alloc _ = w1 at h1 ⊢
  clear hw1 hB h
  have c0 : w1.cell? ⟨B, 0, none⟩ = some (.int .u64 0) := At.cell h1 (by simpa using hm)
  go_upto_region 2 with fail
  refine wp_region_lit ?_
  refine wpList_make rfl 32 5 _ _ rfl i0 #[.int .u8 0] (.int .u8 0) 1 1 Try.underlying32 hi hz0 rfl hz1 rfl (by omega) hz2 .i64 .i64 256 rfl rfl (by decide) (by unfold maxLen; decide) (xs := bys (zs 256)) (zeros_flat 256) h1 ?_
  intro g w2 h2
  clear h1 c0
  go_wp2_with fail
  go_ret
  exact ⟨g, rfl, (h2.cast (show _ = row 5 1 (.slice (some ⟨g, 0, none⟩) 256 256) 256 (bys (zs 256)) * A * cel B cs.toArray 41 by unfold cel; ac_rfl)).l⟩
end Go.Proofs.Ytmlifjfgelfbbaa

/-! ## Ge -/
namespace Go.Proofs.Ytmlifjfgelfbbaa
open Go Go.RowKit

/-- The bytes of slot i, where they stand in a page's block. -/
theorem pg_rd {w0 w : World} {R : HP} {B : Nat} {p : Pg} (h : At w0 (pgB B p * R) w) (hp : p.slots.length = 200) (i : Nat) (hi : i < 5) :
    Rd w (.slice (some ⟨B, 3 + i * 40, none⟩) 40 40) (bys ((p.slots.drop (40 * i)).take 40)) := by
  have hl : (bys ((p.slots.drop (40 * i)).take 40)).length = 40 := by rw [bys_len, List.length_take, List.length_drop]; omega
  refine .inr ⟨B, 3 + i * 40, 40, by rw [hl], by omega, fun j u hu => ?_⟩
  rw [← bys_take, ← bys_drop, List.getElem?_take] at hu
  split at hu
  · rw [List.getElem?_drop] at hu
    refine At.cell h ?_
    have : (3 + i * 40 + j) = (40 * i + j) + 3 := by omega
    rw [this, List.getElem?_toArray]
    exact hu
  · cases hu
/-- A part of a slice that is read. -/
theorem Rd.mid {w : World} {g o m c : Nat} {l : List UInt8} (h : Rd w (.slice (some ⟨g, o, none⟩) m c) (bys l)) (k n : Nat) (hk : k + n ≤ m) : Rd w (.slice (some ⟨g, o + k, none⟩) n (c - k)) (bys ((l.drop k).take n)) := by
  obtain ⟨h1, h2⟩ := h.len
  rw [bys_len] at h1
  rcases h with ⟨hv, _⟩ | ⟨g', o', c', hv, hc, hx⟩
  · cases hv
  · cases hv
    have hl : (bys ((l.drop k).take n)).length = n := by rw [bys_len, List.length_take, List.length_drop]; omega
    refine .inr ⟨g, o + k, c - k, by rw [hl], by omega, fun j u hu => ?_⟩
    rw [← bys_take, ← bys_drop, List.getElem?_take] at hu
    split at hu
    · rw [List.getElem?_drop] at hu
      rw [Nat.add_assoc]
      exact hx _ _ hu
    · cases hu
def pgSecs (p : Pg) : Nat → List UInt8
  | 0 => []
  | i + 1 => pgSecs p i ++ p.sec i
theorem pgSecs_len {p : Pg} (h : p.Wf) : ∀ i, i ≤ 4 → (pgSecs p i).length = 64 * i
  | 0, _ => rfl
  | i + 1, hi => by
    rw [pgSecs, List.length_append, pgSecs_len h i (by omega), p.sec_len h (by omega)]
    omega
theorem pgSecs_enc {p : Pg} (h0 : p.mark ≠ 0) : pgSecs p 4 = p.enc := by
  unfold Pg.enc
  rw [if_neg h0]
  simp [pgSecs]
set_option maxRecDepth 100000 in
set_option maxHeartbeats 4000000 in
theorem pageEncode_mark (w0 w : World) (A : HP) (p : Pg) (hp : p.Wf) (h0 : p.mark ≠ 0) (h : At w0 A w) :
    Calls Try.prog 57 #[.agg p.cells.toArray] w fun e w' => ∃ a c, e = .returned (.slice a 256 c) ∧ At w0 (row 5 1 (.slice a 256 c) 256 (bys p.enc) * A) w' := by
  obtain ⟨i0, hi, hz0, hz1, hz2⟩ := info_parts Try.info8
  obtain ⟨B, hB⟩ : ∃ N, w.heap.size = N := ⟨_, rfl⟩
  have h1 : At w0 (pgB B p * A) (w.alloc (.cells p.cells.toArray 41)) := h.alloc' hB (.cells p.cells.toArray 41)
  have hsl := hp.slots
  have hmk := hp.mark
  have htn := hp.tenant
  have hnm := hp.number
  obtain ⟨cs, hcs⟩ : ∃ cs, p.cells = cs := ⟨_, rfl⟩
  rw [hcs] at h1 ⊢
  clear h
  go_enter Try.func57, Try.ntmps57
  go_upto_region 1 with fail
  try rw [hB]
  generalize hw1 : w.alloc _ = w1 at h1 ⊢
  clear hw1 hB hcs
  have Hp := hide hp
  have H0 := hide h0
  clear hp h0
  obtain ⟨mk, hmkz⟩ : ∃ mk, p.mark = mk := ⟨_, rfl⟩
  obtain ⟨tn, htnz⟩ : ∃ mk, p.tenant = mk := ⟨_, rfl⟩
  obtain ⟨nm, hnmz⟩ : ∃ mk, p.number = mk := ⟨_, rfl⟩
  have c0 : w1.cell? ⟨B, 0, none⟩ = some (.int .u64 mk) := by rw [← hmkz]; exact At.cell h1 rfl
  have c1 : w1.cell? ⟨B, 1, none⟩ = some (.int .i64 tn) := by rw [← htnz]; exact At.cell h1 rfl
  have c2 : w1.cell? ⟨B, 2, none⟩ = some (.int .i64 nm) := by rw [← hnmz]; exact At.cell h1 rfl
  have m0 : ¬ (mk : Int) = 0 := by have := H0.out; omega
  rw [hmkz] at hmk
  rw [htnz] at htn
  rw [hnmz] at hnm
  have wt := wrap_u64 (x := (tn : Int)) (by omega) (by omega)
  have wn := wrap_u64 (x := (nm : Int)) (by omega) (by omega)
  obtain ⟨o1, ho1⟩ : ∃ o, o = ([] : List UInt8) ++ be 2 tn := ⟨_, rfl⟩
  obtain ⟨o2, ho2⟩ : ∃ o, o = o1 ++ be 2 nm := ⟨_, rfl⟩
  have l1 : o1.length = 2 := by rw [ho1, List.length_append, be_len]; rfl
  have l2 : o2.length = 4 := by rw [ho2, List.length_append, l1, be_len]
  have t1 := packPut_m w0 w1.drew _ (.slice none 0 0) [] 2 tn 2 o1 rfl ho1 (by decide) (by omega) (by decide) h1.drew (Rd.nil _)
  change Calls _ _ #[_, .int .i64 2, _] _ _ at t1
  have H1 := hide ho1
  have H2 := hide ho2
  have L1 := hide l1
  have L2 := hide l2
  have Hm := hide hmkz
  have Ht := hide htnz
  have Hn := hide hnmz
  clear ho1 ho2 l1 l2 hmkz htnz hnmz
  go_upto_region 3 with fail
  go_region_held3 (fun w' => w'.cell? ⟨B, 1, none⟩ = some (.int .i64 tn) ∧ w'.cell? ⟨B, 2, none⟩ = some (.int .i64 nm)) (first | exact ⟨c1, c2⟩ | exact ⟨by rw [← Ht.out]; exact At.cell h2.pull2 rfl, by rw [← Hn.out]; exact At.cell h2.pull2 rfl⟩ | exact ⟨by rw [← Ht.out]; exact At.cell h3.pull3 rfl, by rw [← Hn.out]; exact At.cell h3.pull3 rfl⟩) (first | ((with_reducible refine t1.mono ?_); rintro e w2 ⟨a2, c2', rfl, h2⟩) | (have t2 := packPut_m w0 _ _ _ o1 2 nm 4 o2 (by rw [L1.out]) H2.out (by decide) (by omega) (by rw [L1.out]; decide) h2 h2.rd; change Calls _ _ #[_, .int .i64 2, _] _ _ at t2; (with_reducible refine t2.mono ?_); rintro e w3 ⟨a3, c3, rfl, h3⟩))
  have h4 := (h3.cast (show _ = row 5 1 (.slice a3 4 c3) 4 (bys o2) * (pgB B p * A) * row 5 1 (.slice a2 2 c2') 2 (bys o1) by ac_rfl)).l
  rename_i t2 hheld
  clear t1 t2 hheld h1 h2 h3 c0 c1 c2 wt wn
  go_wp2_with fail
  go_loopw [3, 19] (fun u3 u19 wr => ∃ (i : Nat) (ar : Option Addr) (cp : Nat), i ≤ 5 ∧ u19 = .int .i64 i ∧ u3 = .slice ar (4 + 40 * i) cp ∧ At w0 (row 5 1 (.slice ar (4 + 40 * i) cp) (4 + 40 * i) (bys (o2 ++ p.slots.take (40 * i))) * (pgB B p * A)) wr) (fun _ u _ => 5 - (intOf u).toNat)
  case atStart => exact ⟨0, a3, c3, Nat.zero_le _, rfl, rfl, by simpa using h4⟩
  case round =>
    obtain ⟨i, ar, cp, hile, rfl, rfl, h5⟩ := hrel
    clear h4
    have hol : (bys (o2 ++ p.slots.take (40 * i))).length = 4 + 40 * i := by rw [bys_len, List.length_append, L2.out, List.length_take]; omega
    by_cases hil : i < 5
    · have hilz : (i : Int) < 5 := by omega
      have hrd := pg_rd h5.pull2 hsl i hil
      have hyl : ((p.slots.drop (40 * i)).take 40).length = 40 := by rw [List.length_take, List.length_drop]; omega
      have hnx : p.slots.take (40 * (i + 1)) = p.slots.take (40 * i) ++ (p.slots.drop (40 * i)).take 40 := by
        rw [show 40 * (i + 1) = 40 * i + 40 by omega, List.take_add]
      have Hnx := hide hnx
      clear hnx hol
      obtain ⟨ys, hys⟩ : ∃ ys, (p.slots.drop (40 * i)).take 40 = ys := ⟨_, rfl⟩
      rw [hys] at hyl hrd
      have Hys := hide hys
      clear hys
      have hbl : (bys ys).length = 40 := by rw [bys_len]; exact hyl
      go_wp2_with (at_builtin; go_loud (refine wpList_append_rdm rfl _ _ 32 rfl 5 i0 _ 1 Try.underlying32 hi hz0 hz1 hz2 rfl rfl rfl h5 hrd (bys_one _) (by unfold maxLen; rw [hbl]; omega) (by rw [hbl]; omega) (4 + 40 * (i + 1)) (bys (o2 ++ p.slots.take (40 * (i + 1)))) (by rw [hbl]; omega) (by rw [Hnx.out, Hys.out, bys_append, bys_append, bys_append, List.append_assoc]) ?_))
      intro a6 c6 w6 h6
      clear h5 hrd
      go_wp2_with fail
      go_roundw
      case rel => exact ⟨i + 1, a6, c6, by omega, by go_num, rfl, h6⟩
      case measure => simp [intOf] <;> omega
    · obtain rfl : i = 5 := by omega
      obtain ⟨n4, hn4⟩ : ∃ n : Nat, 4 + 40 * 5 = n := ⟨_, rfl⟩
      obtain ⟨o3, ho3⟩ : ∃ o, o2 ++ p.slots.take (40 * 5) = o := ⟨_, rfl⟩
      rw [hn4, ho3] at h5
      rw [hn4]
      have l3 : o3.length = n4 := by rw [← ho3, ← bys_len, hol, hn4]
      have H3 := hide ho3
      have L3 := hide l3
      clear hol ho3 l3 hil hile
      obtain ⟨z, hzz⟩ : ∃ z, 224 - n4 = z := ⟨_, rfl⟩
      have e2 : (224 : Int) - (n4 : Int) = (z : Int) := by omega
      have g2 := IntWalk.i64_in (z : Int) (by omega)
      have n5 : n4 + z = 224 := by omega
      go_wp2_with (at_builtin; go_loud (refine wpList_append_zeros rfl (.tmp 29) (.tmp 32) 32 3 rfl 5 i0 .i64 .i64 Try.underlying32 Try.underlying3 hi hz0 hz1 hz2 (bs := o3) (k := z) rfl h5 rfl (by omega) ?_))
      intro a7 c7 w7 h7
      try rw [n5] at h7 ⊢
      have hbo : o3 ++ List.replicate z (0 : UInt8) = p.body := by
        rw [← H3.out, H2.out, H1.out, Pg.body, ← hzz, ← hn4, Ht.out, Hn.out]
        have : p.slots.take (40 * 5) = p.slots := List.take_of_length_le (by rw [hsl]; decide)
        rw [this]
        simp [zs]
      rw [hbo] at h7
      have hbl := p.body_len Hp.out
      clear h5 e2 g2 hbo
      obtain ⟨g, cq, q1, hle1, -⟩ := h7.row_ptr (by omega)
      cases q1
      go_wp2_with fail
      go_loopw [5, 34] (fun u5 u34 wr => ∃ (i : Nat) (ar : Option Addr) (cp : Nat), i ≤ 4 ∧ u34 = .int .i64 i ∧ u5 = .slice ar (64 * i) cp ∧ At w0 (row 5 1 (.slice ar (64 * i) cp) (64 * i) (bys (pgSecs p i)) * (row 5 1 (.slice (some ⟨g, 0, none⟩) 224 c7) 224 (bys p.body) * (pgB B p * A))) wr) (fun _ u _ => 4 - (intOf u).toNat)
      case atStart => exact ⟨0, none, 0, Nat.zero_le _, rfl, rfl, h7.row_nil _ _⟩
      case round =>
        obtain ⟨i, ar, cp, hile, rfl, rfl, h8⟩ := hrel
        clear h7
        by_cases hil : i < 4
        · have hilz : (i : Int) < 4 := by omega
          obtain ⟨s, hs⟩ : ∃ s, i * 56 = s := ⟨_, rfl⟩
          obtain ⟨s2, hs2⟩ : ∃ y, s + 56 = y := ⟨_, rfl⟩
          have e1 : (i : Int) * 56 = (s : Int) := by omega
          have e2 : ((i : Int) + 1) * 56 = (s2 : Int) := by omega
          have g1 := IntWalk.i64_in (s : Int) (by omega)
          have g2 := IntWalk.i64_in (s2 : Int) (by omega)
          have g3 := IntWalk.i64_in ((i : Int) + 1) (by omega)
          have c0 : wr.cell? ⟨B, 0, none⟩ = some (.int .u64 mk) := by rw [← Hm.out]; exact At.cell h8.pull3 rfl
          obtain ⟨o4, ho4⟩ : ∃ o, o = pgSecs p i ++ be 8 mk := ⟨_, rfl⟩
          have t4 := packPut_m w0 wr.drew _ (.slice ar (64 * i) cp) (pgSecs p i) 8 mk (64 * i + 8) o4 (by rw [pgSecs_len Hp.out i hile]) ho4 (by decide) hmk (by rw [pgSecs_len Hp.out i hile]; omega) h8.drew h8.drew.rd
          change Calls _ _ #[_, .int .i64 8, _] _ _ at t4
          have H4 := hide ho4
          clear ho4
          go_upto_region 14 with fail
          refine wp_region_line [0, 1, 2, 4, 5, 6, 7, 8, 9, 10, 3, 11, 12] rfl (by kernel_rfl) ?_
          simp only [picks_cons, picks_nil, getD_zero, getD_succ]
          go_wp2_with fail
          refine t4.mono ?_
          rintro e w9 ⟨a9, c9, rfl, h9⟩
          have h10 := (h9.cast (show _ = row 5 1 (.slice a9 (64 * i + 8) c9) (64 * i + 8) (bys o4) * (row 5 1 (.slice (some ⟨g, 0, none⟩) 224 c7) 224 (bys p.body) * (pgB B p * A)) * row 5 1 (.slice ar (64 * i) cp) (64 * i) (bys (pgSecs p i)) by ac_rfl)).l
          clear t4 h8 h9 c0
          have hrd := (h10.pull2.rd (v := .slice (some ⟨g, 0, none⟩) 224 c7)).mid s 56 (by omega)
          rw [Nat.zero_add] at hrd
          have hq : s2 - s = 56 := by omega
          obtain ⟨ys, hys⟩ : ∃ ys, (p.body.drop s).take 56 = ys := ⟨_, rfl⟩
          rw [hys] at hrd
          have hyl : (bys ys).length = 56 := by rw [bys_len, ← hys, List.length_take, List.length_drop]; omega
          have Hys := hide hys
          have Hs := hide hs
          clear hys e1 e2 g1 g2 g3
          go_wp2_with (at_builtin; go_loud (refine wpList_append_rdm rfl _ _ 32 rfl 5 i0 _ 1 Try.underlying32 hi hz0 hz1 hz2 rfl rfl rfl h10 hrd (bys_one _) (by unfold maxLen; rw [hyl]; omega) (by rw [hyl]; omega) (64 * (i + 1)) (bys (pgSecs p (i + 1))) (by rw [hyl]; omega) (by rw [pgSecs, Pg.sec, H4.out, Hm.out, Hs.out, Hys.out]; simp [bys_append]) ?_))
          intro a11 c11 w11 h11
          clear h10 hrd
          go_wp2_with fail
          refine ⟨by kernel_rfl, ?_⟩
          go_wp2_with fail
          go_roundw
          case rel => exact ⟨i + 1, a11, c11, by omega, by go_num, rfl, h11⟩
          case measure => simp [intOf] <;> omega
        · obtain rfl : i = 4 := by omega
          go_wp2_with fail
          go_ret
          refine ⟨ar, cp, rfl, ?_⟩
          rw [pgSecs_enc H0.out] at h8
          exact (h8.cast (show _ = row 5 1 (.slice ar (64 * 4) cp) (64 * 4) (bys p.enc) * A * (row 5 1 (.slice (some ⟨g, 0, none⟩) 224 c7) 224 (bys p.body) * pgB B p) by ac_rfl)).l
theorem pageEncode_any (w0 w : World) (A : HP) (p : Pg) (hp : p.Wf) (h : At w0 A w) :
    Calls Try.prog 57 #[.agg p.cells.toArray] w fun e w' => ∃ a c, e = .returned (.slice a 256 c) ∧ At w0 (row 5 1 (.slice a 256 c) 256 (bys p.enc) * A) w' := by
  by_cases h0 : p.mark = 0
  · refine (pageEncode_zero w0 w A p hp.slots h0 h).mono ?_
    rintro e w' ⟨g, he, h'⟩
    exact ⟨_, _, he, h'⟩
  · exact pageEncode_mark w0 w A p hp h0 h
end Go.Proofs.Ytmlifjfgelfbbaa

/-! ## Gq -/
namespace Go.Proofs.Ytmlifjfgelfbbaa
open Go Go.RowKit

def pg0 : Pg := ⟨0, 0, 0, zs 200⟩
theorem Try.zeroPage (w : World) : (zeroValue 41).run Try.prog w = .ok (.agg pg0.cells.toArray) w := by kernel_rfl
theorem Try.build0Page (w : World) : (Instr.build 41 #[]).run Try.prog w = .ok (.agg pg0.cells.toArray) w := by kernel_rfl
theorem Try.build2Page (t n : Int) (w : World) : (Instr.build 41 #[(1, .int .i64 t), (2, .int .i64 n)]).run Try.prog w = .ok (.agg (.int .u64 0 :: .int .i64 t :: .int .i64 n :: bys (zs 200)).toArray) w := by kernel_rfl
theorem Try.sizePage : (Try.prog.info? 41).map (·.size) = some 203 := by kernel_rfl
theorem pg_len {p : Pg} (h : p.slots.length = 200) : p.cells.length = 203 := by simp [Pg.cells, bys_len, h]
theorem pg_one (p : Pg) : p.cells.toArray.all (·.oneCell') = true := by
  simp only [List.all_toArray, List.all_eq_true]
  intro u hu
  unfold Pg.cells at hu
  rcases List.mem_cons.1 hu with rfl | hu
  · rfl
  rcases List.mem_cons.1 hu with rfl | hu
  · rfl
  rcases List.mem_cons.1 hu with rfl | hu
  · rfl
  · exact bys_one _ u hu

section
variable {P : Program} {ops : Array Oper} {o : Oper} {a : Act} {K : Act → World → Prop} {Q : Exit → Act → World → Prop} {w : World} {rest : List Oper}
theorem wpList_build2_at (hg : o.guard = none) (t : TypeId) (i j : Nat) (x y : Operand) (ho : o.op = .build t #[(i, x), (j, y)]) {v v2 u : Value} (hx : a.eval x = v) (hy : a.eval y = v2) (hr : (Instr.build t #[(i, v), (j, v2)]).run P w = .ok u w)
    (h : wpList P ops Q rest (a.put o.dst u) w) : wpList P ops Q (o :: rest) a w := by
  refine wpList_plain hg fun K hK => ?_
  unfold Oper.wp execOp
  simp only [ho, List.map_toArray, List.map_cons, List.map_nil, hx, hy, Sem.run_bind, hr, Result.andThen_ok]
  exact hK _ _ h
theorem wpList_build0_at (hg : o.guard = none) (t : TypeId) (ho : o.op = .build t #[]) {u : Value} (hr : (Instr.build t #[]).run P w = .ok u w)
    (h : wpList P ops Q rest (a.put o.dst u) w) : wpList P ops Q (o :: rest) a w := by
  refine wpList_plain hg fun K hK => ?_
  unfold Oper.wp execOp
  simp only [ho, List.map_toArray, List.map_nil, Sem.run_bind, hr, Result.andThen_ok]
  exact hK _ _ h
end
theorem results_cell_tmp {P : Program} {fn : Func} {tmps : Array Value} {w : World} {a k : Nat} {t : TypeId} {X : Addr} {v u : Value} (hr : fn.results = #[.cell a t, .tmp k]) (ha : tmps.getD a undef = .pointer (some X)) (hk : tmps.getD k undef = u)
    (hl : (loadVar t X).run P w = .ok v w) : (results fn tmps).run P w = .ok (.tuple #[v, u]) w := by
  rw [Array.getD_eq_getD_getElem?] at ha hk
  simp [results, hr, ha, hk, hl, asAddr]
/-- A page is stored. -/
theorem Try.wpList_storePg {w0 w : World} {R : HP} {ops : Array Oper} {o : Oper} {a : Act} {Q : Exit → Act → World → Prop} {rest : List Oper} (hg : o.guard = none) (p x : Operand) (ho : o.op = .store 41 p x) {g : Nat} {q q' : Pg}
    (hq : q.slots.length = 200) (hq' : q'.slots.length = 200) (hp : a.eval p = .pointer (some ⟨g, 0, none⟩)) (hx : a.eval x = .agg q'.cells.toArray) (h : At w0 (pgB g q * R) w)
    (hK : ∀ w', At w0 (pgB g q' * R) w' → wpList Try.prog ops Q rest (a.put o.dst undef) w') : wpList Try.prog ops Q (o :: rest) a w :=
  wpList_store_at hg p x _ ho hp hx (by rw [Try.sizePage, pg_len hq']) (by rw [List.size_toArray, pg_len hq, pg_len hq']) (pg_one q') h hK
/-- A page's cells, loaded. -/
theorem Try.loadPg {w0 w : World} {R : HP} {g : Nat} {q : Pg} (hq : q.slots.length = 200) (h : At w0 (pgB g q * R) w) : (loadVar 41 ⟨g, 0, none⟩).run Try.prog w = .ok (.agg q.cells.toArray) w :=
  run_loadVar_row w g 41 41 q.cells.toArray (0, 0) _ (At.blk (o := .cells q.cells.toArray 41) h) Try.underlying41 rfl (by rw [Try.sizePage, List.size_toArray, pg_len hq])
end Go.Proofs.Ytmlifjfgelfbbaa
