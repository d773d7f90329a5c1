/-
  The package lane: Open: what it comes to: a contract, no statement.
-/
import Derived.Test.YtmlifjfgelfbbaaLs
import Derived.Test.YtmlifjfgelfbbaaRR
namespace Go.Proofs.Ytmlifjfgelfbbaa
open Go Go.RowKit

theorem decP_len {bs : List UInt8} {x : Rec} {n : Nat} (h : decP bs = some (x, n)) : 2 ≤ n ∧ n ≤ bs.length ∧ x.right = true := by
  unfold decP at h
  simp only at h
  split at h
  · cases h
  · rename_i hb
    split at h
    · rename_i hr
      simp only [Bool.and_eq_true] at hr
      simp only [Option.some.injEq, Prod.mk.injEq] at h
      obtain ⟨rfl, rfl⟩ := h
      refine ⟨by omega, ?_, hr.2⟩
      have h2 : (Rs.mk bs false).fails 2 = false := by
        cases hf : (Rs.mk bs false).fails 2 with
        | false => rfl
        | true =>
          exfalso
          apply hb
          rw [Rs.take_fails hf]
          unfold Rs.take Rs.fails
          simp
      have e2 := (Rs.take_ok h2)
      obtain ⟨e, hle, _⟩ := e2
      rw [e] at hb ⊢
      cases hf : (Rs.mk (bs.drop 2) false).fails (num (bs.take 2)) with
      | true =>
        exfalso
        apply hb
        show ((Rs.mk (bs.drop 2) false).take (num (bs.take 2))).2.bad = true
        rw [Rs.take_fails hf]
      | false =>
        have := (Rs.take_ok hf).2.1
        simp only [List.length_drop] at this
        show 2 + num (bs.take 2) ≤ bs.length
        have h3 : 2 ≤ bs.length := hle
        omega
    · cases h

/-- The records that bytes hold from a place on, their places, and how far they go. -/
def opn (gen : Nat) (all : List UInt8) : Nat → Nat → List (Nat × Rec) × Nat
  | 0, pos => ([], pos)
  | k + 1, pos => match decP (all.drop pos) with
    | some (y, n) => ((gen * 1048576 + pos + 1, y) :: (opn gen all k (pos + n)).1, (opn gen all k (pos + n)).2)
    | none => ([], pos)
theorem opn_none {gen k pos : Nat} {all : List UInt8} (h : decP (all.drop pos) = none) : opn gen all (k + 1) pos = ([], pos) := by rw [opn, h]
theorem opn_some {gen k pos n : Nat} {all : List UInt8} {y : Rec} (h : decP (all.drop pos) = some (y, n)) : opn gen all (k + 1) pos = ((gen * 1048576 + pos + 1, y) :: (opn gen all k (pos + n)).1, (opn gen all k (pos + n)).2) := by rw [opn, h]

/-- An entry, and where its record's numbers are. -/
abbrev EntV := Nat × RecV
def EntV.cs (x : EntV) : List Value := .int .u64 x.1 :: RecV.cs x.2
def EntV.er (x : EntV) : Nat × Rec := (x.1, x.2.1)
def dirts : List EntV → HP
  | [] => 1
  | x :: l => row 37 1 (.slice x.2.2.1 x.2.1.dirty.length x.2.2.2) x.2.1.dirty.length (nus x.2.1.dirty) * dirts l
theorem dirts_snoc (x : EntV) : ∀ l : List EntV, dirts (l ++ [x]) = row 37 1 (.slice x.2.2.1 x.2.1.dirty.length x.2.2.2) x.2.1.dirty.length (nus x.2.1.dirty) * dirts l
  | [] => rfl
  | y :: l => by
    show row _ _ _ _ _ * dirts (l ++ [x]) = row _ _ _ _ _ * (row _ _ _ _ _ * dirts l)
    rw [dirts_snoc x l, HP.mul_left_comm]
/-- What Open finds, and what it leaves. -/
def Dk.opens (m : Dk) (r : Nat) : Nat × Option (Ln × List (Nat × Rec)) × Dk :=
  let gen := num ((m.sec r 1).take 4)
  let bank := num (((m.sec r 1).drop 4).take 1) % 2
  if gen = 0 then (5, none, m) else
  let all := strm m r (fst bank) gen 256 0
  let q := opn gen all (all.length + 1) 0
  let P1 := m.wipe r (fst bank + nsec q.2) (fst bank + 256)
  if P1.1 ≠ 0 then (P1.1, none, P1.2) else
  let P2 := if q.2 < all.length ∧ 0 < q.2 % 56 then P1.2.lay r bank gen (all.take q.2) q.2 else (0, P1.2)
  if P2.1 ≠ 0 then (P2.1, none, P2.2) else (0, some (⟨gen, bank, all.take q.2, q.2⟩, q.1), P2.2)
def opnPost (w0 : World) (R : HP) (d r : Nat) : Nat × Option (Ln × List (Nat × Rec)) × Dk → Ending → World → Prop
  | (k, none, m), e, w' => e = .returned (.tuple #[.pointer none, .slice none 0 0, .int .i64 k]) ∧ At w0 (dsk d m * R) w'
  | (k, some (L, l), m), e, w' => ∃ P es a c, e = .returned (.tuple #[.pointer (some ⟨P, 0, none⟩), .slice a l.length c, .int .i64 k]) ∧ es.map EntV.er = l ∧
      At w0 (lan P d r L * (row 123 9 (.slice a l.length c) l.length (es.flatMap EntV.cs) * (dirts es * (dsk d m * R)))) w'
theorem strm_len (m : Dk) (r f gen : Nat) : ∀ n s, (strm m r f gen n s).length ≤ n * 56
  | 0, s => Nat.zero_le _
  | n + 1, s => by
    rw [strm_succ m r f gen n s rfl]
    have := strm_len m r f gen n (s + 1)
    split
    · rw [List.length_append, List.length_take]
      split
      · simp only [List.length_nil]; omega
      · omega
    · simp
theorem lanePlace_cel (w0 w : World) (R : HP) (p d r : Nat) (L : Ln) (vb : Value) (k : Nat) (hk : k ≤ 1000000) (hg : L.gen < 4294967296) (h : At w0 (cel p (L.cells d r vb) 84 * R) w) :
    Calls Try.prog 40 #[.pointer (some ⟨p, 0, none⟩), .int .i64 k] w fun e w' => e = .returned (.int .u64 (L.gen * 1048576 + k + 1 : Nat)) ∧ w = w' := by
  have c2 : w.cell? ⟨p, 2, none⟩ = some (.int .u64 L.gen) := At.cell h rfl
  clear h
  generalize L.gen = g at *
  have hs := shl20 g hg
  have h1 := wrap_u64 (x := (k : Int)) (by omega) (by omega)
  have h2 := wrap_u64 (x := ((g * 1048576 : Nat) : Int) + (k : Int)) (by omega) (by omega)
  have h3 := wrap_u64 (x := ((g * 1048576 : Nat) : Int) + (k : Int) + 1) (by omega) (by omega)
  go_enter Try.func40, Try.ntmps40
  go_wp2_with fail
  go_ret
  exact ⟨by simp, rfl⟩
theorem Try.infoEn : (Try.prog.info? 123).map (fun i => (i.zero.map (·.cells.size), i.size, i.bytes)) = some (some 9, 9, 112) := by kernel_rfl
theorem Rd.recap {w : World} {a : Option Addr} {n c c' : Nat} {xs : List Value} (h : Rd w (.slice a n c) xs) (hn : 0 < n) (hc : n ≤ c') : Rd w (.slice a n c') xs := by
  rcases h with ⟨hv, rfl⟩ | ⟨g, o, c2, hv, hc2, hx⟩
  · simp only [Value.slice.injEq] at hv
    omega
  · simp only [Value.slice.injEq] at hv
    obtain ⟨rfl, rfl, rfl⟩ := hv
    exact .inr ⟨g, o, c', rfl, hc, hx⟩
/-- The beginning of a row, its room cut off. -/
theorem At.row_trunc {w0 w : World} {R : HP} {aa ab : Option Addr} {ca cb N pos : Nat} {all : List UInt8} {e : TypeId} (h : At w0 (row e 1 (.slice aa N ca) N (bys all) * R) w) (hN : all.length = N) (hp : pos ≤ N) (hc : (pos = 0 ∧ ab = none ∧ cb = 0) ∨ (0 < pos ∧ ab = aa ∧ cb = pos)) :
    At w0 (row e 1 (.slice ab pos cb) (all.take pos).length (bys (all.take pos)) * R) w := by
  have hl : (all.take pos).length = pos := by rw [List.length_take]; omega
  rw [hl]
  rcases hc with ⟨rfl, rfl, rfl⟩ | ⟨h0, rfl, rfl⟩
  · rw [List.take_zero]
    exact h.r.row_nil e 1
  · obtain ⟨h1, h2⟩ := h.row_cases
    rcases h2 with ⟨_, hz, _⟩ | ⟨g, cap, cur, hv, h3, h4, h5, h6, h7⟩
    · omega
    · simp only [Value.slice.injEq] at hv
      obtain ⟨rfl, _, rfl⟩ := hv
      refine At.mkrow h7 (Nat.le_refl _) (by omega) (by omega) ?_
      rw [← bys_take, ← h6, List.take_take]
      congr 1
      omega
def lenOf : Value → Nat
  | .slice _ n _ => n
  | _ => 0

set_option maxRecDepth 100000 in
set_option maxHeartbeats 8000000 in
theorem laneOpen_any (w0 w : World) (R : HP) (d r : Nat) (m : Dk) (hr : r < m.regs.length) (hsz : 514 ≤ m.size) (hwn : m.writes ≤ 800000000) (h : At w0 (dsk d m * R) w) :
    Calls Try.prog 25 #[.pointer (some ⟨d, 0, none⟩), .int .i64 r] w (opnPost w0 R d r (m.opens r)) := by
  obtain ⟨i0, hi, hz0, hz1, hz2⟩ := info_parts Try.info8
  obtain ⟨i2, z2, hi2, hy0, hy1, hy2, hy3⟩ := info_wr Try.infoEn
  obtain ⟨D, hD⟩ : ∃ D, m.opens r = D := ⟨_, rfl⟩
  rw [hD]
  unfold Dk.opens at hD
  simp only at hD
  have hrd := diskRead_in w0 w R d m r 1 hr (by omega) (by omega) h
  change Calls _ _ #[_, _, .int .i64 1] _ _ at hrd
  have hxl := Dk.sec_len h.dsk_open.1 hr (show 1 < m.size by omega)
  obtain ⟨x, hx⟩ : ∃ x, m.sec r 1 = x := ⟨_, rfl⟩
  rw [hx] at hrd hxl hD
  have Hr := hide hr
  have Hsz := hide hsz
  have Hw := hide hwn
  have Hi := hide hi
  have Hi2 := hide hi2
  have Hxl := hide hxl
  obtain ⟨gen, hgen⟩ : ∃ gen, num (x.take 4) = gen := ⟨_, rfl⟩
  obtain ⟨k, hk⟩ : ∃ k, num ((x.drop 4).take 1) = k := ⟨_, rfl⟩
  have hgl : gen < 4294967296 := by
    rw [← hgen]
    exact Nat.lt_of_lt_of_le (num_lt _) (Nat.le_trans (Nat.pow_le_pow_right (by decide) (show (x.take 4).length ≤ 4 by rw [List.length_take]; omega)) (by decide))
  have hkl : k < 256 := by
    rw [← hk]
    exact Nat.lt_of_lt_of_le (num_lt _) (Nat.le_trans (Nat.pow_le_pow_right (by decide) (show ((x.drop 4).take 1).length ≤ 1 by rw [List.length_take]; omega)) (by decide))
  rw [hgen, hk] at hD
  obtain ⟨bank, hbank⟩ : ∃ bank, k % 2 = bank := ⟨_, rfl⟩
  have hbl : bank ≤ 1 := by omega
  rw [hbank] at hD
  have Hgl := hide hgl
  have HD := hide hD
  clear hi hi2 hr hsz hwn hgl h hx hxl hD
  go_enter Try.func25, Try.ntmps25
  go_wp2_with fail
  refine hrd.mono ?_
  rintro e w1 ⟨a1, c1, rfl, h1⟩
  have hn := packNew_any w0 w1 _ (.slice a1 64 c1) h1 ⟨_, _, _, rfl⟩
  clear hrd
  go_wp2_with fail
  refine hn.mono ?_
  rintro e w2 ⟨B, rfl, h2⟩
  have h3 := h2.cast (show _ = rdr B a1 c1 ⟨x, false⟩ * (1 * (row 5 1 (.slice a1 64 c1) 64 (bys x) * (dsk d m * R))) by unfold rdr; simp only [Hxl.out, HP.one_mul])
  have hnum := packNum_any w0 w2 _ 1 B a1 c1 4 ⟨x, false⟩ (by decide) (by decide) (by show x.length ≤ _; have := Hxl.out; omega) (fun w' h' => by show Rd w' (.slice a1 x.length c1) (bys x); rw [Hxl.out]; exact h'.rd) h3
  rw [show (⟨x, false⟩ : Rs).take 4 = (x.take 4, ⟨x.drop 4, false⟩) by
    unfold Rs.take Rs.fails
    rw [if_neg]
    have := Hxl.out
    simp
    omega] at hnum
  simp only [lit4] at hnum
  rw [hgen] at hnum
  clear hn h1 h2
  go_wp2_with fail
  refine hnum.mono ?_
  rintro e w3 ⟨a3, c3, rfl, hrd3, h4⟩
  have hnum2 := packNum_any w0 w3 _ 1 B a3 c3 1 ⟨x.drop 4, false⟩ (by decide) (by decide) (by show (x.drop 4).length ≤ _; rw [List.length_drop]; have := Hxl.out; omega) hrd3 h4
  rw [show (⟨x.drop 4, false⟩ : Rs).take 1 = ((x.drop 4).take 1, ⟨(x.drop 4).drop 1, false⟩) by
    unfold Rs.take Rs.fails
    rw [if_neg]
    have := Hxl.out
    simp
    omega] at hnum2
  simp only [lit1] at hnum2
  rw [hk] at hnum2
  have hand := and1 k (by omega)
  rw [hbank] at hand
  have hwk := IntWalk.i64_in (bank : Int) (by omega)
  clear hnum h3 hrd3 h4 hgen hk
  go_wp2_with fail
  refine hnum2.mono ?_
  rintro e w4 ⟨a4, c4, rfl, hrd4, h5⟩
  obtain ⟨P, hP⟩ : ∃ P, w4.heap.size = P := ⟨_, rfl⟩
  have h6 := (((h5.cast (show _ = dsk d m * R * (rdr B a4 c4 ⟨(x.drop 4).drop 1, false⟩ * (1 * row 5 1 (.slice a1 64 c1) 64 (bys x))) by ac_rfl)).l).alloc' hP (.cells #[.pointer (some ⟨d, 0, none⟩), .int .i64 r, .int .u64 gen, .int .i64 bank, .slice none 0 0, .int .i64 0] 84))
  clear hnum2 hrd4 h5
  by_cases hg0 : gen = 0
  · subst hg0
    have hD2 := HD.out
    rw [if_pos rfl] at hD2
    subst hD2
    clear HD
    go_wp2_with fail
    go_ret3
    exact ⟨rfl, h6.r⟩
  · have hgz : ¬ ((gen : Int) = 0) := by omega
    have hD2 := HD.out
    rw [if_neg hg0] at hD2
    have HD2 := hide hD2
    clear HD hD2 hg0
    have hst := laneStream_any w0 _ R P d r ⟨gen, bank, [], 0⟩ (.slice none 0 0) m Hr.out hbl Hgl.out Hsz.out (by have := Hw.out; omega) h6
    have hal := strm_len m r (fst bank) gen 256 0
    change Calls _ _ _ _ (fun e w' => ∃ a c, e = .returned (.tuple #[.slice a (strm m r (fst bank) gen 256 0).length c, .int .i64 0]) ∧
      At w0 (row 5 1 (.slice a (strm m r (fst bank) gen 256 0).length c) (strm m r (fst bank) gen 256 0).length (bys (strm m r (fst bank) gen 256 0)) * (cel P #[.pointer (some ⟨d, 0, none⟩), .int .i64 r, .int .u64 gen, .int .i64 bank, .slice none 0 0, .int .i64 0] 84 * (dsk d m * R))) w') at hst
    obtain ⟨all, hall⟩ : ∃ all, strm m r (fst bank) gen 256 0 = all := ⟨_, rfl⟩
    rw [hall] at hst hal HD2
    obtain ⟨N, hN⟩ : ∃ N, all.length = N := ⟨_, rfl⟩
    rw [hN] at hst hal HD2
    obtain ⟨T, hT⟩ : ∃ T, opn gen all (N + 1) 0 = T := ⟨_, rfl⟩
    rw [hT] at HD2
    have HN := hide hN
    have HT := hide hT
    clear hall hN hT h6
    go_wp2_with fail
    refine hst.mono ?_
    rintro e w5 ⟨aa, ca, rfl, h7⟩
    clear hst
    have hca : N ≤ ca := h7.rd.len.2
    have h8 := (h7.row_nil 123 9).cast (show _ = cel P #[.pointer (some ⟨d, 0, none⟩), .int .i64 r, .int .u64 gen, .int .i64 bank, .slice none 0 0, .int .i64 0] 84 * (row 5 1 (.slice aa N ca) N (bys all) * (row 123 9 (.slice none 0 0) 0 [] * (dirts [] * (dsk d m * R)))) by
      show _ = _ * (_ * (_ * (1 * _)))
      rw [HP.one_mul]
      ac_rfl)
    have Hh8 := hide h8
    clear h7 h8
    go_wp2_with fail
    go_loopw [12] (fun u12 wr => ∃ (fu pos : Nat) (ae ab : Option Addr) (ce cb : Nat) (es : List EntV), pos ≤ N ∧ es.length ≤ pos ∧ u12 = .slice ae es.length ce ∧
      Hid (N < fu + pos ∧ (es.map EntV.er ++ (opn gen all fu pos).1, (opn gen all fu pos).2) = T ∧ ((pos = 0 ∧ ab = none ∧ cb = 0) ∨ (0 < pos ∧ ab = aa ∧ cb = pos))) ∧
      At w0 (cel P #[.pointer (some ⟨d, 0, none⟩), .int .i64 r, .int .u64 gen, .int .i64 bank, .slice ab pos cb, .int .i64 0] 84 * (row 5 1 (.slice aa N ca) N (bys all) * (row 123 9 (.slice ae es.length ce) es.length (es.flatMap EntV.cs) * (dirts es * (dsk d m * R))))) wr) (fun u _ => N - lenOf u)
    case atStart => exact ⟨N + 1, 0, none, none, 0, 0, [], Nat.zero_le _, Nat.zero_le _, rfl, hide ⟨by omega, HT.out, .inl ⟨rfl, rfl, rfl⟩⟩, Hh8.out⟩
    case round =>
      obtain ⟨fu, pos, ae, ab, ce, cb, es, hpN, hes, rfl, HF, h9⟩ := hrel
      have p4 : wr.cell? ⟨P, 4, none⟩ = some (.slice ab pos cb) := At.cell h9 rfl
      obtain ⟨ad, had⟩ : ∃ ad, (if ca = pos then aa else aa.map (·.add (pos * 1))) = ad := ⟨_, rfl⟩
      have hde : ∀ w', At w0 (cel P #[.pointer (some ⟨d, 0, none⟩), .int .i64 r, .int .u64 gen, .int .i64 bank, .slice ab pos cb, .int .i64 0] 84 * (row 5 1 (.slice aa N ca) N (bys all) * (row 123 9 (.slice ae es.length ce) es.length (es.flatMap EntV.cs) * (dirts es * (dsk d m * R))))) w' → Rd w' (.slice ad (all.drop pos).length (ca - pos)) (bys (all.drop pos)) := fun w' h' => by
        have := h'.pull2.rd.drop hpN
        rw [had, bys_drop] at this
        rw [List.length_drop, HN.out]
        exact this
      have hdec := recDecode_any w0 wr _ ad (ca - pos) (all.drop pos) (by rw [List.length_drop, HN.out]; omega) hde h9
      have hdl : (all.drop pos).length = N - pos := by rw [List.length_drop, HN.out]
      rw [hdl] at hdec
      have hfu : ∃ f, fu = f + 1 := ⟨fu - 1, by have := HF.out.1; omega⟩
      obtain ⟨fu', rfl⟩ := hfu
      have Had := hide had
      clear hde hdl had Hh8
      go_upto_region 12 with fail
      refine wp_region_lit ?_
      refine wpList_value rfl (v := .slice aa N ca) (by go_simp) ?_
      refine wpList_value rfl (v := .pointer (some ⟨P, 0, none⟩)) (by go_simp) ?_
      refine wpList_value rfl (v := .pointer (some ⟨P, 0, none⟩)) (by go_simp) ?_
      refine wpList_value rfl (v := .pointer (some ⟨P, 4, none⟩)) (by go_simp) ?_
      refine wpList_value rfl (v := .slice ab pos cb) (by go_simp) ?_
      refine wpList_value rfl (v := .int .i64 pos) (by go_simp) ?_
      refine wpList_value rfl (v := .slice ad (N - pos) (ca - pos)) (by
        go_simp
        have := Had.out
        simp only [Nat.mul_one] at this
        exact this) ?_
      cases hdp : decP (all.drop pos) with
      | some yn =>
        obtain ⟨⟨kind, txn, page, slot, before, after, image, dirty⟩, n⟩ := yn
        have hdl := decP_len hdp
        have hop := opn_some (gen := gen) (k := fu') hdp
        rw [hdp] at hdec
        change Calls _ _ _ _ (fun e w' => ∃ a c, e = .returned (.tuple #[.agg #[.int .i64 kind, .int .i64 txn, .int .i64 page, .int .i64 slot, .string before, .string after, .string image, .slice a dirty.length c], .int .i64 n, .bool true]) ∧ At w0 (row 37 1 (.slice a dirty.length c) dirty.length (nus dirty) * (cel P #[.pointer (some ⟨d, 0, none⟩), .int .i64 r, .int .u64 gen, .int .i64 bank, .slice ab pos cb, .int .i64 0] 84 * (row 5 1 (.slice aa N ca) N (bys all) * (row 123 9 (.slice ae es.length ce) es.length (es.flatMap EntV.cs) * (dirts es * (dsk d m * R)))))) w') at hdec
        have Hdl := hide hdl
        have Hop := hide hop
        clear hdp hdl hop h9 p4
        go_wp2_with fail
        refine hdec.mono ?_
        rintro e w6 ⟨a6, c6, rfl, h10⟩
        clear hdec
        obtain ⟨X, hX⟩ : ∃ X, w6.heap.size = X := ⟨_, rfl⟩
        have h11 := (h10.alloc' hX (.cells #[.int .i64 kind, .int .i64 txn, .int .i64 page, .int .i64 slot, .string before, .string after, .string image, .slice a6 dirty.length c6] 52)).drew
        go_upto_region 14 with fail
        generalize hW : w6.alloc _ = W at h11 ⊢
        clear h10 hX hW
        have hpl := (lanePlace_cel w0 W.drew _ P d r ⟨gen, bank, [], 0⟩ (.slice ab pos cb) pos (by omega) Hgl.out h11.pull3).mono (R' := fun e w' => e = .returned (.int .u64 (gen * 1048576 + pos + 1 : Nat)) ∧ w' = W.drew) fun _ _ ⟨he, hw⟩ => ⟨he, hw.symm⟩
        obtain ⟨pl, hple⟩ : ∃ pl, gen * 1048576 + pos + 1 = pl := ⟨_, rfl⟩
        rw [hple] at hpl
        have Hple := hide hple
        have p4 : W.drew.cell? ⟨P, 4, none⟩ = some (.slice ab pos cb) := At.cell h11.pull3 rfl
        have x0 : W.drew.cell? ⟨X, 0, none⟩ = some (.int .i64 kind) := At.cell h11 rfl
        have x1 : W.drew.cell? ⟨X, 1, none⟩ = some (.int .i64 txn) := At.cell h11 rfl
        have x2 : W.drew.cell? ⟨X, 2, none⟩ = some (.int .i64 page) := At.cell h11 rfl
        have x3 : W.drew.cell? ⟨X, 3, none⟩ = some (.int .i64 slot) := At.cell h11 rfl
        have x4 : W.drew.cell? ⟨X, 4, none⟩ = some (.string before) := At.cell h11 rfl
        have x5 : W.drew.cell? ⟨X, 5, none⟩ = some (.string after) := At.cell h11 rfl
        have x6 : W.drew.cell? ⟨X, 6, none⟩ = some (.string image) := At.cell h11 rfl
        have x7 : W.drew.cell? ⟨X, 7, none⟩ = some (.slice a6 dirty.length c6) := At.cell h11 rfl
        clear hple
        refine wp_region_mix2 1 8 [0, 9, 10, 11, 12] rfl (by kernel_rfl) ?_
        simp only [List.drop_succ_cons, List.drop_zero, List.take_succ_cons, List.take_zero]
        still_step
        still_step
        still_step
        still_step
        still_step
        still_step
        still_call hpl
        still_step
        refine wpStill_nil ?_
        simp only [picks_cons, picks_nil, getD_zero, getD_succ]
        obtain ⟨nw, hnw⟩ : ∃ nw, nw = EntV.cs (pl, ⟨kind, txn, page, slot, before, after, image, dirty⟩, a6, c6) := ⟨_, rfl⟩
        have hnl : nw.length = 9 := by rw [hnw]; rfl
        have hno : ∀ u ∈ nw, u.oneCell' = true := by
          intro u hu
          rw [hnw] at hu
          simp only [EntV.cs, RecV.cs, Rec.cells, List.mem_cons, List.not_mem_nil, or_false] at hu
          rcases hu with rfl | rfl | rfl | rfl | rfl | rfl | rfl | rfl | rfl <;> rfl
        have hng : (Value.agg #[.int .u64 pl, .int .i64 kind, .int .i64 txn, .int .i64 page, .int .i64 slot, .string before, .string after, .string image, .slice a6 dirty.length c6]) = .agg nw.toArray := by rw [hnw]; rfl
        have h12 := (h11.alloc (.cells nw.toArray 123)).pull6
        have Hnw := hide hnw
        clear p4 x0 x1 x2 x3 x4 x5 x6 x7 hpl hnw h11
        refine wpList_value rfl (v := .slice ae es.length ce) (by go_simp) ?_
        refine wpList_value rfl (v := .agg nw.toArray) (by
          rw [← hng]
          go_simp) ?_
        refine wpList_buildSlice1 rfl 67 123 (.tmp 76) rfl i2 z2 (ys := nw) Try.underlying67 Hi2.out hy0 (by rw [hy2]; exact hnl) (by omega) (by omega) (by go_simp) ?_
        refine wpList_append_row rfl _ _ _ rfl 123 i2 z2 9 112 Try.underlying67 Hi2.out hy0 hy2 hy3 hy1 (by decide) _ _ _ (by go_simp) h12 _ 1 1 nw (by go_simp) (by rw [hnl]) (fun j u hu => new_cells (w := W.drew) rfl j u hu) hno (by unfold maxLen; omega) (by omega) ?_
        intro a8 c8 w8 h13
        clear hng hno hnl h12
        go_wp2_with fail
        refine ⟨by kernel_rfl, ?_⟩
        obtain ⟨en, hen⟩ : ∃ en : EntV, en = (pl, ⟨kind, txn, page, slot, before, after, image, dirty⟩, a6, c6) := ⟨_, rfl⟩
        have hfm : (es ++ [en]).flatMap EntV.cs = es.flatMap EntV.cs ++ nw := by
          rw [List.flatMap_append, Hnw.out, hen]
          simp
        have hds : dirts (es ++ [en]) = row 37 1 (.slice a6 dirty.length c6) dirty.length (nus dirty) * dirts es := by
          rw [dirts_snoc, hen]
        have h14 := (h13.cast (show _ = cel P #[.pointer (some ⟨d, 0, none⟩), .int .i64 r, .int .u64 gen, .int .i64 bank, .slice ab pos cb, .int .i64 0] 84 * (row 5 1 (.slice aa N ca) N (bys all) * (row 123 9 (.slice a8 (es.length + 1) c8) (es.length + 1) ((es ++ [en]).flatMap EntV.cs) * (dirts (es ++ [en]) * (dsk d m * R)))) * (pt W.drew.heap.size (.cells nw.toArray 123) * pt X (.cells #[.int .i64 kind, .int .i64 txn, .int .i64 page, .int .i64 slot, .string before, .string after, .string image, .slice a6 dirty.length c6] 52)) by
          rw [hfm, hds]
          ac_rfl)).l.drew
        have hpn : pos + n ≤ N := by have := Hdl.out.2.1; rw [List.length_drop, HN.out] at this; omega
        have hn2 := Hdl.out.1
        obtain ⟨g, cq, hag, _, _⟩ := h14.pull2.row_ptr (by omega)
        simp only [Value.slice.injEq] at hag
        obtain ⟨rfl, _, rfl⟩ := hag
        have p4 : w8.drew.cell? ⟨P, 4, none⟩ = some (.slice ab pos cb) := At.cell h14 rfl
        have p4' := At.frz h14 4
        have p4l := At.lt h14
        have hq1 : ((pos : Int) + (n : Int)).toNat = pos + n := by omega
        have hwq := IntWalk.i64_in ((pos : Int) + (n : Int)) (by omega)
        have hq2 : (pos : Int) + (n : Int) ≤ (ca : Int) := by omega
        have hq3 : ¬ ((pos : Int) + (n : Int) < 0) := by omega
        have hq4 : ¬ (ca = 0) := by omega
        have Hen := hide hen
        clear h13 hfm hds hen
        go_upto_region 15 with fail
        refine wp_region_line [0, 1, 2, 3, 4, 5, 6, 7, 8, 9, 10, 11, 12, 13, 14, 15, 16, 17, 18, 19] rfl (by kernel_rfl) ?_
        simp only [picks_cons, picks_nil, getD_zero, getD_succ]
        refine wpList_value rfl (v := .pointer (some ⟨P, 0, none⟩)) (by go_simp) ?_
        refine wpList_value rfl (v := .slice (some ⟨g, 0, none⟩) N ca) (by go_simp) ?_
        refine wpList_value rfl (v := .pointer (some ⟨P, 0, none⟩)) (by go_simp) ?_
        refine wpList_value rfl (v := .pointer (some ⟨P, 0, none⟩)) (by go_simp) ?_
        refine wpList_value rfl (v := .pointer (some ⟨P, 4, none⟩)) (by go_simp) ?_
        refine wpList_value rfl (v := .slice ab pos cb) (by go_simp) ?_
        refine wpList_value rfl (v := .int .i64 pos) (by go_simp) ?_
        refine wpList_value rfl (v := .int .i64 n) (by go_simp) ?_
        refine wpList_value rfl (v := .int .i64 ((pos : Int) + (n : Int))) (by go_simp) ?_
        refine wpList_value rfl (v := .pointer (some ⟨P, 0, none⟩)) (by go_simp) ?_
        refine wpList_value rfl (v := .pointer (some ⟨P, 0, none⟩)) (by go_simp) ?_
        refine wpList_value rfl (v := .pointer (some ⟨P, 4, none⟩)) (by go_simp) ?_
        refine wpList_value rfl (v := .slice ab pos cb) (by go_simp) ?_
        refine wpList_value rfl (v := .int .i64 pos) (by go_simp) ?_
        refine wpList_value rfl (v := .int .i64 n) (by go_simp) ?_
        refine wpList_value rfl (v := .int .i64 ((pos : Int) + (n : Int))) (by go_simp) ?_
        refine wpList_value rfl (v := .slice (some ⟨g, 0, none⟩) (pos + n) (pos + n)) (by
          go_simp
          rw [if_pos (by omega), if_pos (by omega)]) ?_
        go_wp2_with fail
        refine ⟨by kernel_rfl, ?_⟩
        go_wp2_with fail
        go_roundw
        case rel =>
          refine ⟨fu', pos + n, a8, some ⟨g, 0, none⟩, c8, pos + n, es ++ [en], hpn, by rw [List.length_append]; simp; omega, by rw [List.length_append]; rfl, hide ⟨by have := HF.out.1; omega, ?_, .inr ⟨by omega, rfl, rfl⟩⟩, ?_⟩
          · have := HF.out.2.1
            rw [Hop.out] at this
            rw [← this, List.map_append, List.append_assoc, Hen.out]
            simp only [List.map_cons, List.map_nil, EntV.er, List.singleton_append, Hple.out]
          · rw [List.length_append]
            exact h14.set' 4 (.slice (some ⟨g, 0, none⟩) (pos + n) (pos + n)) rfl
        case measure => simp [lenOf]; omega
      | none =>
        have hop := opn_none (gen := gen) (k := fu') hdp
        rw [hdp] at hdec
        change Calls _ _ _ _ (fun e w' => e = .returned (.tuple #[.agg #[.int .i64 0, .int .i64 0, .int .i64 0, .int .i64 0, .string ⟨#[]⟩, .string ⟨#[]⟩, .string ⟨#[]⟩, .slice none 0 0], .int .i64 0, .bool false]) ∧ At w0 (cel P #[.pointer (some ⟨d, 0, none⟩), .int .i64 r, .int .u64 gen, .int .i64 bank, .slice ab pos cb, .int .i64 0] 84 * (row 5 1 (.slice aa N ca) N (bys all) * (row 123 9 (.slice ae es.length ce) es.length (es.flatMap EntV.cs) * (dirts es * (dsk d m * R))))) w') at hdec
        have hTe : T = (es.map EntV.er, pos) := by
          have := HF.out.2.1
          rw [hop, List.append_nil] at this
          exact this.symm
        subst hTe
        have Hlb := hide HF.out.2.2
        have hD3 := HD2.out
        simp only at hD3
        obtain ⟨S, hS⟩ : ∃ S, nsec pos = S := ⟨_, rfl⟩
        obtain ⟨f, hf⟩ : ∃ f, fst bank = f := ⟨_, rfl⟩
        have hfl : f ≤ 258 := by rw [← hf]; unfold fst; omega
        have hSl : S ≤ 256 := by rw [← hS]; unfold nsec; omega
        have hSz : ((pos : Int) + 56 - 1) / 56 = (S : Int) := by rw [← hS]; unfold nsec; omega
        have hlm : (es.map EntV.er).length = es.length := List.length_map ..
        rw [hS, hf] at hD3
        have HD3 := hide hD3
        have hw1 := IntWalk.i64_in ((pos : Int) + 56) (by omega)
        have hw2 := IntWalk.i64_in ((pos : Int) + 56 - 1) (by omega)
        have hw3 := IntWalk.i64_in (S : Int) (by omega)
        have hw4 := IntWalk.i64_in ((f : Int) + (S : Int)) (by omega)
        have hw5 := IntWalk.i64_in ((f : Int) + 256) (by omega)
        have Hfst := hide hf
        clear hdp hop h9 p4 HF HD2 hD3 hS hf
        go_wp2_with fail
        refine hdec.mono ?_
        rintro e w6 ⟨rfl, h10⟩
        clear hdec
        have h11 := (h10.alloc (.cells #[.int .i64 0, .int .i64 0, .int .i64 0, .int .i64 0, .string ⟨#[]⟩, .string ⟨#[]⟩, .string ⟨#[]⟩, .slice none 0 0] 52)).r
        go_upto_region 16 with fail
        generalize hW : w6.alloc _ = W at h11 ⊢
        clear h10 hW
        have p4 : W.cell? ⟨P, 4, none⟩ = some (.slice ab pos cb) := At.cell h11 rfl
        have p5 : W.cell? ⟨P, 5, none⟩ = some (.int .i64 0) := At.cell h11 rfl
        have p5f := At.frz h11 5
        have p5l := At.lt h11
        have h12 := h11.set' (d := #[.pointer (some ⟨d, 0, none⟩), .int .i64 r, .int .u64 gen, .int .i64 bank, .slice ab pos cb, .int .i64 pos]) 5 (.int .i64 pos) rfl
        clear h11
        go_upto_region 17 with fail
        generalize hW2 : W.setCell _ _ = W2 at h12 ⊢
        clear p4 p5 p5f p5l hW2
        have h13 := h12.drew
        have hfi := laneFirst_any W2.drew bank hbl
        change Calls _ _ _ _ (fun e w' => e = .returned (.int .i64 (fst bank : Nat)) ∧ W2.drew = w') at hfi
        rw [Hfst.out] at hfi
        have p3 : W2.drew.cell? ⟨P, 3, none⟩ = some (.int .i64 bank) := At.cell h13 rfl
        have p4 : W2.drew.cell? ⟨P, 4, none⟩ = some (.slice ab pos cb) := At.cell h13 rfl
        go_region_held3 (fun w' => w'.cell? ⟨P, 3, none⟩ = some (.int .i64 bank) ∧ w'.cell? ⟨P, 4, none⟩ = some (.slice ab pos cb)) (first | exact ⟨p3, p4⟩) (first | ((with_reducible refine hfi.mono ?_); rintro e w7 ⟨rfl, rfl⟩))
        have hSt : ((pos : Int) + 56 - 1).tdiv 56 = (S : Int) := by rw [Int.tdiv_eq_ediv_of_nonneg (by omega), hSz]
        rw [hSt, hw3, hw4]
        have h14 := h13.pull5
        have hwp := laneWipe_any w0 W2.drew _ d m r (f + S) (f + 256) Hr.out (by omega) (by omega) (by have := Hw.out; omega) h14
        have hk1 := m.wipe_keeps r (f + S) (f + 256)
        obtain ⟨P1, hP1⟩ : ∃ P1, m.wipe r (f + S) (f + 256) = P1 := ⟨_, rfl⟩
        rw [hP1] at hwp hk1 HD3
        have hk1' : P1.2.writes ≤ 800000256 := by have := hk1.2.2; have := Hw.out; omega
        have hrP : r < P1.2.regs.length := by rw [hk1.1]; exact Hr.out
        rw [Int.natCast_add, Int.natCast_add] at hwp
        change Calls _ _ #[_, _, _, .int .i64 ((f : Int) + 256)] _ _ at hwp
        have HrP := hide hrP
        have Hk1 := hide hk1'
        clear hP1 hk1 hk1' hrP h12 h13 h14 hSt hSz hw1 hw2
        go_wp2_with fail
        refine hfi.mono ?_
        rintro e w7 ⟨rfl, hw7⟩
        subst hw7
        clear hfi
        go_wp2_with fail
        refine hwp.mono ?_
        rintro e w8 ⟨rfl, h15⟩
        clear hwp p3 p4
        by_cases he1 : P1.1 = 0
        · have hD4 := HD3.out
          rw [if_neg (show ¬ (P1.1 ≠ 0) from fun h => h he1)] at hD4
          have he1z : (P1.1 : Int) = 0 := by omega
          rw [he1z]
          have h16 := h15.cast (show _ = cel P #[.pointer (some ⟨d, 0, none⟩), .int .i64 r, .int .u64 gen, .int .i64 bank, .slice ab pos cb, .int .i64 pos] 84 * (row 5 1 (.slice aa N ca) N (bys all) * (row 123 9 (.slice ae es.length ce) es.length (es.flatMap EntV.cs) * (dirts es * (dsk d P1.2 * R)))) by ac_rfl)
          have p4 : w8.cell? ⟨P, 4, none⟩ = some (.slice ab pos cb) := At.cell h16 rfl
          obtain ⟨qm, hqm⟩ : ∃ qm, pos % 56 = qm := ⟨_, rfl⟩
          have hqz : (pos : Int) % 56 = (qm : Int) := by omega
          have hqt : (pos : Int).tmod 56 = (qm : Int) := by rw [Int.tmod_eq_emod_of_nonneg (by omega), hqz]
          have hwq := IntWalk.i64_in (qm : Int) (by omega)
          rw [hqm] at hD4
          have Hqm := hide hqm
          have hfinal : ∀ (P2 : Nat × Dk) (w' : World), At w0 (cel P #[.pointer (some ⟨d, 0, none⟩), .int .i64 r, .int .u64 gen, .int .i64 bank, .slice ab pos cb, .int .i64 pos] 84 * (row 5 1 (.slice aa N ca) N (bys all) * (row 123 9 (.slice ae es.length ce) es.length (es.flatMap EntV.cs) * (dirts es * (dsk d P2.2 * R))))) w' →
              D = (0, some (⟨gen, bank, all.take pos, pos⟩, es.map EntV.er), P2.2) → opnPost w0 R d r D (.returned (.tuple #[.pointer (some ⟨P, 0, none⟩), .slice ae es.length ce, .int .i64 0])) w' := fun P2 w' h hD => by
            subst hD
            refine ⟨P, es, ae, ce, by rw [hlm]; rfl, rfl, ?_⟩
            rw [hlm]
            have hl : (all.take pos).length = pos := by rw [List.length_take, HN.out]; omega
            refine At.lan_shut (L := ⟨gen, bank, all.take pos, pos⟩) (vb := .slice ab pos cb) ⟨Hgl.out, hbl, by show (all.take pos).length ≤ _; omega, by show pos ≤ (all.take pos).length; omega⟩ ?_
            have := (h.pull2.row_trunc HN.out hpN Hlb.out).pull2
            exact this
          have Hfinal := hide hfinal
          clear hfinal h15 HD3 hqm he1z hlm
          by_cases hpn : pos < N
          · have hpz : (pos : Int) < (N : Int) := by omega
            by_cases hq0 : 0 < qm
            · simp only [show (pos < N ∧ 0 < qm) = True from eq_true ⟨hpn, hq0⟩, if_true] at hD4
              have hq0z : 0 < (qm : Int) := by omega
              have hpos : 0 < pos := by have := Hqm.out; omega
              have hl : (all.take pos).length = pos := by rw [List.length_take, HN.out]; omega
              have h17 := h16.cast (show _ = cel P #[.pointer (some ⟨d, 0, none⟩), .int .i64 r, .int .u64 gen, .int .i64 bank, .slice ab pos cb, .int .i64 pos] 84 * (dsk d P1.2 * (row 5 1 (.slice aa N ca) N (bys all) * (row 123 9 (.slice ae es.length ce) es.length (es.flatMap EntV.cs) * (dirts es * R)))) by ac_rfl)
              have hrb : ∀ w', At w0 (row 5 1 (.slice aa N ca) N (bys all) * (row 123 9 (.slice ae es.length ce) es.length (es.flatMap EntV.cs) * (dirts es * R))) w' → Rd w' (.slice ab (all.take pos).length cb) (bys (all.take pos)) := fun w' h' => by
                obtain ⟨h1, _, _⟩ | ⟨_, h2, h3⟩ := Hlb.out
                · omega
                · subst h2 h3
                  rw [hl, ← bys_take]
                  exact (h'.rd.take hpN).recap hpos (Nat.le_refl _)
              have hly := laneLay_any w0 w8.drew _ P d r ⟨gen, bank, all.take pos, pos⟩ (.slice ab pos cb) P1.2 bank gen ab cb (all.take pos) pos HrP.out hbl Hgl.out (by omega) (by omega) (by have := Hk1.out; omega) hrb h17.drew
              rw [hl] at hly
              change Calls _ _ _ _ (fun e w' => e = .returned (.int .i64 (P1.2.lay r bank gen (all.take pos) pos).1) ∧ At w0 (cel P #[.pointer (some ⟨d, 0, none⟩), .int .i64 r, .int .u64 gen, .int .i64 bank, .slice ab pos cb, .int .i64 pos] 84 * (dsk d (P1.2.lay r bank gen (all.take pos) pos).2 * (row 5 1 (.slice aa N ca) N (bys all) * (row 123 9 (.slice ae es.length ce) es.length (es.flatMap EntV.cs) * (dirts es * R))))) w') at hly
              obtain ⟨P2, hP2⟩ : ∃ P2, P1.2.lay r bank gen (all.take pos) pos = P2 := ⟨_, rfl⟩
              rw [hP2] at hly hD4
              have HD4 := hide hD4
              have q2 : w8.drew.cell? ⟨P, 2, none⟩ = some (.int .u64 gen) := At.cell h17.drew rfl
              have q3 : w8.drew.cell? ⟨P, 3, none⟩ = some (.int .i64 bank) := At.cell h17.drew rfl
              have q4 : w8.drew.cell? ⟨P, 4, none⟩ = some (.slice ab pos cb) := At.cell h17.drew rfl
              clear hD4 hq0 hpn hrb hP2 hl
              go_wp2_with fail
              go_region_held3 (fun w' => w'.cell? ⟨P, 2, none⟩ = some (.int .u64 gen) ∧ w'.cell? ⟨P, 3, none⟩ = some (.int .i64 bank) ∧ w'.cell? ⟨P, 4, none⟩ = some (.slice ab pos cb)) (first | exact ⟨q2, q3, q4⟩ | exact ⟨At.cell h18 rfl, At.cell h18 rfl, At.cell h18 rfl⟩) (first | ((with_reducible refine hly.mono ?_); rintro e w9 ⟨rfl, h18⟩))
              all_goals
                clear hly q2 q3 q4 h17 h16 p4
                by_cases he2 : P2.1 = 0
                · have hD5 := HD4.out
                  rw [if_neg (show ¬ (P2.1 ≠ 0) from fun h => h he2)] at hD5
                  have HD5 := hide hD5
                  have he2z : (P2.1 : Int) = 0 := by omega
                  rw [he2z]
                  clear hD5 he2z
                  go_wp2_with fail
                  go_ret3
                  exact Hfinal.out P2 _ (h18.cast (by ac_rfl)) HD5.out.symm
                · have hD5 := HD4.out
                  rw [if_pos he2] at hD5
                  have hne : ¬ ((P2.1 : Int) = 0) := by omega
                  clear HD4 Hfinal
                  subst hD5
                  go_wp2_with fail
                  go_ret3
                  refine ⟨rfl, ?_⟩
                  exact (h18.cast (show _ = dsk d P2.2 * R * (cel P #[.pointer (some ⟨d, 0, none⟩), .int .i64 r, .int .u64 gen, .int .i64 bank, .slice ab pos cb, .int .i64 pos] 84 * (row 5 1 (.slice aa N ca) N (bys all) * (row 123 9 (.slice ae es.length ce) es.length (es.flatMap EntV.cs) * dirts es))) by ac_rfl)).l
            · simp only [show (pos < N ∧ 0 < qm) = False from eq_false (fun h => hq0 h.2), if_false] at hD4
              have hq0z : ¬ (0 < (qm : Int)) := by omega
              have HD4 := hide hD4
              clear hD4 hq0 hpn
              go_wp2_with fail
              go_ret3
              exact Hfinal.out (0, P1.2) _ h16 HD4.out.symm
          · simp only [show (pos < N ∧ 0 < qm) = False from eq_false (fun h => hpn h.1), if_false] at hD4
            have hpz : ¬ ((pos : Int) < (N : Int)) := by omega
            have HD4 := hide hD4
            clear hD4 hpn
            go_wp2_with fail
            go_ret3
            exact Hfinal.out (0, P1.2) _ h16 HD4.out.symm
        · have hD4 := HD3.out
          rw [if_pos he1] at hD4
          subst hD4
          have hne : ¬ ((P1.1 : Int) = 0) := by omega
          clear HD3
          go_wp2_with fail
          go_ret3
          refine ⟨rfl, ?_⟩
          exact (h15.cast (show _ = dsk d P1.2 * R * (cel P #[.pointer (some ⟨d, 0, none⟩), .int .i64 r, .int .u64 gen, .int .i64 bank, .slice ab pos cb, .int .i64 pos] 84 * (row 5 1 (.slice aa N ca) N (bys all) * (row 123 9 (.slice ae es.length ce) es.length (es.flatMap EntV.cs) * dirts es))) by ac_rfl)).l
end Go.Proofs.Ytmlifjfgelfbbaa
