/-
  The package lane: Anew: what it comes to: a contract, no statement.
-/
import Derived.Test.YtmlifjfgelfbbaaLp
namespace Go.Proofs.Ytmlifjfgelfbbaa
open Go Go.RowKit

/-- A record, and where its numbers are. -/
abbrev RecV := Rec × Option Addr × Nat
def RecV.cs (x : RecV) : List Value := x.1.cells (.slice x.2.1 x.1.dirty.length x.2.2)
theorem RecV.cs_len (x : RecV) : x.cs.length = 8 := rfl
/-- A slice of records that reads so as long as A holds. -/
def RecsIn (w0 : World) (A : HP) (a : Option Addr) (rs : List RecV) : Prop :=
  (rs = [] ∨ ∃ g o, a = some ⟨g, o, none⟩ ∧ ∀ w', At w0 A w' → ∀ j u, (rs.flatMap RecV.cs)[j]? = some u → w'.cell? ⟨g, o + j, none⟩ = some u) ∧
  (∀ x ∈ rs, ∀ w', At w0 A w' → Rd w' (.slice x.2.1 x.1.dirty.length x.2.2) (nus x.1.dirty)) ∧ ∀ x ∈ rs, ∀ d ∈ x.1.dirty, d < 2 ^ 64
theorem Try.zeroRec (w : World) : (zeroValue 52).run Try.prog w = .ok (.agg (List.toArray [.int .i64 0, .int .i64 0, .int .i64 0, .int .i64 0, .string ⟨#[]⟩, .string ⟨#[]⟩, .string ⟨#[]⟩, .slice none 0 0])) w := by kernel_rfl
theorem RecV.one (x : RecV) : x.cs.toArray.all (·.oneCell') = true := by
  obtain ⟨⟨k, t, p, s, b, a, i, dd⟩, q, c⟩ := x
  simp only [RecV.cs, Rec.cells, List.all_toArray, List.all_cons, List.all_nil]
  rfl

def encs (rs : List RecV) : List UInt8 := rs.flatMap fun x => x.1.enc
def allRight (rs : List RecV) : Bool := rs.all fun x => x.1.right
/-- All of Anew's writes. -/
def Dk.anew (m : Dk) (r bank gen : Nat) (b : List UInt8) : Nat × Dk :=
  thenD (m.wipe r (fst bank) (fst bank + 256)) fun m => thenD (m.lay r bank gen b 0) fun m => thenD (m.wr r 1 (be 4 gen ++ be 1 bank)) fun m => m.bar r
/-- Anew, and what it answers. -/
def Ln.anew (L : Ln) (m : Dk) (r : Nat) (rs : List RecV) : Nat × Ln × Dk :=
  if allRight rs = false then (1, L, m) else if 14336 < (encs rs).length then (7, L, m)
  else let D := m.anew r (1 - L.bank) (L.gen + 1) (encs rs); (D.1, if D.1 = 0 then ⟨L.gen + 1, 1 - L.bank, encs rs, (encs rs).length⟩ else L, D.2)

theorem Dk.wipes_keeps (r : Nat) : ∀ (n s : Nat) (m : Dk), (Dk.wipes r n s m).2.regs.length = m.regs.length ∧ (Dk.wipes r n s m).2.size = m.size ∧ (Dk.wipes r n s m).2.writes ≤ m.writes + n
  | 0, s, m => ⟨rfl, rfl, Nat.le_refl _⟩
  | n + 1, s, m => by
    rw [Dk.wipes_succ]
    split
    · exact ⟨rfl, rfl, by simp⟩
    · split
      · have := Dk.wipes_keeps r n (s + 1) m
        exact ⟨this.1, this.2.1, by omega⟩
      · have h1 := m.wr_keeps r s []
        by_cases h0 : (m.wr r s []).1 = 0
        · rw [thenD_0 h0]
          have h2 := Dk.wipes_keeps r n (s + 1) (m.wr r s []).2
          exact ⟨h2.1.trans h1.1, h2.2.1.trans h1.2.1, by omega⟩
        · rw [thenD_e h0]
          exact ⟨h1.1, h1.2.1, by omega⟩
theorem thenD_keeps {p : Nat × Dk} {f : Dk → Nat × Dk} {m : Dk} {a b : Nat} (hp : p.2.regs.length = m.regs.length ∧ p.2.size = m.size ∧ p.2.writes ≤ m.writes + a) (hf : ∀ M, (f M).2.regs.length = M.regs.length ∧ (f M).2.size = M.size ∧ (f M).2.writes ≤ M.writes + b) :
    (thenD p f).2.regs.length = m.regs.length ∧ (thenD p f).2.size = m.size ∧ (thenD p f).2.writes ≤ m.writes + (a + b) := by
  by_cases h0 : p.1 = 0
  · rw [thenD_0 h0]
    have := hf p.2
    exact ⟨this.1.trans hp.1, this.2.1.trans hp.2.1, by omega⟩
  · rw [thenD_e h0]
    exact ⟨hp.1, hp.2.1, by omega⟩
theorem Dk.bar_keeps' (M : Dk) (r : Nat) : (M.bar r).2.regs.length = M.regs.length ∧ (M.bar r).2.size = M.size ∧ (M.bar r).2.writes ≤ M.writes + 0 := by
  have := M.bar_keeps r
  exact ⟨this.1, this.2.1, by omega⟩
theorem Dk.wipe_keeps (m : Dk) (r s t : Nat) : (m.wipe r s t).2.regs.length = m.regs.length ∧ (m.wipe r s t).2.size = m.size ∧ (m.wipe r s t).2.writes ≤ m.writes + (t - s) :=
  thenD_keeps (b := 0) (Dk.wipes_keeps r (t - s) s m) fun M => M.bar_keeps' r
theorem Dk.lays_keeps (r f gen : Nat) (bs : List UInt8) : ∀ (n s : Nat) (m : Dk), (Dk.lays r f gen bs n s m).2.regs.length = m.regs.length ∧ (Dk.lays r f gen bs n s m).2.size = m.size ∧ (Dk.lays r f gen bs n s m).2.writes ≤ m.writes + n
  | 0, s, m => ⟨rfl, rfl, Nat.le_refl _⟩
  | n + 1, s, m => by
    rw [Dk.lays_succ]
    have := thenD_keeps (m := m) (a := 1) (b := n) (m.wr_keeps r (f + s) (lsec gen bs s)) fun M => Dk.lays_keeps r f gen bs n (s + 1) M
    exact ⟨this.1, this.2.1, Nat.le_trans this.2.2 (by omega)⟩
theorem Dk.lay_keeps (m : Dk) (r bank gen : Nat) (bs : List UInt8) (fr : Nat) : (m.lay r bank gen bs fr).2.regs.length = m.regs.length ∧ (m.lay r bank gen bs fr).2.size = m.size ∧ (m.lay r bank gen bs fr).2.writes ≤ m.writes + nsec bs.length := by
  have := thenD_keeps (b := 0) (Dk.lays_keeps r (fst bank) gen bs (nsec bs.length - fr / 56) (fr / 56) m) fun M => M.bar_keeps' r
  exact ⟨this.1, this.2.1, Nat.le_trans this.2.2 (by omega)⟩
theorem nsec_le {n : Nat} (h : n ≤ 14336) : nsec n ≤ 256 := by unfold nsec; omega
theorem Dk.anew_keeps (m : Dk) (r bank gen : Nat) (b : List UInt8) (hb : b.length ≤ 14336) : (m.anew r bank gen b).2.regs.length = m.regs.length ∧ (m.anew r bank gen b).2.size = m.size ∧ (m.anew r bank gen b).2.writes ≤ m.writes + 520 := by
  have h := thenD_keeps (b := 256 + (1 + 0)) (m.wipe_keeps r (fst bank) (fst bank + 256)) fun M => thenD_keeps (b := 1 + 0) (m := M) (a := 256) (p := M.lay r bank gen b 0) (by
    have := M.lay_keeps r bank gen b 0
    have h2 := nsec_le hb
    exact ⟨this.1, this.2.1, Nat.le_trans this.2.2 (by omega)⟩) fun M => thenD_keeps (b := 0) (m := M) (a := 1) (M.wr_keeps r 1 (be 4 gen ++ be 1 bank)) fun M => M.bar_keeps' r
  exact ⟨h.1, h.2.1, Nat.le_trans h.2.2 (by omega)⟩

set_option maxRecDepth 100000 in
set_option maxHeartbeats 8000000 in
theorem laneAnew_any (w0 w : World) (R : HP) (p d r : Nat) (L : Ln) (m : Dk) (a : Option Addr) (c : Nat) (rs : List RecV) (hr : r < m.regs.length) (hgn : L.gen + 1 < 4294967296) (hrl : rs.length ≤ 1000) (hwn : m.writes ≤ 800000000)
    (hA : RecsIn w0 R a rs) (h : At w0 (lan p d r L * (dsk d m * R)) w) :
    Calls Try.prog 30 #[.pointer (some ⟨p, 0, none⟩), .slice a rs.length c] w fun e w' => e = .returned (.int .i64 (L.anew m r rs).1) ∧ At w0 (lan p d r (L.anew m r rs).2.1 * (dsk d (L.anew m r rs).2.2 * R)) w' := by
  obtain ⟨i0, hi, hz0, hz1, hz2⟩ := info_parts Try.info8
  obtain ⟨hL, va, vc, h1⟩ := h.lan_open
  obtain ⟨n, hn⟩ : ∃ n, rs.length = n := ⟨_, rfl⟩
  have Hn := hide hn
  have HL := hide hL
  have HA := hide hA
  have Hi := hide hi
  have Hg := hide hgn
  have hbk := hL.bank
  have q3 : w.cell? ⟨p, 3, none⟩ = some (.int .i64 L.bank) := At.cell h1 rfl
  have hbw := IntWalk.i64_in (1 - (L.bank : Int)) (by omega)
  obtain ⟨bk, hbke⟩ : ∃ bk, 1 - L.bank = bk := ⟨_, rfl⟩
  have hbz : 1 - (L.bank : Int) = (bk : Int) := by omega
  rw [hbz] at hbw
  have hbkl : bk ≤ 1 := by omega
  have Hbk := hide hbke
  have Hh := hide h
  have Hr := hide hr
  have Hw := hide hwn
  have h2 := h1.cast (show _ = cel p (L.cells d r (.slice va L.b.length vc)) 84 * (dsk d m * (row 5 1 (.slice va L.b.length vc) L.b.length (bys L.b) * R)) by ac_rfl)
  rw [hn] at hrl ⊢
  obtain ⟨C, hC⟩ : ∃ C, L.cells d r (.slice va L.b.length vc) = C := ⟨_, rfl⟩
  obtain ⟨RR, hRR⟩ : ∃ RR, row 5 1 (.slice va L.b.length vc) L.b.length (bys L.b) * R = RR := ⟨_, rfl⟩
  rw [hC, hRR] at h2
  have HC := hide hC
  have HRR := hide hRR
  have h3 := h2.row_nil 5 1
  have Hh3 := hide h3
  clear hi hL hA h h1 h2 h3 hn hgn hr hwn hC hRR hbke
  go_enter Try.func30, Try.ntmps30
  go_wp2_with fail
  go_loopw [6, 21] (fun u6 u21 wr => ∃ (i : Nat) (ar : Option Addr) (cp : Nat), i ≤ n ∧ u21 = .int .i64 i ∧ u6 = .slice ar (encs (rs.take i)).length cp ∧ Hid ((∀ x ∈ rs.take i, x.1.right = true) ∧ (encs (rs.take i)).length ≤ i * 80000) ∧ At w0 (row 5 1 (.slice ar (encs (rs.take i)).length cp) (encs (rs.take i)).length (bys (encs (rs.take i))) * (cel p C 84 * (dsk d m * RR))) wr) (fun _ u _ => n - (intOf u).toNat)
  case atStart => exact ⟨0, none, 0, Nat.zero_le _, rfl, rfl, hide ⟨fun x hx => by simp at hx, by simp [encs]⟩, Hh3.out⟩
  case round =>
    obtain ⟨i, ar, cp, hin, rfl, rfl, Hri, h5⟩ := hrel
    by_cases hil : i < n
    · obtain ⟨x, hx⟩ : ∃ x, rs[i]'(by have := Hn.out; omega) = x := ⟨_, rfl⟩
      have hxm : x ∈ rs := by rw [← hx]; exact List.getElem_mem _
      have htk : rs.take (i + 1) = rs.take i ++ [x] := by rw [List.take_succ_eq_append_getElem (by have := Hn.out; omega), hx]
      obtain ⟨hA1, hA2, hA3⟩ := HA.out
      obtain ⟨g, o, hao, hcs⟩ := hA1.resolve_left (fun h => by rw [h] at hxm; simp at hxm)
      subst hao
      have hRA : ∀ {w'}, At w0 RR w' → At w0 R w' := fun {w'} h => by rw [← HRR.out] at h; exact h.r
      have hcel : ∀ j u, x.cs[j]? = some u → wr.cell? ⟨g, o + i * 8 + j, none⟩ = some u := fun j u hu => by
        rw [Nat.add_assoc]
        refine hcs wr (hRA h5.r.r.r) (i * 8 + j) u ?_
        have hj : j < 8 := by rw [← x.cs_len]; exact (List.getElem?_eq_some_iff.1 hu).1
        rw [flat_at (fun y _ => y.cs_len) i j (by have := Hn.out; omega) hj, hx]
        exact hu
      have hx3 := hA3 x hxm
      have hx2 := fun w' (h' : At w0 RR w') => hA2 x hxm w' (hRA h')
      have Hx3 := hide hx3
      have Hx2 := hide hx2
      have Htk := hide htk
      obtain ⟨ys, hys⟩ : ∃ ys, x.cs = ys := ⟨_, rfl⟩
      have hyl : ys.length = 8 := by rw [← hys]; rfl
      have hyo : ys.toArray.all (·.oneCell') = true := by rw [← hys]; exact x.one
      rw [hys] at hcel
      have Hys := hide hys
      have Hyo := hide hyo
      have Hyl := hide hyl
      obtain ⟨N, hN⟩ : ∃ N, wr.heap.size = N := ⟨_, rfl⟩
      have h6 := h5.alloc' hN (.cells (List.toArray [.int .i64 0, .int .i64 0, .int .i64 0, .int .i64 0, .string ⟨#[]⟩, .string ⟨#[]⟩, .string ⟨#[]⟩, .slice none 0 0]) 52)
      obtain ⟨acc, hacc⟩ : ∃ acc, encs (rs.take i) = acc := ⟨_, rfl⟩
      rw [hacc] at h5 h6 ⊢
      have Hacc := hide hacc
      have hilz : (i : Int) < (n : Int) := by omega
      clear hA1 hA2 hA3 hcs hx3 hx2 htk hys hyo hyl hacc hx
      go_upto_region 5 with fail
      refine wp_region_lit ?_
      refine wpList_value rfl (v := .pointer (some ⟨g, o + i * 8, none⟩)) (by go_simp) ?_
      refine wpList_load_agg rfl (.tmp 23) 52 rfl _ Try.underlying52 rfl (ys := ys) (by rw [Hyl.out]; kernel_rfl) (g := g) (off := o + i * 8) (by go_simp) hcel ?_
      refine wpList_alloc_at rfl _ rfl (Try.zeroRec wr) ?_
      rw [hN]
      refine wpList_store_at rfl (.tmp 8) (.tmp 24) _ rfl (g := N) (ys := ys) (by go_simp) (by go_simp) (by rw [Hyl.out]; kernel_rfl) (by rw [Hyl.out]; rfl) Hyo.out h6 ?_
      intro w7 h7
      clear h5 h6 hcel hN
      go_upto_region 6 with fail
      have hrt := recRight_any w0 w7 _ x.1 x.2.1 x.2.2 h7
      change Calls _ _ #[.agg x.cs.toArray] _ _ at hrt
      rw [Hys.out] at hrt
      refine wp_region_lit ?_
      refine wpList_load_agg rfl (.tmp 8) 52 rfl _ Try.underlying52 rfl (ys := ys) (by rw [Hyl.out]; kernel_rfl) (g := N) (off := 0) (by go_simp) (fun j u hu => by rw [Nat.zero_add]; exact At.cell h7 (by simpa using hu)) ?_
      go_wp2_with fail
      refine hrt.mono ?_
      rintro e w8 ⟨rfl, h8⟩
      clear hrt h7
      cases hxr : x.1.right with
      | false =>
        have e0 : L.anew m r rs = (1, L, m) := by
          unfold Ln.anew
          rw [if_pos]
          unfold allRight
          rw [List.all_eq_false]
          exact ⟨x, hxm, by rw [hxr]; simp⟩
        have E0 := hide e0
        clear e0
        go_wp2_with fail
        go_ret
        rw [E0.out]
        refine ⟨rfl, ?_⟩
        have h9 := h8.r.r
        rw [← HC.out, ← HRR.out] at h9
        refine At.lan_shut HL.out (h9.cast (by ac_rfl))
      | true =>
        have hfair := Rec.fair hxr Hx3.out
        have hel := Rec.enc_len hfair
        have hen := recEncode_any w0 w8 _ x.1 x.2.1 x.2.2 hfair (fun w' hw' => Hx2.out w' hw'.r.r.r.r) h8
        change Calls _ _ #[.agg x.cs.toArray] _ _ at hen
        rw [Hys.out] at hen
        have hal : acc.length ≤ 80000000 := by
          have := Hri.out.2
          rw [Hacc.out] at this
          omega
        have hacc2 : encs (rs.take (i + 1)) = acc ++ x.1.enc := by
          rw [Htk.out, ← Hacc.out]
          unfold encs
          rw [List.flatMap_append]
          simp
        have Hacc2 := hide hacc2
        obtain ⟨q, hq⟩ : ∃ q, x.1.enc = q := ⟨_, rfl⟩
        rw [hq] at hen hel Hacc2
        clear hfair hacc2 hq
        go_upto_region 8 with fail
        refine wp_region_lit ?_
        refine wpList_value rfl (v := .slice ar acc.length cp) (by go_simp) ?_
        refine wpList_load_agg rfl (.tmp 8) 52 rfl _ Try.underlying52 rfl (ys := ys) (by rw [Hyl.out]; kernel_rfl) (g := N) (off := 0) (by go_simp) (fun j u hu => by rw [Nat.zero_add]; exact At.cell h8 (by simpa using hu)) ?_
        go_wp2_with fail
        refine hen.mono ?_
        rintro e w9 ⟨a9, c9, rfl, h9⟩
        have h10 := h9.pull3
        have hs10 := h10.pull2.rd
        clear hen h8 h9
        go_wp2_with (at_builtin; go_loud (refine wpList_append_rdm rfl _ _ _ rfl 5 i0 _ 1 Try.underlying32 Hi.out hz0 hz1 hz2 rfl rfl rfl h10 hs10 (bys_one _) (by rw [bys_len]; unfold maxLen; omega) (by rw [bys_len]; omega) (acc.length + q.length) (bys (acc ++ q)) (by rw [bys_len]) (by rw [bys_append]) ?_))
        intro a10 c10 w10 h11
        have h12 := h11.cast (show _ = row 5 1 (.slice a10 (acc.length + q.length) c10) (acc.length + q.length) (bys (acc ++ q)) * (cel p C 84 * (dsk d m * RR)) * (row 5 1 (.slice a9 q.length c9) q.length (bys q) * cel N ys.toArray 52) by ac_rfl)
        clear h10 hs10 h11
        go_wp2_with fail
        go_roundw
        case rel =>
          refine ⟨i + 1, a10, c10, by omega, by go_num, ?_, hide ⟨?_, ?_⟩, ?_⟩
          · rw [Hacc2.out, List.length_append]
          · rw [Htk.out]
            intro y hy
            rcases List.mem_append.1 hy with h | h
            · exact Hri.out.1 y h
            · rw [List.mem_singleton.1 h]; exact hxr
          · rw [Hacc2.out, List.length_append]
            have := Hri.out.2
            rw [Hacc.out] at this
            omega
          · rw [Hacc2.out, List.length_append]; exact h12.l
        case measure => simp [intOf]; omega
    · obtain rfl : i = n := by omega
      have htk : rs.take i = rs := by rw [← Hn.out, List.take_length]
      rw [htk] at h5 Hri ⊢
      have hall : allRight rs = true := by
        unfold allRight
        rw [List.all_eq_true]
        exact Hri.out.1
      obtain ⟨b, hb⟩ : ∃ b, encs rs = b := ⟨_, rfl⟩
      rw [hb] at h5 ⊢
      have hbl : b.length ≤ 80000000 := by have := Hri.out.2; rw [hb] at this; omega
      have Hall := hide hall
      have Hb := hide hb
      clear htk hall hb Hri Hh3
      by_cases hq : 14336 < b.length
      · have e0 : L.anew m r rs = (7, L, m) := by
          unfold Ln.anew
          rw [if_neg (by rw [Hall.out]; simp), Hb.out, if_pos hq]
        have E0 := hide e0
        have hqz : 14336 < (b.length : Int) := by omega
        clear e0 hq
        go_wp2_with fail
        go_ret
        rw [E0.out]
        refine ⟨rfl, ?_⟩
        have h9 := h5.r
        rw [← HC.out, ← HRR.out] at h9
        exact At.lan_shut HL.out (h9.cast (by ac_rfl))
      · have e0 : L.anew m r rs = ((m.anew r bk (L.gen + 1) b).1, if (m.anew r bk (L.gen + 1) b).1 = 0 then ⟨L.gen + 1, bk, b, b.length⟩ else L, (m.anew r bk (L.gen + 1) b).2) := by
          unfold Ln.anew
          rw [if_neg (by rw [Hall.out]; simp), Hb.out, if_neg hq, Hbk.out]
        have hqz : ¬ (14336 < (b.length : Int)) := by omega
        have hC0 : C[0]? = some (.pointer (some ⟨d, 0, none⟩)) := by rw [← HC.out]; rfl
        have hC1 : C[1]? = some (.int .i64 r) := by rw [← HC.out]; rfl
        have hC2 : C[2]? = some (.int .u64 L.gen) := by rw [← HC.out]; rfl
        have hfi := laneFirst_any wr.drew bk hbkl
        have h6 := h5.drew.cast (show _ = dsk d m * (cel p C 84 * (row 5 1 (.slice ar b.length cp) b.length (bys b) * RR)) by ac_rfl)
        change Calls _ _ _ _ (fun e w' => e = .returned (.int .i64 (fst bk : Nat)) ∧ wr.drew = w') at hfi
        have hwp := laneWipe_any w0 wr.drew _ d m r (fst bk) (fst bk + 256) Hr.out (by unfold fst; omega) (by unfold fst; omega) (by have := Hw.out; omega) h6
        unfold Dk.anew at e0
        have hk1 := m.wipe_keeps r (fst bk) (fst bk + 256)
        obtain ⟨P1, hP1⟩ : ∃ P1, m.wipe r (fst bk) (fst bk + 256) = P1 := ⟨_, rfl⟩
        rw [hP1] at hwp e0 hk1
        have hfl : fst bk ≤ 258 := by unfold fst; omega
        have hk1' : P1.2.writes ≤ 800000256 := by have := hk1.2.2; have := Hw.out; omega
        have hrP : r < P1.2.regs.length := by rw [hk1.1]; exact Hr.out
        obtain ⟨f, hf⟩ : ∃ f, fst bk = f := ⟨_, rfl⟩
        rw [hf] at hwp hfi hfl
        rw [Int.natCast_add] at hwp
        change Calls _ _ #[_, _, _, .int .i64 ((f : Int) + 256)] _ _ at hwp
        have hwf := IntWalk.i64_in ((f : Int) + 256) (by omega)
        have q0 : wr.drew.cell? ⟨p, 0, none⟩ = some (.pointer (some ⟨d, 0, none⟩)) := At.cell h6.pull2 hC0
        have q1 : wr.drew.cell? ⟨p, 1, none⟩ = some (.int .i64 r) := At.cell h6.pull2 hC1
        have E0 := hide e0
        have HP1 := hide hP1
        have HC2 := hide hC2
        have HrP := hide hrP
        have Hk1 := hide hk1'
        clear e0 hP1 hq hk1 h5 hC2 hf hrP hk1'
        go_wp2_with fail
        go_region_held3 (fun w' => w'.cell? ⟨p, 0, none⟩ = some (.pointer (some ⟨d, 0, none⟩)) ∧ w'.cell? ⟨p, 1, none⟩ = some (.int .i64 r)) (first | exact ⟨q0, q1⟩ | exact ⟨At.cell h13.pull2 hC0, At.cell h13.pull2 hC1⟩) (first | ((with_reducible refine hfi.mono ?_); rintro e w5 ⟨rfl, rfl⟩) | ((with_reducible refine hwp.mono ?_); rintro e w6 ⟨rfl, h13⟩))
        clear h6 hwp hfi q0 q1 hwf
        have hexit : ∀ (P : Nat × Dk) (w' : World), P.1 ≠ 0 → L.anew m r rs = (P.1, if P.1 = 0 then ⟨L.gen + 1, bk, b, b.length⟩ else L, P.2) → At w0 (cel p C 84 * (dsk d P.2 * (row 5 1 (.slice ar b.length cp) b.length (bys b) * RR))) w' →
            (L.anew m r rs).1 = P.1 ∧ At w0 (lan p d r (L.anew m r rs).2.1 * (dsk d (L.anew m r rs).2.2 * R)) w' := fun P w' hne he h => by
          rw [he, if_neg hne]
          refine ⟨rfl, ?_⟩
          have h9 := (h.cast (show _ = cel p C 84 * (dsk d P.2 * RR) * row 5 1 (.slice ar b.length cp) b.length (bys b) by ac_rfl)).l
          rw [← HC.out, ← HRR.out] at h9
          exact At.lan_shut HL.out (h9.cast (by ac_rfl))
        have Hexit := hide hexit
        clear hexit
        by_cases he1 : P1.1 = 0
        · rw [thenD_0 he1] at E0
          have h14 := h13.pull2
          have hly := laneLay_any w0 w6 (row 5 1 (.slice ar b.length cp) b.length (bys b) * RR) p d r L (.slice va L.b.length vc) P1.2 bk (L.gen + 1) ar cp b 0 HrP.out hbkl Hg.out (by omega) (by omega) (by have := Hk1.out; omega) (fun w' h' => h'.rd) (by rw [HC.out]; exact h14)
          rw [HC.out] at hly
          have hk2 := P1.2.lay_keeps r bk (L.gen + 1) b 0
          have hns := nsec_le (n := b.length) (by omega)
          obtain ⟨P2, hP2⟩ : ∃ P2, P1.2.lay r bk (L.gen + 1) b 0 = P2 := ⟨_, rfl⟩
          rw [hP2] at hly E0 hk2
          have hk2' : P2.2.writes ≤ 800000512 := by have := hk2.2.2; have := Hk1.out; omega
          have hrP : r < P2.2.regs.length := by rw [hk2.1]; exact HrP.out
          have HrP2 := hide hrP
          have Hk2 := hide hk2'
          rw [Int.natCast_add] at hly
          change Calls _ _ #[_, _, .int .u64 ((L.gen : Int) + 1), _, .int .i64 0] _ _ at hly
          have hgw := wrap_u64 (x := (L.gen : Int) + 1) (by omega) (by have := Hg.out; omega)
          have q2 : w6.cell? ⟨p, 2, none⟩ = some (.int .u64 L.gen) := At.cell h14 HC2.out
          have he1z : (P1.1 : Int) = 0 := by omega
          rw [he1z]
          clear hP2 hk2 hns hk2' hrP h13 he1z
          go_wp2_with fail
          refine hly.mono ?_
          rintro e w7 ⟨rfl, h15⟩
          clear hly h14 q2
          by_cases he2 : P2.1 = 0
          · rw [thenD_0 he2] at E0
            have he2z : (P2.1 : Int) = 0 := by omega
            rw [he2z]
            have q2 : w7.cell? ⟨p, 2, none⟩ = some (.int .u64 L.gen) := At.cell h15 HC2.out
            have ht1 := packPut_m w0 w7 _ (.slice none 0 0) [] 4 (L.gen + 1) 4 (be 4 (L.gen + 1)) rfl rfl (by decide) (by have := Hg.out; omega) (by simp) h15 (Rd.nil w7)
            rw [Int.natCast_add] at ht1
            change Calls _ _ #[_, .int .i64 4, .int .u64 ((L.gen : Int) + 1)] _ _ at ht1
            clear he2z
            go_wp2_with fail
            refine ht1.mono ?_
            rintro e w8 ⟨a8, c8, rfl, h16⟩
            have hbw2 := wrap_u64 (x := (bk : Int)) (by omega) (by omega)
            obtain ⟨hd, hhd⟩ : ∃ hd, be 4 (L.gen + 1) ++ be 1 bk = hd := ⟨_, rfl⟩
            have hdl : hd.length = 5 := by rw [← hhd, List.length_append, be_len, be_len]
            have ht2 := packPut_m w0 w8 _ (.slice a8 4 c8) (be 4 (L.gen + 1)) 1 bk hd.length hd (by rw [hdl, be_len]) hhd.symm (by decide) (by omega) (by rw [be_len]; omega) h16 h16.rd
            change Calls _ _ #[_, .int .i64 1, _] _ _ at ht2
            rw [hhd] at E0
            clear ht1 q2 h15 hhd
            go_wp2_with fail
            refine ht2.mono ?_
            rintro e w9 ⟨a9, c9, rfl, h17⟩
            have h18 := h17.drew.cast (show _ = dsk d P2.2 * (row 5 1 (.slice a9 hd.length c9) hd.length (bys hd) * (cel p C 84 * (row 5 1 (.slice ar b.length cp) b.length (bys b) * (RR * row 5 1 (.slice a8 4 c8) 4 (bys (be 4 (L.gen + 1))))))) by ac_rfl)
            have hw3 := diskWr_any w0 w9.drew _ d P2.2 r 1 a9 c9 hd (by omega) (fun w' h' => h'.rd) HrP2.out (by have := Hk2.out; omega) h18
            have hk3 := P2.2.wr_keeps r 1 hd
            obtain ⟨P3, hP3⟩ : ∃ P3, P2.2.wr r 1 hd = P3 := ⟨_, rfl⟩
            rw [hP3] at hw3 hk3 E0
            change Calls _ _ #[_, _, .int .i64 1, _] _ _ at hw3
            have hrP3 : r < P3.2.regs.length := by rw [hk3.1]; exact HrP2.out
            have hk3' : P3.2.writes ≤ 1000000000 := by have := hk3.2.2; have := Hk2.out; omega
            have hC0 : C[0]? = some (.pointer (some ⟨d, 0, none⟩)) := by rw [← HC.out]; rfl
            have hC1 : C[1]? = some (.int .i64 r) := by rw [← HC.out]; rfl
            have q0 : w9.drew.cell? ⟨p, 0, none⟩ = some (.pointer (some ⟨d, 0, none⟩)) := At.cell h18.pull3 hC0
            have q1 : w9.drew.cell? ⟨p, 1, none⟩ = some (.int .i64 r) := At.cell h18.pull3 hC1
            have HrP3 := hide hrP3
            have Hk3 := hide hk3'
            clear ht2 h16 h17 hP3 hk3 hrP3 hk3' hdl hbw2
            go_wp2_with fail
            go_region_held3 (fun w' => w'.cell? ⟨p, 0, none⟩ = some (.pointer (some ⟨d, 0, none⟩)) ∧ w'.cell? ⟨p, 1, none⟩ = some (.int .i64 r)) (first | exact ⟨q0, q1⟩ | exact ⟨At.cell h19.pull3 hC0, At.cell h19.pull3 hC1⟩) (first | ((with_reducible refine hw3.mono ?_); rintro e w10 ⟨rfl, h19⟩))
            have h20 := (h19.cast (show _ = dsk d P3.2 * (cel p C 84 * (row 5 1 (.slice ar b.length cp) b.length (bys b) * RR)) * (row 5 1 (.slice a9 hd.length c9) hd.length (bys hd) * row 5 1 (.slice a8 4 c8) 4 (bys (be 4 (L.gen + 1)))) by ac_rfl)).l
            clear h18 h19 q0 q1 hw3
            by_cases he3 : P3.1 = 0
            · rw [thenD_0 he3] at E0
              have he3z : (P3.1 : Int) = 0 := by omega
              rw [he3z]
              have h21 := h20.drew
              have hb4 := diskBar_any w0 w10.drew _ d P3.2 r HrP3.out Hk3.out h21
              obtain ⟨P4, hP4⟩ : ∃ P4, P3.2.bar r = P4 := ⟨_, rfl⟩
              rw [hP4] at hb4 E0
              have q0 : w10.drew.cell? ⟨p, 0, none⟩ = some (.pointer (some ⟨d, 0, none⟩)) := At.cell h21.pull2 hC0
              have q1 : w10.drew.cell? ⟨p, 1, none⟩ = some (.int .i64 r) := At.cell h21.pull2 hC1
              clear he3z hP4 h20
              go_wp2_with fail
              go_region_held3 (fun w' => w'.cell? ⟨p, 0, none⟩ = some (.pointer (some ⟨d, 0, none⟩)) ∧ w'.cell? ⟨p, 1, none⟩ = some (.int .i64 r)) (first | exact ⟨q0, q1⟩ | exact ⟨At.cell h22.pull2 hC0, At.cell h22.pull2 hC1⟩) (first | ((with_reducible refine hb4.mono ?_); rintro e w11 ⟨rfl, h22⟩))
              have h23 := h22.pull2
              clear h21 h22 hb4 q0 q1
              by_cases he4 : P4.1 = 0
              · have he4z : (P4.1 : Int) = 0 := by omega
                rw [he4z]
                rw [← HC.out] at h23
                have q2 : w11.cell? ⟨p, 2, none⟩ = some (.int .u64 L.gen) := At.cell h23 rfl
                have q3 : w11.cell? ⟨p, 3, none⟩ = some (.int .i64 L.bank) := At.cell h23 rfl
                have q4 : w11.cell? ⟨p, 4, none⟩ = some (.slice va L.b.length vc) := At.cell h23 rfl
                have q5 : w11.cell? ⟨p, 5, none⟩ = some (.int .i64 L.sure) := At.cell h23 rfl
                have f2 := At.frz h23 2
                have f3 := At.frz h23 3
                have f4 := At.frz h23 4
                have f5 := At.frz h23 5
                have fl := At.lt h23
                clear he4z
                go_wp2_with fail
                go_ret
                rw [E0.out, if_pos he4]
                refine ⟨by rw [he4]; rfl, ?_⟩
                have h24 := (((h23.set 2 (.int .u64 ((L.gen : Int) + 1))).set 3 (.int .i64 bk)).set 4 (.slice ar b.length cp)).set' (d := (⟨L.gen + 1, bk, b, b.length⟩ : Ln).cells d r (.slice ar b.length cp)) 5 (.int .i64 b.length) rfl
                refine At.lan_shut (L := ⟨L.gen + 1, bk, b, b.length⟩) (vb := .slice ar b.length cp) ⟨Hg.out, hbkl, by show b.length ≤ 14336; omega, Nat.le_refl _⟩ ?_
                rw [← HRR.out] at h24
                exact (h24.cast (show _ = cel p ((⟨L.gen + 1, bk, b, b.length⟩ : Ln).cells d r (.slice ar b.length cp)) 84 * (row 5 1 (.slice ar b.length cp) b.length (bys b) * (dsk d P4.2 * R)) * row 5 1 (.slice va L.b.length vc) L.b.length (bys L.b) by ac_rfl)).l
              · have hne : ¬ ((P4.1 : Int) = 0) := by omega
                go_wp2_with fail
                go_ret
                have := Hexit.out P4 w11 he4 E0.out h23
                rw [this.1]
                exact ⟨rfl, this.2⟩
            · rw [thenD_e he3] at E0
              have hne : ¬ ((P3.1 : Int) = 0) := by omega
              go_wp2_with fail
              go_ret
              have := Hexit.out P3 w10 he3 E0.out h20.pull2
              rw [this.1]
              exact ⟨rfl, this.2⟩
          · rw [thenD_e he2] at E0
            have hne : ¬ ((P2.1 : Int) = 0) := by omega
            go_wp2_with fail
            go_ret
            have := Hexit.out P2 w7 he2 E0.out h15
            rw [this.1]
            exact ⟨rfl, this.2⟩
        · rw [thenD_e he1] at E0
          have hne : ¬ ((P1.1 : Int) = 0) := by omega
          go_wp2_with fail
          go_ret
          have := Hexit.out P1 w6 he1 E0.out h13.pull2
          rw [this.1]
          exact ⟨rfl, this.2⟩
end Go.Proofs.Ytmlifjfgelfbbaa
