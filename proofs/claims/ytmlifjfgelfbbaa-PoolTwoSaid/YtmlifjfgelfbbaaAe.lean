/-
  No page stands on the disk that the sure part of the log doesn't tell of: plain laws; Open by a lane's state and what it leaves alone. No statement.
-/
import Derived.Test.YtmlifjfgelfbbaaKv
import Derived.Test.YtmlifjfgelfbbaaPsi
namespace Go.Proofs.Ytmlifjfgelfbbaa
open Go Go.RowKit

/-! ### Open leaves the pages alone -/
theorem Dk.opens_pages {m m' : Dk} (hm : m.Wf) {r : Nat} (hr : r < m.regs.length) (hsz : 514 ≤ m.size) (hw : m.wts r = []) (hu : m.armd r = false) {L : Ln} {l : List (Nat × Rec)} (h : m.opens r = (0, some (L, l), m')) (hL : L.sure = L.b.length) (hb : L.b.length ≤ 14336) : PgSame m m' r := by
  unfold Dk.opens at h
  simp only at h
  obtain ⟨gen, hgen⟩ : ∃ gen, num ((m.sec r 1).take 4) = gen := ⟨_, rfl⟩
  obtain ⟨bank, hbank⟩ : ∃ bank, num (((m.sec r 1).drop 4).take 1) % 2 = bank := ⟨_, rfl⟩
  have hbk : bank ≤ 1 := by omega
  rw [hgen, hbank] at h
  obtain ⟨al, hal⟩ : ∃ al, strm m r (fst bank) gen 256 0 = al := ⟨_, rfl⟩
  rw [hal] at h
  obtain ⟨q, hq⟩ : ∃ q, opn gen al (al.length + 1) 0 = q := ⟨_, rfl⟩
  rw [hq] at h
  obtain ⟨q1, q2⟩ := q
  simp only at h
  clear hgen hbank hal hq
  split at h
  · simp at h
  split at h
  · simp at h
  rename_i h0
  have h0 : (m.wipe r (fst bank + nsec q2) (fst bank + 256)).1 = 0 := Decidable.of_not_not h0
  obtain ⟨P2, hP2⟩ : ∃ P2, (if q2 < al.length ∧ 0 < q2 % 56 then (m.wipe r (fst bank + nsec q2) (fst bank + 256)).2.lay r bank gen (al.take q2) q2 else (0, (m.wipe r (fst bank + nsec q2) (fst bank + 256)).2)) = P2 := ⟨_, rfl⟩
  rw [hP2] at h
  split at h
  · simp at h
  simp only [Prod.mk.injEq, Option.some.injEq, true_and] at h
  obtain ⟨⟨rfl, rfl⟩, rfl⟩ := h
  simp only at hL hb
  have hq2 : q2 ≤ al.length := by rw [List.length_take] at hL; omega
  have hq3 : q2 ≤ 14336 := by omega
  have hns : nsec q2 ≤ 256 := nsec_le hq3
  have hfb : fst bank ≤ 258 := by unfold fst; omega
  have hlaid := Dk.wipe_laid hm (s := fst bank + nsec q2) (t := fst bank + 256) hr (by omega) (by omega)
  have hdat := Dk.wipe_dat hm (s := fst bank + nsec q2) (t := fst bank + 256) hr (by omega) (by omega) h0
  have hwk := m.wipe_keeps r (fst bank + nsec q2) (fst bank + 256)
  obtain ⟨P1, hP1⟩ : ∃ P1, m.wipe r (fst bank + nsec q2) (fst bank + 256) = P1 := ⟨_, rfl⟩
  rw [hP1] at hlaid hdat hwk h0 hP2
  have o1 := (hlaid.ok h0).1
  have hrP : r < P1.2.regs.length := by rw [hwk.1]; exact hr
  have hp1 : ∀ s, 514 ≤ s → s < m.size → P1.2.dat r s = m.dat r s := fun s hs1 hs2 => by
    rw [hdat s hs2, if_neg (by omega), Dk.sec_nil hw]
  intro s hs1 hs2
  rw [← hP2]
  split
  · have hl2 : (al.take q2).length = q2 := by rw [List.length_take]; omega
    have hll := Dk.lay_laid hlaid.wf (bank := bank) (gen := gen) (fr := q2) (bs := al.take q2) hrP hbk (by omega) (by omega) (by rw [hwk.2.1]; exact hsz)
    have hl0 := hll.un (by rw [hlaid.armd]; exact hu)
    have hlo := Dk.lay_dat_out hlaid.wf (bank := bank) (gen := gen) (fr := q2) (bs := al.take q2) hrP hbk (by omega) (by omega) (by rw [hwk.2.1]; exact hsz) hl0 s (by rw [hwk.2.1]; exact hs2) (by omega)
    rw [hlo, Dk.sec_nil o1]
    exact hp1 s hs1 hs2
  · exact hp1 s hs1 hs2
theorem laneOpen_pg (w0 w : World) (R : HP) (d r : Nat) (m : Dk) {L : Ln} {all : List Rec} {k : Nat} (hs : LSt m r L all k) (hu : m.armd r = false) (hwn : m.writes ≤ 800000000) (h : At w0 (dsk d m * R) w) :
    Calls Try.prog 25 #[.pointer (some ⟨d, 0, none⟩), .int .i64 r] w fun e w' => ∃ (P : Nat) (a : Option Addr) (n c : Nat) (L' : Ln) (F : HP) (m' : Dk), e = .returned (.tuple #[.pointer (some ⟨P, 0, none⟩), .slice a n c, .int .i64 0]) ∧
      LSt m' r L' (all.take k) (all.take k).length ∧ L'.gen = L.gen ∧ L'.bank = L.bank ∧ Same m m' r ∧ PgSame m m' r ∧ m'.armd r = false ∧ m'.writes ≤ m.writes + 600 ∧ At w0 (lan P d r L' * (F * (dsk d m' * R))) w' := by
  have hr := hs.rest
  obtain ⟨m', h2, h3, h4, h5, h6⟩ := opens_rest hr.wf hr.hr hr.size hr.wts hu hr.gen0 hr.gen1 hr.bankle hr.len (fun x hx => hs.good x (List.mem_of_mem_take hx)) hs.rest'
  have hpg := Dk.opens_pages hr.wf hr.hr hr.size hr.wts hu h2 rfl hr.len
  have := laneOpen_any w0 w R d r m hr.hr hr.size hwn h
  rw [h2] at this
  refine this.mono ?_
  rintro e w' ⟨P, es, a, c, rfl, _, hA⟩
  exact ⟨P, a, _, c, _, row 123 9 (.slice a (places L.gen 0 (all.take k)).length c) (places L.gen 0 (all.take k)).length (es.flatMap EntV.cs) * dirts es, m', rfl, h3, rfl, rfl, h4, hpg, h5, h6, hA.cast (by ac_rfl)⟩

/-! ### The disk's pages and the log -/
/-- The pages on the disk are blank but for their marks, and these lie ahead of the end of what is sure. -/
def DOk (m : Dk) (g : Nat) (all : List Rec) (k : Nat) : Prop := ∀ n, n < 6 → ∃ mk, mk < g * 1048576 + (encR (all.take k)).length + 1 ∧ m.page 0 n = (⟨mk, 0, n, zs 200⟩ : Pg).enc
/-- So the pages that the pool stands for, by all that is in the log. -/
def MOk (C : Nat → Pg) (g : Nat) (all : List Rec) : Prop := ∀ n, n < 6 → C n = ⟨(C n).mark, 0, n, zs 200⟩ ∧ (C n).mark < g * 1048576 + (encR all).length + 1
theorem DOk.grow {m : Dk} {g : Nat} {all l : List Rec} {k : Nat} (h : DOk m g all k) (hk : k ≤ all.length) : DOk m g (all ++ l) k := fun n hn => by
  obtain ⟨mk, h1, h2⟩ := h n hn
  exact ⟨mk, by rw [List.take_append_of_le_length hk]; exact h1, h2⟩
theorem MOk.good {C : Nat → Pg} {g : Nat} {all : List Rec} (h : MOk C g all) (hl : (encR all).length ≤ 14336) (hg : g < 4294967296) : KGood C := fun n hn => by
  obtain ⟨e, h1⟩ := h n hn
  rw [e]
  refine ⟨⟨zs_len 200, show (C n).mark < 2 ^ 64 by omega, show (0 : Nat) < 65536 by decide, show n < 65536 by omega⟩, rfl, rfl, fun _ => rfl, fun i hi => ?_⟩
  show rowSt (slotAt (zs 200) i) ≠ 9
  rcases show i = 0 ∨ i = 1 ∨ i = 2 ∨ i = 3 ∨ i = 4 by omega with rfl | rfl | rfl | rfl | rfl <;> decide
theorem PgWr.dok {m m' : Dk} {L L' : Ln} {all : List Rec} {k g : Nat} {C : Nat → Pg} {n : Nat} (hw : PgWr m m' 0 L L' all (C n)) (hM : MOk C g all) (hd : DOk m g all k) (hn : n < 6) (hsz : m.size = 538) : DOk m' g all all.length := fun q hq => by
  obtain ⟨e, h1⟩ := hM n hn
  have hnum : (C n).number = n := congrArg Pg.number e
  rw [List.take_length]
  by_cases he : q = n
  · subst he
    refine ⟨(C q).mark, h1, ?_⟩
    have := hw.page
    rw [hnum] at this
    rw [this, ← e]
  · obtain ⟨mk, h2, h3⟩ := hd q hq
    have := encR_take_le all k
    exact ⟨mk, by omega, (hw.other q (by rw [hnum]; exact he) (by rw [hsz]; unfold pgAt; omega)).trans h3⟩
theorem room_dok {D l : Nat} {P P' : PoS} {m m' : Dk} {C : Nat → Pg} {L L' : Ln} {all : List Rec} {k w j : Nat} (h : KInv D l P m C) (hl : LdOk m L all k w) (hM : MOk C L.gen all) (hd : DOk m L.gen all k) (hr : RoomRel P P' j m m' L L' all) :
    ∃ k', LdOk m' L' all k' (w + 260) ∧ DOk m' L.gen all k' := by
  obtain ⟨b1, b2, b3, b4⟩ := h.base
  rcases hr with ⟨hf, rfl, rfl, rfl⟩ | ⟨_, hev, hrel⟩
  · exact ⟨k, ⟨hl.st, hl.armd, by have := hl.writes; omega, hl.size, hl.regs⟩, hd⟩
  · rcases hrel with ⟨hs0, rfl, rfl⟩ | ⟨_, pj, hpj, hw⟩
    · exact ⟨k, ⟨hl.st, hl.armd, by have := hl.writes; omega, hl.size, hl.regs⟩, hd⟩
    · rw [b2] at hw
      obtain ⟨h1, h2⟩ := h.pages j hev.j3 pj hpj
      rw [h2] at hw
      exact ⟨_, ⟨hw.st, hw.armd, by have := hw.writes; have := hl.writes; omega, hw.same.size.trans hl.size, hw.same.regs.trans hl.regs⟩, hw.dok hM hd h1 hl.size⟩
/-- Get, by what the pool stands for, and what is on the disk. -/
theorem KInv.get2 {D l : Nat} {P : PoS} {m : Dk} {C : Nat → Pg} (w0 w : World) (R : HP) (b q : Nat) {L : Ln} {all : List Rec} {k ww : Nat} (h : KInv D l P m C) (hC : KGood C) (hl : LdOk m L all k ww) (hM : MOk C L.gen all) (hd : DOk m L.gen all k) (hww : ww ≤ 700000000) (hq : q < 6) (hA : At w0 (poB b P * (lan l D 0 L * (dsk D m * R))) w) :
    Calls Try.prog 13 #[.pointer (some ⟨b, 0, none⟩), .int .i64 q] w fun e w' => ∃ P1 i L1 m1 k1, e = .returned (.tuple #[.pointer (some ⟨(P1.fr i).blk, 0, none⟩), .int .i64 0]) ∧ KInv D l P1 m1 C ∧ P1.find q = some i ∧ LdOk m1 L1 all k1 (ww + 260) ∧ L1.gen = L.gen ∧ DOk m1 L.gen all k1 ∧
      At w0 (poB b P1 * (lan l D 0 L1 * (dsk D m1 * R))) w' := by
  obtain ⟨q1, q2, q3, q4⟩ := h.base
  cases hf : P.find q with
  | some i =>
    refine (poolGet_found w0 w _ b P q i hq hf hA).mono ?_
    rintro e w' ⟨rfl, h1⟩
    obtain ⟨g1, g2⟩ := h.found hf
    refine ⟨_, i, L, m, k, ?_, g1, g2, ⟨hl.st, hl.armd, by have := hl.writes; omega, hl.size, hl.regs⟩, rfl, hd, h1⟩
    rw [P.fr_set (PoS.find_some hf).1]
  | none =>
    have hg := poolGet_any w0 w R b P q (L := L) (m := m) (all := all) (kk := k) (by rw [q2]; exact hl.st) (by rw [q2]; exact hl.armd) (h.Pages hC) q4 (by rw [q2]; decide) hq (by have := hl.size; omega) (by have := hl.size; omega) (by have := hl.writes; omega) hf (by rw [q1, q2, q3]; exact hA)
    rw [q2, h.away q hq hf] at hg
    obtain ⟨d1, d2⟩ := hC.dec hq
    refine hg.mono ?_
    rintro e w' (⟨_, kb, P', j, L', m', rfl, hrel, h1⟩ | ⟨hno, _⟩)
    · rw [q2, d1, q1, q3] at h1
      obtain ⟨f1, f2, f3, f4, _, f6, _⟩ := room_facts h hl hrel
      obtain ⟨k', f5, f7⟩ := room_dok h hl hM hd hrel
      obtain ⟨hj3, _⟩ := hrel.out
      obtain ⟨g1, g2⟩ := h.come (kb := kb) hC hq hj3 hf f1 f2 f3 f4
      refine ⟨_, j, L', m', k', ?_, g1, g2, f5, f6, f7, h1⟩
      rw [P'.fr_set hj3]
    · rw [q2] at hno
      exact absurd (d2.symm.trans hno) (by decide)
/-- Flush, by what the pool stands for, and what is on the disk. -/
theorem KInv.flush {D l : Nat} {P : PoS} {m : Dk} {C : Nat → Pg} (w0 w : World) (R : HP) (b : Nat) (n : Int) {L : Ln} {all : List Rec} {k ww : Nat} (h : KInv D l P m C) (hC : KGood C) (hl : LdOk m L all k ww) (hM : MOk C L.gen all) (hd : DOk m L.gen all k) (hww : ww ≤ 700000000) (hA : At w0 (poB b P * (lan l D 0 L * (dsk D m * R))) w) :
    Calls Try.prog 18 #[.pointer (some ⟨b, 0, none⟩), .int .i64 n] w fun e w' => ∃ P1 L1 m1 k1, e = .returned (.int .i64 0) ∧ KInv D l P1 m1 C ∧ LdOk m1 L1 all k1 (ww + 260) ∧ L1.gen = L.gen ∧ DOk m1 L.gen all k1 ∧
      At w0 (poB b P1 * (lan l D 0 L1 * (dsk D m1 * R))) w' := by
  obtain ⟨q1, q2, q3, q4⟩ := h.base
  have hg := poolFlush_any w0 w R b P n (L := L) (m := m) (all := all) (kk := k) (by rw [q2]; exact hl.st) (by rw [q2]; exact hl.armd) (by have := hl.writes; omega) (by have := hl.size; omega) (by have := hl.size; omega) (h.Pages hC) (by rw [q1, q2, q3]; exact hA)
  refine hg.mono ?_
  rintro e w' ⟨L1, m1, rfl, hrel, h1⟩
  rw [q1, q2, q3] at h1
  cases hf : P.find n with
  | none =>
    have e1 : P.flushed n = P := by unfold PoS.flushed; rw [hf]
    rw [e1] at h1
    rcases hrel with ⟨_, rfl, rfl⟩ | ⟨_, i, p, hi, _⟩
    · exact ⟨P, L1, m1, k, rfl, h, ⟨hl.st, hl.armd, by have := hl.writes; omega, hl.size, hl.regs⟩, rfl, hd, h1⟩
    · rw [hf] at hi
      cases hi
  | some i =>
    obtain ⟨hi3, hh⟩ := PoS.find_some hf
    obtain ⟨p, hp, hnum, _⟩ := Fr.has_pg hh
    obtain ⟨hp6, hpC⟩ := h.pages i hi3 p hp
    have e1 : P.flushed n = P.setFr i { P.fr i with since := 0 } := by unfold PoS.flushed; rw [hf]
    rw [e1] at h1
    obtain ⟨b1, b2, b3, b4⟩ := P.set_base i { P.fr i with since := 0 }
    have hpgs : ∀ k, k < 3 → ((P.setFr i { P.fr i with since := 0 }).fr k).pg = (P.fr k).pg := fun k hk => by
      by_cases hki : k = i
      · subst hki
        rw [P.fr_set hk]
      · rw [P.fr_ne hi3 hk hki]
    have hfd : ∀ c, (P.setFr i { P.fr i with since := 0 }).find c = P.find c := fun c => by
      rcases three hi3 with rfl | rfl | rfl <;> rfl
    have core : ∀ m1 : Dk, (m1.page 0 p.number = (C p.number).enc) → (∀ c, c < 6 → c ≠ p.number → m1.page 0 c = m.page 0 c) → KInv D l (P.setFr i { P.fr i with since := 0 }) m1 C := fun m1 hm1 hm2 => by
      refine ⟨⟨b1.trans q1, b2.trans q2, b3.trans q3, by rw [b4]; exact q4⟩, ?_, ?_, ?_, ?_, ?_⟩
      · exact fun a ha x hx => h.pages a ha x (by rw [← hpgs a ha]; exact hx)
      · exact fun a c ha hc x y hx hy => h.uniq a c ha hc x y (by rw [← hpgs a ha]; exact hx) (by rw [← hpgs c hc]; exact hy)
      · intro a ha hx
        by_cases hai : a = i
        · subst hai
          rw [P.fr_set ha]
        · rw [P.fr_ne hi3 ha hai] at hx ⊢
          exact h.zero a ha hx
      · intro a ha x hx hs
        rw [hpgs a ha] at hx
        by_cases hai : a = i
        · subst hai
          rw [hp] at hx
          cases hx
          exact hm1
        · rw [P.fr_ne hi3 ha hai] at hs
          rw [hm2 _ (h.pages a ha x hx).1 fun he => hai (h.uniq a i ha hi3 x p hx hp he)]
          exact h.clean a ha x hx hs
      · intro c hc hx
        rw [hfd] at hx
        rw [hm2 c hc fun he => PoS.find_iff.1 hx i hi3 p hp (by rw [he])]
        exact h.away c hc hx
    rcases hrel with ⟨hcl, rfl, rfl⟩ | ⟨_, i', p', hi', hp', hw⟩
    · have hs0 : (P.fr i).since = 0 := by
        unfold PoS.clean at hcl
        rw [hf] at hcl
        simpa using hcl
      exact ⟨_, L1, m1, k, rfl, core m1 (h.clean i hi3 p hp hs0) (fun _ _ _ => rfl), ⟨hl.st, hl.armd, by have := hl.writes; omega, hl.size, hl.regs⟩, rfl, hd, h1⟩
    · rw [hf] at hi'
      cases hi'
      rw [hp] at hp'
      cases hp'
      rw [q2] at hw
      have hw1 := hw.page
      rw [hpC] at hw
      have hCn : (C p.number).number = p.number := by rw [← hpC]
      refine ⟨_, L1, m1, _, rfl, core m1 (by rw [← hpC]; exact hw1) (fun c hc hne => hw.other c (by rw [hCn]; exact hne) (by have := hl.size; unfold pgAt; omega)), ⟨hw.st, hw.armd, by have := hw.writes; have := hl.writes; omega, hw.same.size.trans hl.size, hw.same.regs.trans hl.regs⟩, hw.gen, hw.dok hM hd hp6 hl.size, h1⟩
/-- What a page on the disk answers who reads it. -/
theorem DOk.marks {m : Dk} {g : Nat} {all : List Rec} {k n : Nat} (h : DOk m g all k) (hn : n < 6) (hg : g < 4294967296) (hl : (encR (all.take k)).length ≤ 14336) : decOk (m.page 0 n) 0 n = true ∧ (Pg.dec (m.page 0 n) 0 n).mark < g * 1048576 + (encR (all.take k)).length + 1 := by
  obtain ⟨mk, h1, h2⟩ := h n hn
  have hw : (⟨mk, 0, n, zs 200⟩ : Pg).Wf := ⟨zs_len 200, show mk < 2 ^ 64 by omega, show (0 : Nat) < 65536 by decide, show n < 65536 by omega⟩
  have := Pg.dec_enc hw (fun _ => rfl) fun i hi => by
    show rowSt (slotAt (zs 200) i) ≠ 9
    rcases show i = 0 ∨ i = 1 ∨ i = 2 ∨ i = 3 ∨ i = 4 by omega with rfl | rfl | rfl | rfl | rfl <;> decide
  rw [h2]
  obtain ⟨e1, e2⟩ := this
  exact ⟨e2, by rw [show Pg.dec (⟨mk, 0, n, zs 200⟩ : Pg).enc 0 n = _ from e1]; exact h1⟩
theorem Dk.page_of {m m' : Dk} {n : Nat} (hn : n < 6) (hsz : m.size = 538) (h0 : m.wts 0 = []) (h1 : m'.wts 0 = []) (h : ∀ s, 514 ≤ s → s < m.size → m'.dat 0 s = m.dat 0 s) : m'.page 0 n = m.page 0 n := by
  have e : ∀ j, j < 4 → m'.sec 0 (pgAt n + j) = m.sec 0 (pgAt n + j) := fun j hj => by
    rw [Dk.sec_nil h0, Dk.sec_nil h1, h _ (by unfold pgAt; omega) (by rw [hsz]; unfold pgAt; omega)]
  have e0 := e 0 (by decide)
  rw [Nat.add_zero] at e0
  unfold Dk.page
  rw [e0, e 1 (by decide), e 2 (by decide), e 3 (by decide)]
theorem DOk.crash {m : Dk} {g : Nat} {all : List Rec} {k mask : Nat} (h : DOk m g all k) (hm : m.Wf) (hw : m.wts 0 = []) (hsz : m.size = 538) (hr : 0 < m.regs.length) : DOk (m.crash mask) g all k := fun n hn => by
  obtain ⟨mk, h1, h2⟩ := h n hn
  obtain ⟨_, _, _, _, c⟩ := Dk.crash_at (mask := mask) hm
  obtain ⟨c1, _, c3⟩ := c 0 hr
  refine ⟨mk, h1, (Dk.page_of hn hsz hw c1 fun s _ hs => ?_).trans h2⟩
  rcases c3 s hs with e | e
  · exact e
  · rw [hw] at e
    cases e
theorem DOk.opened {m m' : Dk} {g : Nat} {all : List Rec} {k : Nat} (h : DOk m g all k) (hsz : m.size = 538) (h0 : m.wts 0 = []) (h1 : m'.wts 0 = []) (hp : PgSame m m' 0) : DOk m' g all k := fun n hn => by
  obtain ⟨mk, h2, h3⟩ := h n hn
  exact ⟨mk, h2, (Dk.page_of hn hsz h0 h1 hp).trans h3⟩
theorem DOk.blank {m : Dk} (hpg : ∀ q, q < 6 → m.page 0 q = zs 256) (g : Nat) (all : List Rec) (k : Nat) : DOk m g all k := fun n hn => ⟨0, by omega, hpg n hn⟩
/-- A record that a page is changed. -/
def recUpdN (n : Nat) : Rec := ⟨3, 0, n, 0, ⟨#[]⟩, ⟨#[]⟩, ⟨#[]⟩, []⟩
theorem recUpdN_good {n : Nat} (h : n < 6) : Good (recUpdN n) := ⟨by
  have h1 : ¬ ((n : Int) < 0) := by omega
  have h2 : ¬ (6 ≤ (n : Int)) := by omega
  simp [Rec.right, recUpdN, cellB, h1, h2], fun d hd => by simp [recUpdN] at hd⟩
theorem recUpdN_len (n : Nat) : (recUpdN n).enc.length = 11 := by
  unfold recUpdN
  rw [Rec.enc_length]
  simp [Rec.body, be_len]
theorem encR_snoc (l : List Rec) (x : Rec) : (encR (l ++ [x])).length = (encR l).length + x.enc.length := by
  rw [encR_append, List.length_append]
  simp [encR]
/-- A page at hand is marked with a place of the log. -/
theorem MOk.touch {C : Nat → Pg} {g : Nat} {all : List Rec} (h : MOk C g all) {n pl : Nat} (hn : n < 6) (x : Rec) (hpl : pl = g * 1048576 + (encR all).length + 1) (hx : 0 < x.enc.length) : MOk (updP C n { C n with mark := pl }) g (all ++ [x]) := fun q hq => by
  rw [encR_snoc]
  by_cases he : q = n
  · subst he
    rw [updP_self]
    refine ⟨?_, show pl < _ by omega⟩
    have e := (h q hq).1
    have e1 := congrArg Pg.tenant e
    have e2 := congrArg Pg.number e
    have e3 := congrArg Pg.slots e
    simp only at e1 e2 e3
    show (⟨pl, (C q).tenant, (C q).number, (C q).slots⟩ : Pg) = ⟨pl, 0, q, zs 200⟩
    rw [e1, e2, e3]
  · rw [updP_ne C _ he]
    obtain ⟨h1, h2⟩ := h q hq
    exact ⟨h1, by omega⟩
theorem MOk.blank (g : Nat) (all : List Rec) : MOk C0 g all := fun n _ => ⟨rfl, show (0 : Nat) < _ by omega⟩
end Go.Proofs.Ytmlifjfgelfbbaa
