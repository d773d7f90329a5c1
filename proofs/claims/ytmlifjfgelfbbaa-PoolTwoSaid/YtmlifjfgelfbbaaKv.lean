/-
  A pool and the pages that it stands for, whether they are at hand or on the disk; plain laws and Get's contract by them, no statement.
-/
import Derived.Test.YtmlifjfgelfbbaaGx
import Derived.Test.YtmlifjfgelfbbaaPz
namespace Go.Proofs.Ytmlifjfgelfbbaa
open Go Go.RowKit

/-- What the pages are, by their numbers. -/
def KGood (C : Nat → Pg) : Prop := ∀ n, n < 6 → (C n).Wf ∧ (C n).number = n ∧ (C n).tenant = 0 ∧ ((C n).mark = 0 → (C n).slots = zs 200) ∧ ∀ i, i < 5 → rowSt (slotAt (C n).slots i) ≠ 9
theorem KGood.dec {C : Nat → Pg} (h : KGood C) {n : Nat} (hn : n < 6) : Pg.dec (C n).enc 0 n = C n ∧ decOk (C n).enc 0 n = true := by
  obtain ⟨h1, h2, h3, h4, h5⟩ := h n hn
  have := Pg.dec_enc h1 h4 h5
  rw [h2, h3] at this
  exact this
/-- A pool stands for these pages. -/
structure KInv (D l : Nat) (P : PoS) (m : Dk) (C : Nat → Pg) : Prop where
  base : P.d = D ∧ P.r = 0 ∧ P.l = l ∧ P.hand < 3
  pages : ∀ i, i < 3 → ∀ p, (P.fr i).pg = some p → p.number < 6 ∧ p = C p.number
  uniq : ∀ i k, i < 3 → k < 3 → ∀ p q, (P.fr i).pg = some p → (P.fr k).pg = some q → p.number = q.number → i = k
  zero : ∀ i, i < 3 → (P.fr i).pg = none → (P.fr i).since = 0
  clean : ∀ i, i < 3 → ∀ p, (P.fr i).pg = some p → (P.fr i).since = 0 → m.page 0 p.number = (C p.number).enc
  away : ∀ n : Nat, n < 6 → P.find n = none → m.page 0 n = (C n).enc
theorem KInv.Pages {D l : Nat} {P : PoS} {m : Dk} {C : Nat → Pg} (h : KInv D l P m C) (hC : KGood C) : P.Pages := fun i hi p hp => by
  obtain ⟨h1, h2⟩ := h.pages i hi p hp
  exact ⟨by rw [h2]; exact (hC _ h1).1, h1⟩
/-- Lane and disk under a pool. -/
structure LdOk (m : Dk) (L : Ln) (all : List Rec) (k : Nat) (w : Nat) : Prop where
  st : LSt m 0 L all k
  armd : m.armd 0 = false
  writes : m.writes ≤ w
  size : m.size = 538
  regs : m.regs.length = 1
theorem room_facts {D l : Nat} {P P' : PoS} {m m' : Dk} {C : Nat → Pg} {L L' : Ln} {all : List Rec} {k w j : Nat} (h : KInv D l P m C) (hl : LdOk m L all k w) (hr : RoomRel P P' j m m' L L' all) :
    (P'.d = D ∧ P'.r = 0 ∧ P'.l = l ∧ P'.hand < 3) ∧ (∀ i, i < 3 → i ≠ j → (P'.fr i).pg = (P.fr i).pg ∧ (P'.fr i).since = (P.fr i).since) ∧ (P'.fr j).since = 0 ∧
    (∀ n, n < 6 → (∀ i, i < 3 → i ≠ j → ∀ p, (P.fr i).pg = some p → p.number = n → (P.fr i).since = 0) → m'.page 0 n = (C n).enc) ∧
    (∃ k', LdOk m' L' all k' (w + 260)) ∧ L'.gen = L.gen ∧ L'.bank = L.bank := by
  obtain ⟨b1, b2, b3, b4⟩ := h.base
  have base0 : ∀ n, n < 6 → (∀ i, i < 3 → i ≠ j → ∀ p, (P.fr i).pg = some p → p.number = n → (P.fr i).since = 0) → (∀ p, (P.fr j).pg = some p → p.number = n → (P.fr j).since = 0) → j < 3 → m.page 0 n = (C n).enc := fun n hn h1 h2 _ => by
    cases hf : P.find n with
    | none => exact h.away n hn hf
    | some i =>
      obtain ⟨hi, hh⟩ := PoS.find_some hf
      obtain ⟨p, hp, hnum, _⟩ := Fr.has_pg hh
      have hpn : p.number = n := by omega
      have hs : (P.fr i).since = 0 := by
        by_cases hij : i = j
        · subst hij
          exact h2 p hp hpn
        · exact h1 i hi hij p hp hpn
      have := h.clean i hi p hp hs
      rwa [hpn] at this
  rcases hr with ⟨hf, rfl, rfl, rfl⟩ | ⟨_, hev, hrel⟩
  · obtain ⟨hj3, hjn, _⟩ := PoS.free_some hf
    refine ⟨⟨b1, b2, b3, b4⟩, fun i _ _ => ⟨rfl, rfl⟩, h.zero j hj3 hjn, fun n hn h1 => base0 n hn h1 (fun p hp => by rw [hjn] at hp; cases hp) hj3, ⟨k, hl.st, hl.armd, by have := hl.writes; omega, hl.size, hl.regs⟩, rfl, rfl⟩
  · have e1 : ∀ i, i < 3 → i ≠ j → (P'.fr i).pg = (P.fr i).pg ∧ (P'.fr i).since = (P.fr i).since := fun i hi hne => by
      obtain ⟨_, x, y⟩ := hev.rest i hi hne
      exact ⟨x, y⟩
    have e2 : (P'.fr j).since = 0 := by rw [hev.gone]; rfl
    have e3 : P'.d = D ∧ P'.r = 0 ∧ P'.l = l ∧ P'.hand < 3 := ⟨hev.d.trans b1, hev.r.trans b2, hev.l.trans b3, hev.hand⟩
    rcases hrel with ⟨hs0, rfl, rfl⟩ | ⟨_, pj, hpj, hw⟩
    · exact ⟨e3, e1, e2, fun n hn h1 => base0 n hn h1 (fun _ _ _ => hs0) hev.j3, ⟨k, hl.st, hl.armd, by have := hl.writes; omega, hl.size, hl.regs⟩, rfl, rfl⟩
    · rw [b2] at hw
      refine ⟨e3, e1, e2, fun n hn h1 => ?_, ⟨_, hw.st, hw.armd, by have := hw.writes; have := hl.writes; omega, hw.same.size.trans hl.size, hw.same.regs.trans hl.regs⟩, hw.gen, hw.bank⟩
      by_cases he : n = pj.number
      · have := hw.page
        rw [(h.pages j hev.j3 pj hpj).2] at this
        rw [he]
        have hnum : (C pj.number).number = pj.number := by
          have := congrArg Pg.number (h.pages j hev.j3 pj hpj).2
          exact this.symm
        rwa [hnum] at this
      · rw [hw.other n he (by rw [hl.size]; unfold pgAt; omega)]
        exact base0 n hn h1 (fun p hp hpn => absurd (by rw [hpj] at hp; cases hp; exact hpn.symm) he) hev.j3
/-- A page comes to hand. -/
theorem KInv.come {D l : Nat} {P P' : PoS} {m m' : Dk} {C : Nat → Pg} {q j kb : Nat} (h : KInv D l P m C) (hC : KGood C) (hq : q < 6) (hj : j < 3) (hf : P.find q = none)
    (f1 : P'.d = D ∧ P'.r = 0 ∧ P'.l = l ∧ P'.hand < 3) (f2 : ∀ i, i < 3 → i ≠ j → (P'.fr i).pg = (P.fr i).pg ∧ (P'.fr i).since = (P.fr i).since) (f3 : (P'.fr j).since = 0)
    (f4 : ∀ n, n < 6 → (∀ i, i < 3 → i ≠ j → ∀ p, (P.fr i).pg = some p → p.number = n → (P.fr i).since = 0) → m'.page 0 n = (C n).enc) :
    KInv D l (P'.setFr j ⟨kb, some (C q), (P'.fr j).since, true⟩) m' C ∧ (P'.setFr j ⟨kb, some (C q), (P'.fr j).since, true⟩).find q = some j := by
  obtain ⟨b1, b2, b3, b4⟩ := P'.set_base j ⟨kb, some (C q), (P'.fr j).since, true⟩
  have h0 := PoS.find_iff.1 hf
  have hCq := (hC q hq).2.1
  have hpg : ∀ i, i < 3 → ∀ p, ((P'.setFr j ⟨kb, some (C q), (P'.fr j).since, true⟩).fr i).pg = some p → (i = j ∧ p = C q) ∨ (i ≠ j ∧ (P.fr i).pg = some p) := fun i hi p hp => by
    by_cases hij : i = j
    · subst hij
      rw [P'.fr_set hi] at hp
      exact .inl ⟨rfl, by cases hp; rfl⟩
    · rw [P'.fr_ne hj hi hij, (f2 i hi hij).1] at hp
      exact .inr ⟨hij, hp⟩
  have hfd : ∀ i, i < 3 → ((P'.setFr j ⟨kb, some (C q), (P'.fr j).since, true⟩).fr i).pg = some (C q) → i = j := fun i hi hp => by
    rcases hpg i hi _ hp with ⟨h1, _⟩ | ⟨_, h2⟩
    · exact h1
    · exact absurd hCq (h0 i hi _ h2)
  refine ⟨⟨⟨b1.trans f1.1, b2.trans f1.2.1, b3.trans f1.2.2.1, by rw [b4]; exact f1.2.2.2⟩, ?_, ?_, ?_, ?_, ?_⟩, ?_⟩
  · intro i hi p hp
    rcases hpg i hi p hp with ⟨_, rfl⟩ | ⟨_, h2⟩
    · exact ⟨by rw [hCq]; exact hq, by rw [hCq]⟩
    · exact h.pages i hi p h2
  · intro i k hi hk p p' hp hp' he
    rcases hpg i hi p hp with ⟨rfl, rfl⟩ | ⟨_, h2⟩
    · rcases hpg k hk p' hp' with ⟨rfl, rfl⟩ | ⟨_, h3⟩
      · rfl
      · exact absurd (he.symm.trans hCq) (h0 k hk p' h3)
    · rcases hpg k hk p' hp' with ⟨rfl, rfl⟩ | ⟨_, h3⟩
      · exact absurd (he.trans hCq) (h0 i hi p h2)
      · exact h.uniq i k hi hk p p' h2 h3 he
  · intro i hi hp
    by_cases hij : i = j
    · subst hij
      rw [P'.fr_set hi] at hp
      cases hp
    · rw [P'.fr_ne hj hi hij] at hp ⊢
      rw [(f2 i hi hij).2]
      exact h.zero i hi (by rw [← (f2 i hi hij).1]; exact hp)
  · intro i hi p hp hs
    rcases hpg i hi p hp with ⟨rfl, rfl⟩ | ⟨hij, h2⟩
    · rw [hCq]
      exact f4 q hq fun i' hi' _ p' hp' hn' => absurd hn' (h0 i' hi' p' hp')
    · refine f4 p.number (h.pages i hi p h2).1 fun i' hi' _ p' hp' hn' => ?_
      have := h.uniq i' i hi' hi p' p hp' h2 hn'
      subst this
      rw [P'.fr_ne hj hi hij, (f2 _ hi hij).2] at hs
      exact hs
  · intro n hn hfn
    have h1 := PoS.find_iff.1 hfn
    exact f4 n hn fun i' hi' hij' p' hp' hn' => absurd hn' (h1 i' hi' p' (by rw [P'.fr_ne hj hi' hij', (f2 i' hi' hij').1]; exact hp'))
  · cases hfq : (P'.setFr j ⟨kb, some (C q), (P'.fr j).since, true⟩).find q with
    | none => exact absurd hCq (PoS.find_iff.1 hfq j hj _ (by rw [P'.fr_set hj]))
    | some i =>
      obtain ⟨hi, hh⟩ := PoS.find_some hfq
      obtain ⟨p, hp, hnum, _⟩ := Fr.has_pg hh
      rcases hpg i hi p hp with ⟨rfl, _⟩ | ⟨_, h2⟩
      · rfl
      · exact absurd (by omega) (h0 i hi p h2)
def updP (C : Nat → Pg) (n : Nat) (p : Pg) : Nat → Pg := fun k => if k = n then p else C k
theorem updP_self (C : Nat → Pg) (n : Nat) (p : Pg) : updP C n p n = p := if_pos rfl
theorem updP_ne (C : Nat → Pg) {n k : Nat} (p : Pg) (h : k ≠ n) : updP C n p k = C k := if_neg h
/-- A page at hand is changed, and marked so. -/
theorem KInv.change {D l : Nat} {P : PoS} {m : Dk} {C : Nat → Pg} {n i : Nat} (h : KInv D l P m C) (hf : P.find n = some i) (f : Fr) (p' : Pg) (hfp : f.pg = some p') (hpn : p'.number = n) (hs : f.since ≠ 0) :
    KInv D l (P.setFr i f) m (updP C n p') ∧ (P.setFr i f).find n = some i := by
  obtain ⟨hi, hh⟩ := PoS.find_some hf
  obtain ⟨p, hp, hnum, _⟩ := Fr.has_pg hh
  have hn : p.number = n := by omega
  obtain ⟨b1, b2, b3, b4⟩ := P.set_base i f
  have hpg : ∀ k, k < 3 → ∀ q, ((P.setFr i f).fr k).pg = some q → (k = i ∧ q = p') ∨ (k ≠ i ∧ (P.fr k).pg = some q) := fun k hk q hq => by
    by_cases hki : k = i
    · subst hki
      rw [P.fr_set hk] at hq
      exact .inl ⟨rfl, by rw [hfp] at hq; cases hq; rfl⟩
    · rw [P.fr_ne hi hk hki] at hq
      exact .inr ⟨hki, hq⟩
  have hne : ∀ k, k < 3 → k ≠ i → ∀ q, (P.fr k).pg = some q → q.number ≠ n := fun k hk hki q hq he => hki (h.uniq k i hk hi q p hq hp (he.trans hn.symm))
  refine ⟨⟨⟨b1.trans h.base.1, b2.trans h.base.2.1, b3.trans h.base.2.2.1, by rw [b4]; exact h.base.2.2.2⟩, ?_, ?_, ?_, ?_, ?_⟩, ?_⟩
  · intro k hk q hq
    rcases hpg k hk q hq with ⟨rfl, rfl⟩ | ⟨hki, h1⟩
    · rw [hpn, updP_self, ← hn]
      exact ⟨(h.pages k hi p hp).1, rfl⟩
    · rw [updP_ne C p' (hne k hk hki q h1)]
      exact h.pages k hk q h1
  · intro a b ha hb q q' hq hq' he
    rcases hpg a ha q hq with ⟨rfl, rfl⟩ | ⟨ha', h1⟩
    · rcases hpg b hb q' hq' with ⟨rfl, rfl⟩ | ⟨hb', h2⟩
      · rfl
      · exact absurd (he.symm.trans hpn) (hne b hb hb' q' h2)
    · rcases hpg b hb q' hq' with ⟨rfl, rfl⟩ | ⟨_, h2⟩
      · exact absurd (he.trans hpn) (hne a ha ha' q h1)
      · exact h.uniq a b ha hb q q' h1 h2 he
  · intro k hk hq
    by_cases hki : k = i
    · subst hki
      rw [P.fr_set hk, hfp] at hq
      cases hq
    · rw [P.fr_ne hi hk hki] at hq ⊢
      exact h.zero k hk hq
  · intro k hk q hq hs0
    rcases hpg k hk q hq with ⟨rfl, rfl⟩ | ⟨hki, h1⟩
    · rw [P.fr_set hk] at hs0
      exact absurd hs0 hs
    · rw [P.fr_ne hi hk hki] at hs0
      rw [updP_ne C p' (hne k hk hki q h1)]
      exact h.clean k hk q h1 hs0
  · intro c hc hfc
    have h1 := PoS.find_iff.1 hfc
    have hcn : c ≠ n := fun he => h1 i hi p' (by rw [P.fr_set hi]; exact hfp) (by rw [hpn, he])
    rw [updP_ne C p' hcn]
    refine h.away c hc (PoS.find_iff.2 fun k hk q hq => ?_)
    by_cases hki : k = i
    · subst hki
      rw [hp] at hq
      cases hq
      rw [hn]
      exact fun he => hcn he.symm
    · exact h1 k hk q (by rw [P.fr_ne hi hk hki]; exact hq)
  · cases hfq : (P.setFr i f).find n with
    | none => exact absurd hpn (PoS.find_iff.1 hfq i hi p' (by rw [P.fr_set hi]; exact hfp))
    | some k =>
      obtain ⟨hk, hh⟩ := PoS.find_some hfq
      obtain ⟨q, hq, hqn, _⟩ := Fr.has_pg hh
      rcases hpg k hk q hq with ⟨rfl, _⟩ | ⟨hki, h1⟩
      · rfl
      · exact absurd (by omega) (hne k hk hki q h1)
/-- A page at hand is asked for. -/
theorem KInv.found {D l : Nat} {P : PoS} {m : Dk} {C : Nat → Pg} {n i : Nat} (h : KInv D l P m C) (hf : P.find n = some i) : KInv D l (P.setFr i { P.fr i with again := true }) m C ∧ (P.setFr i { P.fr i with again := true }).find n = some i := by
  obtain ⟨hi, hh⟩ := PoS.find_some hf
  obtain ⟨b1, b2, b3, b4⟩ := P.set_base i { P.fr i with again := true }
  have hsame : ∀ k, k < 3 → ((P.setFr i { P.fr i with again := true }).fr k).pg = (P.fr k).pg ∧ ((P.setFr i { P.fr i with again := true }).fr k).since = (P.fr k).since := fun k hk => by
    by_cases hki : k = i
    · subst hki
      rw [P.fr_set hk]
      exact ⟨rfl, rfl⟩
    · rw [P.fr_ne hi hk hki]
      exact ⟨rfl, rfl⟩
  have e : ∀ c, (P.setFr i { P.fr i with again := true }).find c = P.find c := fun c => by
    rcases three hi with rfl | rfl | rfl <;> rfl
  refine ⟨⟨⟨b1.trans h.base.1, b2.trans h.base.2.1, b3.trans h.base.2.2.1, by rw [b4]; exact h.base.2.2.2⟩, fun k hk p hp => h.pages k hk p (by rw [← (hsame k hk).1]; exact hp), fun a b ha hb p q hp hq => h.uniq a b ha hb p q (by rw [← (hsame a ha).1]; exact hp) (by rw [← (hsame b hb).1]; exact hq), fun k hk hp => by rw [(hsame k hk).2]; exact h.zero k hk (by rw [← (hsame k hk).1]; exact hp), fun k hk p hp hs => h.clean k hk p (by rw [← (hsame k hk).1]; exact hp) (by rw [← (hsame k hk).2]; exact hs), fun c hc hfc => h.away c hc (by rw [← e]; exact hfc)⟩, by rw [e]; exact hf⟩
/-- Get, by what the pool stands for. -/
theorem KInv.get {D l : Nat} {P : PoS} {m : Dk} {C : Nat → Pg} (w0 w : World) (R : HP) (b q : Nat) {L : Ln} {all : List Rec} {k ww : Nat} (h : KInv D l P m C) (hC : KGood C) (hl : LdOk m L all k ww) (hww : ww ≤ 700000000) (hq : q < 6) (hA : At w0 (poB b P * (lan l D 0 L * (dsk D m * R))) w) :
    Calls Try.prog 13 #[.pointer (some ⟨b, 0, none⟩), .int .i64 q] w fun e w' => ∃ P1 i L1 m1 k1, e = .returned (.tuple #[.pointer (some ⟨(P1.fr i).blk, 0, none⟩), .int .i64 0]) ∧ KInv D l P1 m1 C ∧ P1.find q = some i ∧ LdOk m1 L1 all k1 (ww + 260) ∧ L1.gen = L.gen ∧
      At w0 (poB b P1 * (lan l D 0 L1 * (dsk D m1 * R))) w' := by
  obtain ⟨q1, q2, q3, q4⟩ := h.base
  cases hf : P.find q with
  | some i =>
    refine (poolGet_found w0 w _ b P q i hq hf hA).mono ?_
    rintro e w' ⟨rfl, h1⟩
    obtain ⟨g1, g2⟩ := h.found hf
    refine ⟨_, i, L, m, k, ?_, g1, g2, ⟨hl.st, hl.armd, by have := hl.writes; omega, hl.size, hl.regs⟩, rfl, h1⟩
    rw [P.fr_set (PoS.find_some hf).1]
  | none =>
    have hg := poolGet_any w0 w R b P q (L := L) (m := m) (all := all) (kk := k) (by rw [q2]; exact hl.st) (by rw [q2]; exact hl.armd) (h.Pages hC) q4 (by rw [q2]; decide) hq (by have := hl.size; omega) (by have := hl.size; omega) (by have := hl.writes; omega) hf (by rw [q1, q2, q3]; exact hA)
    rw [q2, h.away q hq hf] at hg
    obtain ⟨d1, d2⟩ := hC.dec hq
    refine hg.mono ?_
    rintro e w' (⟨_, kb, P', j, L', m', rfl, hrel, h1⟩ | ⟨hno, _⟩)
    · rw [q2, d1, q1, q3] at h1
      obtain ⟨f1, f2, f3, f4, ⟨k', f5⟩, f6, _⟩ := room_facts h hl hrel
      obtain ⟨hj3, _⟩ := hrel.out
      obtain ⟨g1, g2⟩ := h.come (kb := kb) hC hq hj3 hf f1 f2 f3 f4
      refine ⟨_, j, L', m', k', ?_, g1, g2, f5, f6, h1⟩
      rw [P'.fr_set hj3]
    · rw [q2] at hno
      exact absurd (d2.symm.trans hno) (by decide)
/-- All pages are blank. -/
def C0 : Nat → Pg := fun n => ⟨0, 0, n, zs 200⟩
theorem C0_good : KGood C0 := fun n hn => ⟨⟨zs_len 200, show (0 : Nat) < 2 ^ 64 by decide, show (0 : Nat) < 65536 by decide, by show n < 65536; omega⟩, rfl, rfl, fun _ => rfl, fun i hi => by
  show rowSt (slotAt (zs 200) i) ≠ 9
  rcases show i = 0 ∨ i = 1 ∨ i = 2 ∨ i = 3 ∨ i = 4 by omega with rfl | rfl | rfl | rfl | rfl <;> decide⟩
theorem PoS.find_same {P : PoS} {i : Nat} {f : Fr} {p p' : Pg} (hi : i < 3) (hp : (P.fr i).pg = some p) (hf : f.pg = some p') (hn : p'.number = p.number) (c : Int) : (P.setFr i f).find c = P.find c := by
  have e : f.has c = (P.fr i).has c := by unfold Fr.has; rw [hp, hf]; simp only [hn]
  unfold PoS.find
  rcases three hi with rfl | rfl | rfl
  · show (if f.has c then _ else if P.f1.has c then _ else if P.f2.has c then _ else _) = _
    rw [e]
    rfl
  · show (if P.f0.has c then _ else if f.has c then _ else if P.f2.has c then _ else _) = _
    rw [e]
    rfl
  · show (if P.f0.has c then _ else if P.f1.has c then _ else if f.has c then _ else _) = _
    rw [e]
    rfl
theorem PoS.set_set (P : PoS) {i : Nat} (hi : i < 3) (f g : Fr) : (P.setFr i f).setFr i g = P.setFr i g := by
  rcases three hi with rfl | rfl | rfl <;> rfl
theorem PoS.touch_eq {P : PoS} {n i pl : Nat} (hf : P.find n = some i) : P.touch n pl = P.setFr i ((P.fr i).touch pl) := by
  obtain ⟨hi, _⟩ := PoS.find_some hf
  unfold PoS.touch
  rw [hf]
  rcases three hi with rfl | rfl | rfl <;> rfl
theorem PoS.cells_same (P : PoS) {i : Nat} (hi : i < 3) {f : Fr} (h1 : f.ptr = (P.fr i).ptr) (h2 : f.since = (P.fr i).since) (h3 : f.again = (P.fr i).again) : (P.setFr i f).cells = P.cells := by
  rw [P.cells_set hi f, h1, h2, h3, ← P.cells_set hi (P.fr i)]
  rcases three hi with rfl | rfl | rfl <;> rfl
theorem KInv.at_hand {D l : Nat} {P : PoS} {m : Dk} {C : Nat → Pg} {n i : Nat} (h : KInv D l P m C) (hf : P.find n = some i) : i < 3 ∧ (P.fr i).pg = some (C n) ∧ (P.fr i).hp = pgB (P.fr i).blk (C n) ∧ (C n).number = n := by
  obtain ⟨hi, hh⟩ := PoS.find_some hf
  obtain ⟨p, hp, hnum, _, hhp⟩ := Fr.has_pg hh
  have hn : p.number = n := by omega
  have he := (h.pages i hi p hp).2
  rw [hn] at he
  rw [he] at hp hhp
  exact ⟨hi, hp, hhp, by rw [← he]; exact hn⟩
theorem C0_inv {D l : Nat} {m : Dk} (hpg : ∀ q, q < 6 → m.page 0 q = zs 256) : KInv D l (PoS.new D 0 l) m C0 := by
  refine ⟨⟨rfl, rfl, rfl, show (0 : Nat) < 3 by decide⟩, ?_, ?_, ?_, ?_, fun n hn _ => hpg n hn⟩
  · intro i hi p hp
    rcases three hi with rfl | rfl | rfl <;> cases hp
  · intro i k hi hk p q hp
    rcases three hi with rfl | rfl | rfl <;> cases hp
  · intro i hi _
    rcases three hi with rfl | rfl | rfl <;> rfl
  · intro i hi p hp
    rcases three hi with rfl | rfl | rfl <;> cases hp
end Go.Proofs.Ytmlifjfgelfbbaa
