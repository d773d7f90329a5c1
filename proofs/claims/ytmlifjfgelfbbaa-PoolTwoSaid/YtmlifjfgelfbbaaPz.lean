/-
  PoolSince: what is at hand, and since when it is changed; plain laws, no statement.
-/
import Derived.Test.YtmlifjfgelfbbaaGt
import Derived.Test.YtmlifjfgelfbbaaFd
namespace Go.Proofs.Ytmlifjfgelfbbaa
open Go Go.RowKit

/-- A pool of at most three pages, and since when each is changed. -/
structure SInv (D l : Nat) (P : PoS) (S : Nat → Nat) : Prop where
  base : P.d = D ∧ P.r = 0 ∧ P.l = l
  pages : ∀ i, i < 3 → ∀ p, (P.fr i).pg = some p → p.Wf ∧ p.number < 3
  uniq : ∀ i k, i < 3 → k < 3 → ∀ p q, (P.fr i).pg = some p → (P.fr k).pg = some q → p.number = q.number → i = k
  zero : ∀ i, i < 3 → (P.fr i).pg = none → (P.fr i).since = 0
  since : ∀ i, i < 3 → ∀ p, (P.fr i).pg = some p → (P.fr i).since = S p.number
  away : ∀ n : Nat, n < 3 → P.find n = none → S n = 0
theorem PoS.find_of {P : PoS} {n i : Nat} {p : Pg} (hi : i < 3) (hp : (P.fr i).pg = some p) (hn : p.number = n) : P.find n ≠ none := by
  intro h
  have := PoS.find_none h hi
  unfold Fr.has at this
  rw [hp] at this
  simp [hn] at this
theorem Fr.not_has {f : Fr} {n : Nat} {p : Pg} (h : f.has n = false) (hp : f.pg = some p) : p.number ≠ n := by
  unfold Fr.has at h
  rw [hp] at h
  simp at h
  omega
theorem SInv.free {D l : Nat} {P : PoS} {S : Nat → Nat} (h : SInv D l P S) {n : Nat} (hn : n < 3) (hf : P.find n = none) : ∃ j, P.free = some j := by
  unfold PoS.free
  cases h0 : P.f0.pg with
  | none => exact ⟨0, if_pos rfl⟩
  | some p0 =>
    rw [if_neg (by simp)]
    cases h1 : P.f1.pg with
    | none => exact ⟨1, if_pos rfl⟩
    | some p1 =>
      rw [if_neg (by simp)]
      cases h2 : P.f2.pg with
      | none => exact ⟨2, if_pos rfl⟩
      | some p2 =>
        exfalso
        have a0 := (h.pages 0 (by decide) p0 h0).2
        have a1 := (h.pages 1 (by decide) p1 h1).2
        have a2 := (h.pages 2 (by decide) p2 h2).2
        have b0 := Fr.not_has (PoS.find_none hf (i := 0) (by decide)) h0
        have b1 := Fr.not_has (PoS.find_none hf (i := 1) (by decide)) h1
        have b2 := Fr.not_has (PoS.find_none hf (i := 2) (by decide)) h2
        have c01 : p0.number ≠ p1.number := fun e => absurd (h.uniq 0 1 (by decide) (by decide) p0 p1 h0 h1 e) (by decide)
        have c02 : p0.number ≠ p2.number := fun e => absurd (h.uniq 0 2 (by decide) (by decide) p0 p2 h0 h2 e) (by decide)
        have c12 : p1.number ≠ p2.number := fun e => absurd (h.uniq 1 2 (by decide) (by decide) p1 p2 h1 h2 e) (by decide)
        omega
theorem PoS.find_iff {P : PoS} {n : Nat} : P.find n = none ↔ ∀ i, i < 3 → ∀ p, (P.fr i).pg = some p → p.number ≠ n := by
  constructor
  · intro h i hi p hp
    exact Fr.not_has (PoS.find_none h hi) hp
  · intro h
    cases hf : P.find n with
    | none => rfl
    | some i =>
      obtain ⟨hi, hh⟩ := PoS.find_some hf
      obtain ⟨p, hp, hnum, _⟩ := Fr.has_pg hh
      exact absurd (by omega) (h i hi p hp)
/-- A frame is turned whose page, if it has one, keeps its number. -/
theorem SInv.turn {D l : Nat} {P : PoS} {S S' : Nat → Nat} (h : SInv D l P S) {i : Nat} (hi : i < 3) (f : Fr) (p p' : Pg) (hp : (P.fr i).pg = some p) (hf : f.pg = some p') (hw : p'.Wf) (hn : p'.number = p.number) (hs : f.since = S' p.number) (hS : ∀ n, n ≠ p.number → S' n = S n) :
    SInv D l (P.setFr i f) S' := by
  obtain ⟨b1, b2, b3, _⟩ := P.set_base i f
  have hpg : ∀ k, k < 3 → ∀ q, ((P.setFr i f).fr k).pg = some q → (k = i ∧ q = p') ∨ (k ≠ i ∧ (P.fr k).pg = some q) := fun k hk q hq => by
    by_cases hki : k = i
    · subst hki
      rw [P.fr_set hk] at hq
      exact .inl ⟨rfl, by rw [hf] at hq; cases hq; rfl⟩
    · rw [P.fr_ne hi hk hki] at hq
      exact .inr ⟨hki, hq⟩
  refine ⟨⟨b1.trans h.base.1, b2.trans h.base.2.1, b3.trans h.base.2.2⟩, ?_, ?_, ?_, ?_, ?_⟩
  · intro k hk q hq
    rcases hpg k hk q hq with ⟨rfl, rfl⟩ | ⟨_, h1⟩
    · exact ⟨hw, by rw [hn]; exact (h.pages k hi p hp).2⟩
    · exact h.pages k hk q h1
  · intro a b ha hb q q' hq hq' he
    rcases hpg a ha q hq with ⟨rfl, rfl⟩ | ⟨_, h1⟩
    · rcases hpg b hb q' hq' with ⟨rfl, rfl⟩ | ⟨_, h2⟩
      · rfl
      · exact h.uniq a b ha hb p q' hp h2 (by rw [← hn]; exact he)
    · rcases hpg b hb q' hq' with ⟨rfl, rfl⟩ | ⟨_, h2⟩
      · exact h.uniq a b ha hb q p h1 hp (by rw [he, hn])
      · exact h.uniq a b ha hb q q' h1 h2 he
  · intro k hk hq
    by_cases hki : k = i
    · subst hki
      rw [P.fr_set hk, hf] at hq
      cases hq
    · rw [P.fr_ne hi hk hki] at hq ⊢
      exact h.zero k hk hq
  · intro k hk q hq
    by_cases hki : k = i
    · subst hki
      rw [P.fr_set hk] at hq ⊢
      rw [hf] at hq
      cases hq
      rw [hs, hn]
    · rw [P.fr_ne hi hk hki] at hq ⊢
      rw [h.since k hk q hq, hS]
      intro he
      exact hki (h.uniq k i hk hi q p hq hp he)
  · intro n hn3 hfd
    have h1 := PoS.find_iff.1 hfd
    have hne : n ≠ p.number := fun he => h1 i hi p' (by rw [P.fr_set hi]; exact hf) (by rw [hn, he])
    rw [hS n hne]
    refine h.away n hn3 (PoS.find_iff.2 fun k hk q hq => ?_)
    by_cases hki : k = i
    · subst hki
      rw [hp] at hq
      cases hq
      exact fun he => hne he.symm
    · exact h1 k hk q (by rw [P.fr_ne hi hk hki]; exact hq)
/-- A page comes to hand. -/
theorem SInv.come {D l : Nat} {P : PoS} {S : Nat → Nat} (h : SInv D l P S) {j : Nat} (hj : j < 3) (hjn : (P.fr j).pg = none) (f : Fr) (p : Pg) (hf : f.pg = some p) (hw : p.Wf) (hn : p.number < 3) (hfd : P.find p.number = none) (hs : f.since = 0) :
    SInv D l (P.setFr j f) S := by
  obtain ⟨b1, b2, b3, _⟩ := P.set_base j f
  have h0 := PoS.find_iff.1 hfd
  have hpg : ∀ k, k < 3 → ∀ q, ((P.setFr j f).fr k).pg = some q → (k = j ∧ q = p) ∨ (k ≠ j ∧ (P.fr k).pg = some q) := fun k hk q hq => by
    by_cases hki : k = j
    · subst hki
      rw [P.fr_set hk] at hq
      exact .inl ⟨rfl, by rw [hf] at hq; cases hq; rfl⟩
    · rw [P.fr_ne hj hk hki] at hq
      exact .inr ⟨hki, hq⟩
  refine ⟨⟨b1.trans h.base.1, b2.trans h.base.2.1, b3.trans h.base.2.2⟩, ?_, ?_, ?_, ?_, ?_⟩
  · intro k hk q hq
    rcases hpg k hk q hq with ⟨rfl, rfl⟩ | ⟨_, h1⟩
    · exact ⟨hw, hn⟩
    · exact h.pages k hk q h1
  · intro a b ha hb q q' hq hq' he
    rcases hpg a ha q hq with ⟨rfl, rfl⟩ | ⟨_, h1⟩
    · rcases hpg b hb q' hq' with ⟨rfl, rfl⟩ | ⟨_, h2⟩
      · rfl
      · exact absurd he.symm (h0 b hb q' h2)
    · rcases hpg b hb q' hq' with ⟨rfl, rfl⟩ | ⟨_, h2⟩
      · exact absurd he (h0 a ha q h1)
      · exact h.uniq a b ha hb q q' h1 h2 he
  · intro k hk hq
    by_cases hki : k = j
    · subst hki
      rw [P.fr_set hk, hf] at hq
      cases hq
    · rw [P.fr_ne hj hk hki] at hq ⊢
      exact h.zero k hk hq
  · intro k hk q hq
    by_cases hki : k = j
    · subst hki
      rw [P.fr_set hk] at hq ⊢
      rw [hf] at hq
      cases hq
      rw [hs, h.away _ hn hfd]
    · rw [P.fr_ne hj hk hki] at hq ⊢
      exact h.since k hk q hq
  · intro n hn3 hfd2
    have h1 := PoS.find_iff.1 hfd2
    refine h.away n hn3 (PoS.find_iff.2 fun k hk q hq => ?_)
    by_cases hki : k = j
    · subst hki
      rw [hjn] at hq
      cases hq
    · exact h1 k hk q (by rw [P.fr_ne hj hk hki]; exact hq)
theorem PoS.find_set_ne {P : PoS} {i n : Nat} {f : Fr} {p p' : Pg} (hi : i < 3) (hp : (P.fr i).pg = some p) (hf : f.pg = some p') (hn : p'.number = p.number) (h : (P.setFr i f).find n = none) : P.find n = none := by
  refine PoS.find_iff.2 fun k hk q hq => ?_
  have h1 := PoS.find_iff.1 h
  by_cases hki : k = i
  · subst hki
    rw [hp] at hq
    cases hq
    have := h1 k hk p' (by rw [P.fr_set hk]; exact hf)
    rwa [hn] at this
  · exact h1 k hk q (by rw [P.fr_ne hi hk hki]; exact hq)
theorem ds_len (l : List Nat) (f : Fr) : (dirtyStep l f).length = l.length := by
  unfold dirtyStep
  split
  · rw [List.length_set]
  · rfl
theorem ds_get (l : List Nat) (f : Fr) (n : Nat) (hn : n < l.length) : (dirtyStep l f)[n]? = if f.has n = true then some f.since else l[n]? := by
  unfold dirtyStep Fr.has
  cases hp : f.pg with
  | none => simp
  | some p =>
    simp only
    rw [List.getElem?_set]
    by_cases he : p.number = n
    · subst he
      simp [hn]
    · have : ¬ ((p.number : Int) == (n : Int)) = true := by simp; omega
      rw [if_neg he, if_neg this]
theorem SInv.dirty {D l : Nat} {P : PoS} {S : Nat → Nat} (h : SInv D l P S) {n : Nat} (hn : n < 3) : (P.dirtyTo 3)[n]? = some (S n) := by
  have hs : ∀ i, i < 3 → (P.fr i).has n = true → (P.fr i).since = S n := fun i hi hh => by
    obtain ⟨p, hp, hnum, _⟩ := Fr.has_pg hh
    rw [h.since i hi p hp]
    congr 1
    omega
  show (dirtyStep (dirtyStep (dirtyStep (List.replicate 6 0) P.f0) P.f1) P.f2)[n]? = _
  rw [ds_get _ _ _ (by rw [ds_len, ds_len]; simp; omega)]
  split
  · rename_i hh
    rw [← hs 2 (by decide) hh]
    rfl
  · rename_i h2
    rw [ds_get _ _ _ (by rw [ds_len]; simp; omega)]
    split
    · rename_i hh
      rw [← hs 1 (by decide) hh]
      rfl
    · rename_i h1
      rw [ds_get _ _ _ (by simp; omega)]
      split
      · rename_i hh
        rw [← hs 0 (by decide) hh]
        rfl
      · rename_i h0
        have hf : P.find n = none := by
          unfold PoS.find
          rw [if_neg h0, if_neg h1, if_neg h2]
        rw [h.away n hn hf]
        rcases show n = 0 ∨ n = 1 ∨ n = 2 by omega with rfl | rfl | rfl <;> rfl
theorem SInv.nums {D l : Nat} {P : PoS} {S : Nat → Nat} (h : SInv D l P S) : ∀ f ∈ [P.f0, P.f1, P.f2], ∀ p, f.pg = some p → p.number < 6 := by
  intro f hf p hp
  simp only [List.mem_cons, List.not_mem_nil, or_false] at hf
  rcases hf with rfl | rfl | rfl
  · have := (h.pages 0 (by decide) p hp).2; omega
  · have := (h.pages 1 (by decide) p hp).2; omega
  · have := (h.pages 2 (by decide) p hp).2; omega
theorem SInv.Pages {D l : Nat} {P : PoS} {S : Nat → Nat} (h : SInv D l P S) : P.Pages := fun i hi p hp => by
  obtain ⟨h1, h2⟩ := h.pages i hi p hp
  exact ⟨h1, by omega⟩
/-- The statement's array. -/
def sarr (S : Nat → Nat) : Array Value := #[.int .u64 (S 0), .int .u64 (S 1), .int .u64 (S 2)]
def upd (S : Nat → Nat) (n v : Nat) : Nat → Nat := fun k => if k = n then v else S k
theorem sarr_get (S : Nat → Nat) {n : Nat} (hn : n < 3) : (sarr S)[n]? = some (.int .u64 (S n)) := by
  rcases three hn with rfl | rfl | rfl <;> rfl
theorem sarr_set (S : Nat → Nat) {n : Nat} (hn : n < 3) (v : Nat) : (sarr S).setIfInBounds n (.int .u64 v) = sarr (upd S n v) := by
  rcases three hn with rfl | rfl | rfl <;> rfl
/-- A page of the first three is touched. -/
theorem SInv.touch {D l : Nat} {P : PoS} {S : Nat → Nat} (h : SInv D l P S) {i n pl : Nat} (hf : P.find n = some i) (hpl : pl < 2 ^ 64) : SInv D l (P.touch n pl) (upd S n (if S n = 0 then pl else S n)) := by
  obtain ⟨hi, hh⟩ := PoS.find_some hf
  obtain ⟨p, hp, hnum, _⟩ := Fr.has_pg hh
  have hn : p.number = n := by omega
  have hw := (h.pages i hi p hp).1
  have hs := h.since i hi p hp
  have e : P.touch n pl = P.setFr i ((P.fr i).touch pl) := by
    unfold PoS.touch
    rw [hf]
    rcases three hi with rfl | rfl | rfl <;> rfl
  rw [e]
  refine h.turn hi _ p { p with mark := pl } hp (by unfold Fr.touch; rw [hp]; rfl) ⟨hw.slots, hpl, hw.tenant, hw.number⟩ rfl ?_ ?_
  · show (if (P.fr i).since = 0 then pl else (P.fr i).since) = _
    rw [hs, hn]
    unfold upd
    rw [if_pos rfl]
  · intro k hk
    unfold upd
    rw [if_neg (by omega)]
theorem SInv.flushed {D l : Nat} {P : PoS} {S : Nat → Nat} (h : SInv D l P S) {i n : Nat} (hf : P.find n = some i) : SInv D l (P.flushed n) (upd S n 0) := by
  obtain ⟨hi, hh⟩ := PoS.find_some hf
  obtain ⟨p, hp, hnum, _⟩ := Fr.has_pg hh
  have hn : p.number = n := by omega
  have e : P.flushed n = P.setFr i { P.fr i with since := 0 } := by unfold PoS.flushed; rw [hf]
  rw [e]
  refine h.turn hi _ p p hp hp (h.pages i hi p hp).1 rfl ?_ ?_
  · unfold upd
    rw [if_pos hn]
  · intro k hk
    unfold upd
    rw [if_neg (by omega)]
theorem SInv.found {D l : Nat} {P : PoS} {S : Nat → Nat} (h : SInv D l P S) {i n : Nat} (hf : P.find n = some i) : SInv D l (P.setFr i { P.fr i with again := true }) S ∧ (P.setFr i { P.fr i with again := true }).find n = some i := by
  obtain ⟨hi, hh⟩ := PoS.find_some hf
  obtain ⟨p, hp, hnum, _⟩ := Fr.has_pg hh
  refine ⟨h.turn hi _ p p hp hp (h.pages i hi p hp).1 rfl (h.since i hi p hp) fun _ _ => rfl, ?_⟩
  have e : ∀ c, (P.setFr i { P.fr i with again := true }).find c = P.find c := fun c => by
    rcases three hi with rfl | rfl | rfl <;> rfl
  rw [e]
  exact hf
/-- Pages that are not at hand are blank. -/
def Away (P : PoS) (m : Dk) : Prop := ∀ n : Nat, n < 6 → P.find n = none → m.page 0 n = zs 256
theorem PoS.find_keep {P : PoS} {i n : Nat} {f : Fr} {p p' : Pg} (hi : i < 3) (hp : (P.fr i).pg = some p) (hf : f.pg = some p') (hn : p'.number = p.number) : (P.setFr i f).find n = none → P.find n = none := PoS.find_set_ne hi hp hf hn
theorem SInv.get {D l : Nat} {P : PoS} {S : Nat → Nat} (w0 w : World) (R : HP) (b q : Nat) (m : Dk) (h : SInv D l P S) (hq : q < 3) (ha : Away P m) (hr : m.regs.length = 1) (hsz : m.size = 538) (hwn : m.writes ≤ 1000000) (hA : At w0 (poB b P * (dsk D m * R)) w) :
    Calls Try.prog 13 #[.pointer (some ⟨b, 0, none⟩), .int .i64 q] w fun e w' => ∃ k P1 i, e = .returned (.tuple #[.pointer (some ⟨k, 0, none⟩), .int .i64 0]) ∧ SInv D l P1 S ∧ P1.find q = some i ∧ Away P1 m ∧ At w0 (poB b P1 * (dsk D m * R)) w' := by
  obtain ⟨q1, q2, q3⟩ := h.base
  cases hf : P.find q with
  | some i =>
    obtain ⟨hi, hh⟩ := PoS.find_some hf
    obtain ⟨p, hp, hnum, _⟩ := Fr.has_pg hh
    refine (poolGet_found w0 w _ b P q i (by omega) hf hA).mono ?_
    rintro e w' ⟨rfl, h1⟩
    obtain ⟨g1, g2⟩ := h.found hf
    exact ⟨_, _, i, rfl, g1, g2, fun n hn hfn => ha n hn (PoS.find_keep (f := { P.fr i with again := true }) hi hp hp rfl hfn), h1⟩
  | none =>
    obtain ⟨j, hj⟩ := h.free hq hf
    obtain ⟨hj3, hjn, _⟩ := PoS.free_some hj
    have hbl := ha q (by omega) hf
    have hz := h.zero j hj3 hjn
    have hg := poolGet_new w0 w R b P m q j (by rw [q2, hr]; exact Nat.zero_lt_one) (by rw [q2]; decide) (by omega) (by omega) (by omega) (by omega) hf hj (by rw [q1]; exact hA)
    rw [q2, hbl] at hg
    refine hg.mono ?_
    rintro e w' (⟨_, k, rfl, h1⟩ | ⟨hno, _⟩)
    · rw [q2, (dec_zs 0 q).2, hz, q1] at h1
      refine ⟨k, _, j, rfl, h.come hj3 hjn ⟨k, some ⟨0, 0, q, zs 200⟩, 0, true⟩ ⟨0, 0, q, zs 200⟩ rfl ⟨zs_len 200, show (0 : Nat) < 2 ^ 64 by decide, show (0 : Nat) < 65536 by decide, by show q < 65536; omega⟩ hq hf rfl, ?_, ?_, h1⟩
      · have h0 := PoS.find_iff.1 hf
        cases hf2 : (P.setFr j ⟨k, some ⟨0, 0, q, zs 200⟩, 0, true⟩).find q with
        | none => exact absurd rfl (PoS.find_iff.1 hf2 j hj3 ⟨0, 0, q, zs 200⟩ (by rw [P.fr_set hj3]))
        | some i =>
          obtain ⟨hi, hh⟩ := PoS.find_some hf2
          obtain ⟨p, hp, hnum, _⟩ := Fr.has_pg hh
          by_cases hij : i = j
          · rw [hij]
          · rw [P.fr_ne hj3 hi hij] at hp
            exact absurd (by omega) (h0 i hi p hp)
      · intro n hn hfn
        refine ha n hn (PoS.find_iff.2 fun i hi p hp => ?_)
        by_cases hij : i = j
        · subst hij
          rw [hjn] at hp
          cases hp
        · exact PoS.find_iff.1 hfn i hi p (by rw [P.fr_ne hj3 hi hij]; exact hp)
    · rw [q2] at hno
      exact absurd ((dec_zs 0 q).1.symm.trans hno) (by decide)
end Go.Proofs.Ytmlifjfgelfbbaa
