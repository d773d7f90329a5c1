/-
  What writes, barriers and crashes come to, region by region: plain lists, no program.
-/
import Derived.Test.YtgkibjjcdcpkfaaLe
namespace Go.Proofs.Ytgkibjjcdcpkfaa
open Go Go.RowKit

/-- What of a sector is sure; the writes of a region that aren't. -/
def Dk.dat (m : Dk) (r s : Nat) : List UInt8 := (m.data[r * m.size + s]?).getD []
def Dk.wts (m : Dk) (r : Nat) : List (Nat × List UInt8) := ((m.regs[r]?).map (·.waits)).getD []
def Dk.armd (m : Dk) (r : Nat) : Bool := ((m.regs[r]?).map (·.armed)).getD false
theorem Dk.sec_eq (m : Dk) (r s : Nat) : m.sec r s = (lastOf s (m.wts r)).getD (m.dat r s) := rfl
theorem Dk.sec_nil {m : Dk} {r : Nat} (h : m.wts r = []) (s : Nat) : m.sec r s = m.dat r s := by rw [Dk.sec_eq, h]; rfl
theorem Dk.down_un {m : Dk} {r : Nat} (h : m.armd r = false) : m.downAt r = false := by
  unfold Dk.armd at h
  unfold Dk.downAt
  cases hq : m.regs[r]? with
  | none => rfl
  | some x =>
    rw [hq] at h
    simp only [Option.map_some, Option.getD_some] at h ⊢
    unfold Reg.down
    rw [h]
    rfl

theorem bit_full (k : Nat) : bitB fullMask k = true := by
  have h : ∀ i : Fin 64, fullMask / 2 ^ i.val % 2 = 1 := by decide
  unfold bitB
  rw [decide_eq_true_iff]
  exact h ⟨k % 64, Nat.mod_lt _ (by decide)⟩
theorem keepTo_at_full (base s : Nat) : ∀ (l : List (Nat × List UInt8)) (k : Nat) (d : List (List UInt8)), (base + s < d.length) → (keepTo base fullMask k l d)[base + s]? = some ((lastOf s l).getD ((d[base + s]?).getD []))
  | [], k, d, h => by
    show d[base + s]? = _
    rw [List.getElem?_eq_getElem h]
    rfl
  | p :: l, k, d, h => by
    rw [keepTo, if_pos (bit_full k), keepTo_at_full base s l (k + 1) (d.set (base + p.1) p.2) (by simpa using h), lastOf]
    congr 1
    by_cases hp : p.1 = s
    · subst hp
      rw [List.getElem?_set_self h, if_pos rfl]
      cases lastOf p.1 l <;> rfl
    · rw [List.getElem?_set_ne (by omega), if_neg hp]
      cases lastOf s l <;> rfl
theorem keepTo_other (base mask j : Nat) : ∀ (l : List (Nat × List UInt8)) (k : Nat) (d : List (List UInt8)), (∀ p ∈ l, base + p.1 ≠ j) → (keepTo base mask k l d)[j]? = d[j]?
  | [], _, _, _ => rfl
  | p :: l, k, d, h => by
    rw [keepTo, keepTo_other base mask j l (k + 1) _ fun q hq => h q (List.mem_cons_of_mem _ hq)]
    split
    · rw [List.getElem?_set_ne (h p List.mem_cons_self)]
    · rfl
theorem keepTo_any (base mask s : Nat) : ∀ (l : List (Nat × List UInt8)) (k : Nat) (d : List (List UInt8)), (base + s < d.length) →
    (keepTo base mask k l d)[base + s]? = d[base + s]? ∨ ∃ x, (s, x) ∈ l ∧ (keepTo base mask k l d)[base + s]? = some x
  | [], _, _, _ => .inl rfl
  | p :: l, k, d, h => by
    rw [keepTo]
    split
    · rcases keepTo_any base mask s l (k + 1) (d.set (base + p.1) p.2) (by simpa using h) with h1 | ⟨x, h1, h2⟩
      · by_cases hp : p.1 = s
        · subst hp
          rw [List.getElem?_set_self h] at h1
          exact .inr ⟨p.2, List.mem_cons_self, h1⟩
        · rw [List.getElem?_set_ne (by omega)] at h1
          exact .inl h1
      · exact .inr ⟨x, List.mem_cons_of_mem _ h1, h2⟩
    · rcases keepTo_any base mask s l (k + 1) d h with h1 | ⟨x, h1, h2⟩
      · exact .inl h1
      · exact .inr ⟨x, List.mem_cons_of_mem _ h1, h2⟩

theorem Dk.wts_mem {m : Dk} (hm : m.Wf) {r : Nat} {p : Nat × List UInt8} (h : p ∈ m.wts r) : p.2.length = 64 ∧ p.1 < m.size := by
  unfold Dk.wts at h
  cases hq : m.regs[r]? with
  | none => rw [hq] at h; cases h
  | some x =>
    rw [hq] at h
    exact (hm.waits x (List.mem_of_getElem? hq)).2 p h

/-- Nothing changed but in region r. -/
structure Same (m m' : Dk) (r : Nat) : Prop where
  regs : m'.regs.length = m.regs.length
  size : m'.size = m.size
  wts : ∀ q, q ≠ r → m'.wts q = m.wts q
  dat : ∀ q s, q ≠ r → q < m.regs.length → s < m.size → m'.dat q s = m.dat q s
  armd : ∀ q, q ≠ r → m'.armd q = m.armd q
theorem Same.rfl' (m : Dk) (r : Nat) : Same m m r := ⟨rfl, rfl, fun _ _ => rfl, fun _ _ _ _ _ => rfl, fun _ _ => rfl⟩
theorem Same.trans {a b c : Dk} {r : Nat} (h : Same a b r) (g : Same b c r) : Same a c r :=
  ⟨g.regs.trans h.regs, g.size.trans h.size, fun q hq => (g.wts q hq).trans (h.wts q hq), fun q s hq hr hs => (g.dat q s hq (by rw [h.regs]; exact hr) (by rw [h.size]; exact hs)).trans (h.dat q s hq hr hs), fun q hq => (g.armd q hq).trans (h.armd q hq)⟩

/-! ### Writes -/
theorem Dk.write_regs {m : Dk} {r s : Nat} {x : List UInt8} (q : Nat) : (m.write r s x).regs[q]? = if q = r then (m.regs[q]?).map (fun g => g.write s x) else m.regs[q]? := by
  unfold Dk.write
  simp only [List.getElem?_modify]
  by_cases h : r = q
  · simp only [h, if_true]
    rfl
  · simp only [h, if_false, if_neg (fun e : q = r => h e.symm)]
    cases m.regs[q]? <;> rfl
theorem Dk.write_wts {m : Dk} {r s : Nat} {x : List UInt8} (hr : r < m.regs.length) : (m.write r s x).wts r = m.wts r ++ [(s, pad x)] := by
  unfold Dk.wts
  rw [Dk.write_regs, if_pos rfl, List.getElem?_eq_getElem hr]
  rfl
theorem Dk.write_armd {m : Dk} {r s : Nat} {x : List UInt8} (q : Nat) : (m.write r s x).armd q = m.armd q := by
  unfold Dk.armd
  rw [Dk.write_regs]
  split
  · cases m.regs[q]? <;> rfl
  · rfl
theorem Dk.write_dat {m : Dk} {r s : Nat} {x : List UInt8} (q t : Nat) : (m.write r s x).dat q t = m.dat q t := rfl
theorem Dk.write_same {m : Dk} {r s : Nat} {x : List UInt8} : Same m (m.write r s x) r :=
  ⟨by simp [Dk.write], rfl, fun q hq => by unfold Dk.wts; rw [Dk.write_regs, if_neg hq], fun _ _ _ _ _ => rfl, fun q _ => Dk.write_armd q⟩
theorem Dk.write_sec {m : Dk} {r s : Nat} {x : List UInt8} (hr : r < m.regs.length) (t : Nat) : (m.write r s x).sec r t = if t = s then pad x else m.sec r t := by
  rw [Dk.sec_eq, Dk.sec_eq, Dk.write_wts hr, lastOf_append, Dk.write_dat]
  by_cases h : t = s
  · subst h
    rw [if_pos rfl]
    simp [lastOf]
  · rw [if_neg h]
    have : lastOf t [(s, pad x)] = none := lastOf_none fun p hp => by rw [List.mem_singleton.1 hp]; exact fun e => h e.symm
    rw [this]
    rfl

/-! ### Barriers -/
theorem Dk.keep_regs_at {m : Dk} {r mask : Nat} (hr : r < m.regs.length) (q : Nat) : (m.keep r mask).regs[q]? = if q = r then (m.regs[q]?).map (fun g => ⟨[], g.armed, g.left⟩) else m.regs[q]? := by
  rw [Dk.keep_eq mask hr]
  simp only
  by_cases h : q = r
  · subst h
    rw [if_pos rfl, List.getElem?_set_self hr, List.getElem?_eq_getElem hr]
    rfl
  · rw [if_neg h, List.getElem?_set_ne (fun e => h e.symm)]
theorem Dk.keep_wts {m : Dk} {r mask : Nat} (hr : r < m.regs.length) : (m.keep r mask).wts r = [] := by
  unfold Dk.wts
  rw [Dk.keep_regs_at hr, if_pos rfl, List.getElem?_eq_getElem hr]
  rfl
theorem Dk.keep_armd {m : Dk} {r mask : Nat} (hr : r < m.regs.length) (q : Nat) : (m.keep r mask).armd q = m.armd q := by
  unfold Dk.armd
  rw [Dk.keep_regs_at hr]
  split
  · cases m.regs[q]? <;> rfl
  · rfl
theorem Dk.wts_at {m : Dk} {r : Nat} (hr : r < m.regs.length) : m.regs[r].waits = m.wts r := by
  unfold Dk.wts
  rw [List.getElem?_eq_getElem hr]
  rfl
theorem Dk.keep_dat {m : Dk} (hm : m.Wf) {r s : Nat} (hr : r < m.regs.length) (hs : s < m.size) : (m.keep r fullMask).dat r s = m.sec r s := by
  rw [Dk.keep_eq fullMask hr]
  unfold Dk.dat
  simp only
  rw [keepTo_at_full _ _ _ _ _ (hm.at_lt hr hs), Dk.wts_at hr]
  rfl
theorem Dk.keep_dat_any {m : Dk} (hm : m.Wf) {r s mask : Nat} (hr : r < m.regs.length) (hs : s < m.size) : (m.keep r mask).dat r s = m.dat r s ∨ (s, (m.keep r mask).dat r s) ∈ m.wts r := by
  have h := keepTo_any (r * m.size) mask s (m.wts r) 0 m.data (hm.at_lt hr hs)
  rw [Dk.keep_eq mask hr]
  unfold Dk.dat
  simp only
  rw [Dk.wts_at hr]
  rcases h with h | ⟨x, h1, h2⟩
  · left; rw [h]
  · right; rw [h2]; exact h1
theorem Dk.keep_dat_other {m : Dk} (hm : m.Wf) {r q s mask : Nat} (hr : r < m.regs.length) (hqr : q ≠ r) (hs : s < m.size) : (m.keep r mask).dat q s = m.dat q s := by
  rw [Dk.keep_eq mask hr]
  unfold Dk.dat
  simp only
  rw [keepTo_other]
  intro p hp
  have h1 := ((hm.waits _ (List.getElem_mem hr)).2 p hp).2
  intro e
  rcases Nat.lt_or_gt_of_ne hqr with h | h
  · have : (q + 1) * m.size ≤ r * m.size := Nat.mul_le_mul_right _ h
    rw [Nat.add_mul] at this
    omega
  · have : (r + 1) * m.size ≤ q * m.size := Nat.mul_le_mul_right _ h
    rw [Nat.add_mul] at this
    omega
theorem Dk.keep_same {m : Dk} (hm : m.Wf) {r mask : Nat} (hr : r < m.regs.length) : Same m (m.keep r mask) r :=
  ⟨(m.keep_regs r mask).1, (m.keep_regs r mask).2.1, fun q hq => by unfold Dk.wts; rw [Dk.keep_regs_at hr, if_neg hq], fun q s hq _ hs => Dk.keep_dat_other hm hr hq hs, fun q _ => Dk.keep_armd hr q⟩

/-! ### Crashes -/
theorem Dk.set_regs {m : Dk} {r : Nat} {x : Reg} (hr : r < m.regs.length) (q : Nat) : (m.setReg r x).regs[q]? = if q = r then some x else m.regs[q]? := by
  unfold Dk.setReg
  simp only
  by_cases h : q = r
  · subst h
    rw [if_pos rfl, List.getElem?_set_self hr]
  · rw [if_neg h, List.getElem?_set_ne (fun e => h e.symm)]
theorem Dk.crash1_at {mask : Nat} {m : Dk} (hm : m.Wf) {r : Nat} (hr : r < m.regs.length) : (m.crash1 mask r).wts r = [] ∧ (m.crash1 mask r).armd r = false ∧ (∀ s, s < m.size → (m.crash1 mask r).dat r s = m.dat r s ∨ (s, (m.crash1 mask r).dat r s) ∈ m.wts r) ∧ Same m (m.crash1 mask r) r ∧ (m.crash1 mask r).Wf := by
  rw [Dk.crash1_eq mask hr]
  have hk := (m.keep_regs r mask).1
  have hr' : r < (m.keep r mask).regs.length := by rw [hk]; exact hr
  have hs := Dk.keep_same (mask := mask) hm hr
  refine ⟨?_, ?_, fun s hs => Dk.keep_dat_any hm hr hs, ?_, ?_⟩
  · unfold Dk.wts; rw [Dk.set_regs hr', if_pos rfl]; rfl
  · unfold Dk.armd; rw [Dk.set_regs hr', if_pos rfl]; rfl
  · refine hs.trans ⟨by simp [Dk.setReg], rfl, fun q hq => by unfold Dk.wts; rw [Dk.set_regs hr', if_neg hq], fun _ _ _ _ _ => rfl, fun q hq => by unfold Dk.armd; rw [Dk.set_regs hr', if_neg hq]⟩
  · exact (hm.keep mask hr).setReg ⟨Nat.zero_le _, fun p hp => by simp at hp⟩ (hm.lefts m.regs[r] (List.getElem_mem hr))
theorem Dk.crashTo_at {mask : Nat} {m : Dk} (hm : m.Wf) : ∀ n, n ≤ m.regs.length → (m.crashTo mask n).Wf ∧ (∀ r, r < n → (m.crashTo mask n).wts r = [] ∧ (m.crashTo mask n).armd r = false ∧ ∀ s, s < m.size → (m.crashTo mask n).dat r s = m.dat r s ∨ (s, (m.crashTo mask n).dat r s) ∈ m.wts r) ∧
    (∀ r, n ≤ r → r < m.regs.length → (m.crashTo mask n).wts r = m.wts r ∧ ∀ s, s < m.size → (m.crashTo mask n).dat r s = m.dat r s)
  | 0, _ => ⟨hm, fun r h => absurd h (Nat.not_lt_zero _), fun r _ _ => ⟨rfl, fun _ _ => rfl⟩⟩
  | n + 1, hn => by
    obtain ⟨h1, h2, h3⟩ := Dk.crashTo_at (mask := mask) hm n (by omega)
    have hg := m.crashTo_regs mask n
    have hnl : n < (m.crashTo mask n).regs.length := by rw [hg.1]; exact hn
    obtain ⟨c1, c2, c3, c4, c5⟩ := Dk.crash1_at (mask := mask) h1 hnl
    rw [Dk.crashTo_succ]
    refine ⟨c5, fun r hr => ?_, fun r hr hr2 => ?_⟩
    · by_cases hrn : r = n
      · subst hrn
        have h4 := h3 r (Nat.le_refl _) (by omega)
        refine ⟨c1, c2, fun s hs => ?_⟩
        have := c3 s (by rw [hg.2.1]; exact hs)
        rw [h4.1, h4.2 s hs] at this
        exact this
      · have h4 := h2 r (by omega)
        refine ⟨(c4.wts r hrn).trans h4.1, (c4.armd r hrn).trans h4.2.1, fun s hs => ?_⟩
        rw [c4.dat r s hrn (by rw [hg.1]; omega) (by rw [hg.2.1]; exact hs)]
        exact h4.2.2 s hs
    · have h4 := h3 r (by omega) hr2
      refine ⟨(c4.wts r (by omega)).trans h4.1, fun s hs => ?_⟩
      rw [c4.dat r s (by omega) (by rw [hg.1]; omega) (by rw [hg.2.1]; exact hs)]
      exact h4.2 s hs
theorem Dk.crash_at {mask : Nat} {m : Dk} (hm : m.Wf) : (m.crash mask).Wf ∧ (m.crash mask).regs.length = m.regs.length ∧ (m.crash mask).size = m.size ∧ (m.crash mask).writes = m.writes ∧
    ∀ r, r < m.regs.length → (m.crash mask).wts r = [] ∧ (m.crash mask).armd r = false ∧ ∀ s, s < m.size → (m.crash mask).dat r s = m.dat r s ∨ (s, (m.crash mask).dat r s) ∈ m.wts r := by
  obtain ⟨h1, h2, _⟩ := Dk.crashTo_at (mask := mask) hm m.regs.length (Nat.le_refl _)
  have := m.crashTo_regs mask m.regs.length
  exact ⟨h1, this.1, this.2.1, this.2.2, h2⟩
end Go.Proofs.Ytgkibjjcdcpkfaa
