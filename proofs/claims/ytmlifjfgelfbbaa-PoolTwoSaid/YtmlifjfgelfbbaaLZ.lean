/-
  What writes, barriers and crashes come to, region by region: plain lists, no program.
  What a lane's writes come to, in its region: plain lists, no program.
  A record comes back from its frame: plain lists, no program.
  A lane's region, and what is opened of it: plain lists, no program.
  A lane at rest, torn, opened: plain lists, no program.
  A lane and its region: what Append, Flush, Anew, crashes and Open leave: plain lists, no program.
-/
import Derived.Test.YtmlifjfgelfbbaaLe
/-! ## Dz -/
namespace Go.Proofs.Ytmlifjfgelfbbaa
open Go Go.RowKit

/-- What of a sector is sure; the writes of a region that aren't. -/
def Dk.dat (m : Dk) (r s : Nat) : List UInt8 := (m.data[r * m.size + s]?).getD []
def Dk.wts (m : Dk) (r : Nat) : List (Nat × List UInt8) := ((m.regs[r]?).map (·.waits)).getD []
def Dk.armd (m : Dk) (r : Nat) : Bool := ((m.regs[r]?).map (·.armed)).getD false
theorem Dk.sec_eq (m : Dk) (r s : Nat) : m.sec r s = (lastOf s (m.wts r)).getD (m.dat r s) := rfl
theorem Dk.sec_nil {m : Dk} {r : Nat} (h : m.wts r = []) (s : Nat) : m.sec r s = m.dat r s := by rw [Dk.sec_eq, h]; rfl
theorem Dk.down_un {m : Dk} {r : Nat} (h : m.armd r = false) : m.downAt r = false := by
  unfold Dk.armd at h
  unfold Dk.downAt
  cases hq : m.regs[r]? with
  | none => rfl
  | some x =>
    rw [hq] at h
    simp only [Option.map_some, Option.getD_some] at h ⊢
    unfold Reg.down
    rw [h]
    rfl

theorem bit_full (k : Nat) : bitB fullMask k = true := by
  have h : ∀ i : Fin 64, fullMask / 2 ^ i.val % 2 = 1 := by decide
  unfold bitB
  rw [decide_eq_true_iff]
  exact h ⟨k % 64, Nat.mod_lt _ (by decide)⟩
theorem keepTo_at_full (base s : Nat) : ∀ (l : List (Nat × List UInt8)) (k : Nat) (d : List (List UInt8)), (base + s < d.length) → (keepTo base fullMask k l d)[base + s]? = some ((lastOf s l).getD ((d[base + s]?).getD []))
  | [], k, d, h => by
    show d[base + s]? = _
    rw [List.getElem?_eq_getElem h]
    rfl
  | p :: l, k, d, h => by
    rw [keepTo, if_pos (bit_full k), keepTo_at_full base s l (k + 1) (d.set (base + p.1) p.2) (by simpa using h), lastOf]
    congr 1
    by_cases hp : p.1 = s
    · subst hp
      rw [List.getElem?_set_self h, if_pos rfl]
      cases lastOf p.1 l <;> rfl
    · rw [List.getElem?_set_ne (by omega), if_neg hp]
      cases lastOf s l <;> rfl
theorem keepTo_other (base mask j : Nat) : ∀ (l : List (Nat × List UInt8)) (k : Nat) (d : List (List UInt8)), (∀ p ∈ l, base + p.1 ≠ j) → (keepTo base mask k l d)[j]? = d[j]?
  | [], _, _, _ => rfl
  | p :: l, k, d, h => by
    rw [keepTo, keepTo_other base mask j l (k + 1) _ fun q hq => h q (List.mem_cons_of_mem _ hq)]
    split
    · rw [List.getElem?_set_ne (h p List.mem_cons_self)]
    · rfl
theorem keepTo_any (base mask s : Nat) : ∀ (l : List (Nat × List UInt8)) (k : Nat) (d : List (List UInt8)), (base + s < d.length) →
    (keepTo base mask k l d)[base + s]? = d[base + s]? ∨ ∃ x, (s, x) ∈ l ∧ (keepTo base mask k l d)[base + s]? = some x
  | [], _, _, _ => .inl rfl
  | p :: l, k, d, h => by
    rw [keepTo]
    split
    · rcases keepTo_any base mask s l (k + 1) (d.set (base + p.1) p.2) (by simpa using h) with h1 | ⟨x, h1, h2⟩
      · by_cases hp : p.1 = s
        · subst hp
          rw [List.getElem?_set_self h] at h1
          exact .inr ⟨p.2, List.mem_cons_self, h1⟩
        · rw [List.getElem?_set_ne (by omega)] at h1
          exact .inl h1
      · exact .inr ⟨x, List.mem_cons_of_mem _ h1, h2⟩
    · rcases keepTo_any base mask s l (k + 1) d h with h1 | ⟨x, h1, h2⟩
      · exact .inl h1
      · exact .inr ⟨x, List.mem_cons_of_mem _ h1, h2⟩

theorem Dk.wts_mem {m : Dk} (hm : m.Wf) {r : Nat} {p : Nat × List UInt8} (h : p ∈ m.wts r) : p.2.length = 64 ∧ p.1 < m.size := by
  unfold Dk.wts at h
  cases hq : m.regs[r]? with
  | none => rw [hq] at h; cases h
  | some x =>
    rw [hq] at h
    exact (hm.waits x (List.mem_of_getElem? hq)).2 p h

/-- Nothing changed but in region r. -/
structure Same (m m' : Dk) (r : Nat) : Prop where
  regs : m'.regs.length = m.regs.length
  size : m'.size = m.size
  wts : ∀ q, q ≠ r → m'.wts q = m.wts q
  dat : ∀ q s, q ≠ r → q < m.regs.length → s < m.size → m'.dat q s = m.dat q s
  armd : ∀ q, q ≠ r → m'.armd q = m.armd q
theorem Same.rfl' (m : Dk) (r : Nat) : Same m m r := ⟨rfl, rfl, fun _ _ => rfl, fun _ _ _ _ _ => rfl, fun _ _ => rfl⟩
theorem Same.trans {a b c : Dk} {r : Nat} (h : Same a b r) (g : Same b c r) : Same a c r :=
  ⟨g.regs.trans h.regs, g.size.trans h.size, fun q hq => (g.wts q hq).trans (h.wts q hq), fun q s hq hr hs => (g.dat q s hq (by rw [h.regs]; exact hr) (by rw [h.size]; exact hs)).trans (h.dat q s hq hr hs), fun q hq => (g.armd q hq).trans (h.armd q hq)⟩

/-! ### Writes -/
theorem Dk.write_regs {m : Dk} {r s : Nat} {x : List UInt8} (q : Nat) : (m.write r s x).regs[q]? = if q = r then (m.regs[q]?).map (fun g => g.write s x) else m.regs[q]? := by
  unfold Dk.write
  simp only [List.getElem?_modify]
  by_cases h : r = q
  · simp only [h, if_true]
    rfl
  · simp only [h, if_false, if_neg (fun e : q = r => h e.symm)]
    cases m.regs[q]? <;> rfl
theorem Dk.write_wts {m : Dk} {r s : Nat} {x : List UInt8} (hr : r < m.regs.length) : (m.write r s x).wts r = m.wts r ++ [(s, pad x)] := by
  unfold Dk.wts
  rw [Dk.write_regs, if_pos rfl, List.getElem?_eq_getElem hr]
  rfl
theorem Dk.write_armd {m : Dk} {r s : Nat} {x : List UInt8} (q : Nat) : (m.write r s x).armd q = m.armd q := by
  unfold Dk.armd
  rw [Dk.write_regs]
  split
  · cases m.regs[q]? <;> rfl
  · rfl
theorem Dk.write_dat {m : Dk} {r s : Nat} {x : List UInt8} (q t : Nat) : (m.write r s x).dat q t = m.dat q t := rfl
theorem Dk.write_same {m : Dk} {r s : Nat} {x : List UInt8} : Same m (m.write r s x) r :=
  ⟨by simp [Dk.write], rfl, fun q hq => by unfold Dk.wts; rw [Dk.write_regs, if_neg hq], fun _ _ _ _ _ => rfl, fun q _ => Dk.write_armd q⟩
theorem Dk.write_sec {m : Dk} {r s : Nat} {x : List UInt8} (hr : r < m.regs.length) (t : Nat) : (m.write r s x).sec r t = if t = s then pad x else m.sec r t := by
  rw [Dk.sec_eq, Dk.sec_eq, Dk.write_wts hr, lastOf_append, Dk.write_dat]
  by_cases h : t = s
  · subst h
    rw [if_pos rfl]
    simp [lastOf]
  · rw [if_neg h]
    have : lastOf t [(s, pad x)] = none := lastOf_none fun p hp => by rw [List.mem_singleton.1 hp]; exact fun e => h e.symm
    rw [this]
    rfl

/-! ### Barriers -/
theorem Dk.keep_regs_at {m : Dk} {r mask : Nat} (hr : r < m.regs.length) (q : Nat) : (m.keep r mask).regs[q]? = if q = r then (m.regs[q]?).map (fun g => ⟨[], g.armed, g.left⟩) else m.regs[q]? := by
  rw [Dk.keep_eq mask hr]
  simp only
  by_cases h : q = r
  · subst h
    rw [if_pos rfl, List.getElem?_set_self hr, List.getElem?_eq_getElem hr]
    rfl
  · rw [if_neg h, List.getElem?_set_ne (fun e => h e.symm)]
theorem Dk.keep_wts {m : Dk} {r mask : Nat} (hr : r < m.regs.length) : (m.keep r mask).wts r = [] := by
  unfold Dk.wts
  rw [Dk.keep_regs_at hr, if_pos rfl, List.getElem?_eq_getElem hr]
  rfl
theorem Dk.keep_armd {m : Dk} {r mask : Nat} (hr : r < m.regs.length) (q : Nat) : (m.keep r mask).armd q = m.armd q := by
  unfold Dk.armd
  rw [Dk.keep_regs_at hr]
  split
  · cases m.regs[q]? <;> rfl
  · rfl
theorem Dk.wts_at {m : Dk} {r : Nat} (hr : r < m.regs.length) : m.regs[r].waits = m.wts r := by
  unfold Dk.wts
  rw [List.getElem?_eq_getElem hr]
  rfl
theorem Dk.keep_dat {m : Dk} (hm : m.Wf) {r s : Nat} (hr : r < m.regs.length) (hs : s < m.size) : (m.keep r fullMask).dat r s = m.sec r s := by
  rw [Dk.keep_eq fullMask hr]
  unfold Dk.dat
  simp only
  rw [keepTo_at_full _ _ _ _ _ (hm.at_lt hr hs), Dk.wts_at hr]
  rfl
theorem Dk.keep_dat_any {m : Dk} (hm : m.Wf) {r s mask : Nat} (hr : r < m.regs.length) (hs : s < m.size) : (m.keep r mask).dat r s = m.dat r s ∨ (s, (m.keep r mask).dat r s) ∈ m.wts r := by
  have h := keepTo_any (r * m.size) mask s (m.wts r) 0 m.data (hm.at_lt hr hs)
  rw [Dk.keep_eq mask hr]
  unfold Dk.dat
  simp only
  rw [Dk.wts_at hr]
  rcases h with h | ⟨x, h1, h2⟩
  · left; rw [h]
  · right; rw [h2]; exact h1
theorem Dk.keep_dat_other {m : Dk} (hm : m.Wf) {r q s mask : Nat} (hr : r < m.regs.length) (hqr : q ≠ r) (hs : s < m.size) : (m.keep r mask).dat q s = m.dat q s := by
  rw [Dk.keep_eq mask hr]
  unfold Dk.dat
  simp only
  rw [keepTo_other]
  intro p hp
  have h1 := ((hm.waits _ (List.getElem_mem hr)).2 p hp).2
  intro e
  rcases Nat.lt_or_gt_of_ne hqr with h | h
  · have : (q + 1) * m.size ≤ r * m.size := Nat.mul_le_mul_right _ h
    rw [Nat.add_mul] at this
    omega
  · have : (r + 1) * m.size ≤ q * m.size := Nat.mul_le_mul_right _ h
    rw [Nat.add_mul] at this
    omega
theorem Dk.keep_same {m : Dk} (hm : m.Wf) {r mask : Nat} (hr : r < m.regs.length) : Same m (m.keep r mask) r :=
  ⟨(m.keep_regs r mask).1, (m.keep_regs r mask).2.1, fun q hq => by unfold Dk.wts; rw [Dk.keep_regs_at hr, if_neg hq], fun q s hq _ hs => Dk.keep_dat_other hm hr hq hs, fun q _ => Dk.keep_armd hr q⟩

/-! ### Crashes -/
theorem Dk.set_regs {m : Dk} {r : Nat} {x : Reg} (hr : r < m.regs.length) (q : Nat) : (m.setReg r x).regs[q]? = if q = r then some x else m.regs[q]? := by
  unfold Dk.setReg
  simp only
  by_cases h : q = r
  · subst h
    rw [if_pos rfl, List.getElem?_set_self hr]
  · rw [if_neg h, List.getElem?_set_ne (fun e => h e.symm)]
theorem Dk.crash1_at {mask : Nat} {m : Dk} (hm : m.Wf) {r : Nat} (hr : r < m.regs.length) : (m.crash1 mask r).wts r = [] ∧ (m.crash1 mask r).armd r = false ∧ (∀ s, s < m.size → (m.crash1 mask r).dat r s = m.dat r s ∨ (s, (m.crash1 mask r).dat r s) ∈ m.wts r) ∧ Same m (m.crash1 mask r) r ∧ (m.crash1 mask r).Wf := by
  rw [Dk.crash1_eq mask hr]
  have hk := (m.keep_regs r mask).1
  have hr' : r < (m.keep r mask).regs.length := by rw [hk]; exact hr
  have hs := Dk.keep_same (mask := mask) hm hr
  refine ⟨?_, ?_, fun s hs => Dk.keep_dat_any hm hr hs, ?_, ?_⟩
  · unfold Dk.wts; rw [Dk.set_regs hr', if_pos rfl]; rfl
  · unfold Dk.armd; rw [Dk.set_regs hr', if_pos rfl]; rfl
  · refine hs.trans ⟨by simp [Dk.setReg], rfl, fun q hq => by unfold Dk.wts; rw [Dk.set_regs hr', if_neg hq], fun _ _ _ _ _ => rfl, fun q hq => by unfold Dk.armd; rw [Dk.set_regs hr', if_neg hq]⟩
  · exact (hm.keep mask hr).setReg ⟨Nat.zero_le _, fun p hp => by simp at hp⟩ (hm.lefts m.regs[r] (List.getElem_mem hr))
theorem Dk.crashTo_at {mask : Nat} {m : Dk} (hm : m.Wf) : ∀ n, n ≤ m.regs.length → (m.crashTo mask n).Wf ∧ (∀ r, r < n → (m.crashTo mask n).wts r = [] ∧ (m.crashTo mask n).armd r = false ∧ ∀ s, s < m.size → (m.crashTo mask n).dat r s = m.dat r s ∨ (s, (m.crashTo mask n).dat r s) ∈ m.wts r) ∧
    (∀ r, n ≤ r → r < m.regs.length → (m.crashTo mask n).wts r = m.wts r ∧ ∀ s, s < m.size → (m.crashTo mask n).dat r s = m.dat r s)
  | 0, _ => ⟨hm, fun r h => absurd h (Nat.not_lt_zero _), fun r _ _ => ⟨rfl, fun _ _ => rfl⟩⟩
  | n + 1, hn => by
    obtain ⟨h1, h2, h3⟩ := Dk.crashTo_at (mask := mask) hm n (by omega)
    have hg := m.crashTo_regs mask n
    have hnl : n < (m.crashTo mask n).regs.length := by rw [hg.1]; exact hn
    obtain ⟨c1, c2, c3, c4, c5⟩ := Dk.crash1_at (mask := mask) h1 hnl
    rw [Dk.crashTo_succ]
    refine ⟨c5, fun r hr => ?_, fun r hr hr2 => ?_⟩
    · by_cases hrn : r = n
      · subst hrn
        have h4 := h3 r (Nat.le_refl _) (by omega)
        refine ⟨c1, c2, fun s hs => ?_⟩
        have := c3 s (by rw [hg.2.1]; exact hs)
        rw [h4.1, h4.2 s hs] at this
        exact this
      · have h4 := h2 r (by omega)
        refine ⟨(c4.wts r hrn).trans h4.1, (c4.armd r hrn).trans h4.2.1, fun s hs => ?_⟩
        rw [c4.dat r s hrn (by rw [hg.1]; omega) (by rw [hg.2.1]; exact hs)]
        exact h4.2.2 s hs
    · have h4 := h3 r (by omega) hr2
      refine ⟨(c4.wts r (by omega)).trans h4.1, fun s hs => ?_⟩
      rw [c4.dat r s (by omega) (by rw [hg.1]; omega) (by rw [hg.2.1]; exact hs)]
      exact h4.2 s hs
theorem Dk.crash_at {mask : Nat} {m : Dk} (hm : m.Wf) : (m.crash mask).Wf ∧ (m.crash mask).regs.length = m.regs.length ∧ (m.crash mask).size = m.size ∧ (m.crash mask).writes = m.writes ∧
    ∀ r, r < m.regs.length → (m.crash mask).wts r = [] ∧ (m.crash mask).armd r = false ∧ ∀ s, s < m.size → (m.crash mask).dat r s = m.dat r s ∨ (s, (m.crash mask).dat r s) ∈ m.wts r := by
  obtain ⟨h1, h2, _⟩ := Dk.crashTo_at (mask := mask) hm m.regs.length (Nat.le_refl _)
  have := m.crashTo_regs mask m.regs.length
  exact ⟨h1, this.1, this.2.1, this.2.2, h2⟩
end Go.Proofs.Ytmlifjfgelfbbaa

/-! ## Lz -/
namespace Go.Proofs.Ytmlifjfgelfbbaa
open Go Go.RowKit

theorem Dk.wr_wf {m : Dk} (hm : m.Wf) {r s : Nat} {x : List UInt8} (hx : x.length ≤ 64) : (m.wr r s x).2.Wf := by
  unfold Dk.wr
  split
  · exact hm
  · split
    · exact hm
    · exact hm.write (by omega) hx
/-- Writes I behind those that wait, all, or the first of them. -/
structure Wrote (m : Dk) (r : Nat) (I : List (Nat × List UInt8)) (p : Nat × Dk) : Prop where
  wf : p.2.Wf
  same : Same m p.2 r
  code : p.1 = 0 ∨ p.1 = 10
  un : m.armd r = false → p.1 = 0
  armd : p.2.armd r = m.armd r
  dat : ∀ s, p.2.dat r s = m.dat r s
  ok : p.1 = 0 → p.2.wts r = m.wts r ++ I
  fail : p.1 ≠ 0 → ∃ J, J <+: I ∧ p.2.wts r = m.wts r ++ J
theorem Wrote.nil {m : Dk} (hm : m.Wf) (r : Nat) : Wrote m r [] (0, m) :=
  ⟨hm, Same.rfl' m r, .inl rfl, fun _ => rfl, rfl, fun _ => rfl, fun _ => (List.append_nil _).symm, fun h => absurd rfl h⟩
theorem Wrote.one {m : Dk} (hm : m.Wf) {r s : Nat} {x : List UInt8} (hr : r < m.regs.length) (hs : s < m.size) (hx : x.length ≤ 64) : Wrote m r [(s, pad x)] (m.wr r s x) := by
  unfold Dk.wr
  rw [if_neg (by omega)]
  split
  · rename_i hd
    exact ⟨hm, Same.rfl' m r, .inr rfl, (fun h => by rw [Dk.down_un h] at hd; cases hd), rfl, fun _ => rfl, (fun h => by cases h), fun _ => ⟨[], List.nil_prefix, (List.append_nil _).symm⟩⟩
  · exact ⟨hm.write hs hx, Dk.write_same, .inl rfl, fun _ => rfl, Dk.write_armd r, fun _ => rfl, fun _ => Dk.write_wts hr, fun h => absurd rfl h⟩
theorem Wrote.then {m : Dk} {r : Nat} {I K : List (Nat × List UInt8)} {p : Nat × Dk} {f : Dk → Nat × Dk} (h : Wrote m r I p) (g : p.1 = 0 → Wrote p.2 r K (f p.2)) : Wrote m r (I ++ K) (thenD p f) := by
  by_cases h0 : p.1 = 0
  · rw [thenD_0 h0]
    have hg := g h0
    refine ⟨hg.wf, h.same.trans hg.same, hg.code, fun hu => hg.un (by rw [h.armd]; exact hu), hg.armd.trans h.armd, fun s => (hg.dat s).trans (h.dat s), fun h1 => ?_, fun h1 => ?_⟩
    · rw [hg.ok h1, h.ok h0, List.append_assoc]
    · obtain ⟨J, ⟨t, rfl⟩, hj⟩ := hg.fail h1
      refine ⟨I ++ J, ⟨t, by rw [List.append_assoc]⟩, ?_⟩
      rw [hj, h.ok h0, List.append_assoc]
  · rw [thenD_e h0]
    refine ⟨h.wf, h.same, h.code, h.un, h.armd, h.dat, fun h1 => absurd h1 h0, fun h1 => ?_⟩
    obtain ⟨J, ⟨t, rfl⟩, hj⟩ := h.fail h1
    exact ⟨J, ⟨t ++ K, by rw [List.append_assoc]⟩, hj⟩
/-- Writes I, then a barrier. -/
structure Laid (m : Dk) (r : Nat) (I : List (Nat × List UInt8)) (p : Nat × Dk) : Prop where
  wf : p.2.Wf
  same : Same m p.2 r
  code : p.1 = 0 ∨ p.1 = 10
  un : m.armd r = false → p.1 = 0
  armd : p.2.armd r = m.armd r
  ok : p.1 = 0 → p.2.wts r = [] ∧ ∀ s, s < m.size → p.2.dat r s = (lastOf s (m.wts r ++ I)).getD (m.dat r s)
  fail : p.1 ≠ 0 → (∀ s, p.2.dat r s = m.dat r s) ∧ ∃ J, J <+: I ∧ p.2.wts r = m.wts r ++ J
theorem Wrote.bar {m : Dk} {r : Nat} {I : List (Nat × List UInt8)} {p : Nat × Dk} (hr : r < m.regs.length) (h : Wrote m r I p) : Laid m r I (thenD p fun m' => m'.bar r) := by
  by_cases h0 : p.1 = 0
  · rw [thenD_0 h0]
    have hr' : r < p.2.regs.length := by rw [h.same.regs]; exact hr
    unfold Dk.bar
    split
    · rename_i hd
      refine ⟨h.wf, h.same, .inr rfl, fun hu => ?_, h.armd, (fun h1 => by cases h1), fun _ => ⟨h.dat, I, List.prefix_refl _, h.ok h0⟩⟩
      rw [Dk.down_un (by rw [h.armd]; exact hu)] at hd
      cases hd
    · refine ⟨h.wf.keep fullMask hr', h.same.trans (Dk.keep_same h.wf hr'), .inl rfl, fun _ => rfl, (Dk.keep_armd hr' r).trans h.armd, fun _ => ⟨Dk.keep_wts hr', fun s hs => ?_⟩, fun h1 => absurd rfl h1⟩
      show (p.2.keep r fullMask).dat r s = _
      rw [Dk.keep_dat h.wf hr' (by rw [h.same.size]; exact hs), Dk.sec_eq, h.ok h0, h.dat]
  · rw [thenD_e h0]
    exact ⟨h.wf, h.same, h.code, h.un, h.armd, fun h1 => absurd h1 h0, fun h1 => ⟨h.dat, h.fail h1⟩⟩

/-! ### Wipe -/
def wipeI (m : Dk) (r s n : Nat) : List (Nat × List UInt8) := ((List.range' s n).filter fun t => m.sec r t ≠ zbys 64).map fun t => (t, zbys 64)
theorem pad_nil : pad [] = zbys 64 := rfl
theorem wipeI_step {m : Dk} {r s n : Nat} {x : List UInt8} (hr : r < m.regs.length) : wipeI (m.write r s x) r (s + 1) n = wipeI m r (s + 1) n := by
  unfold wipeI
  congr 1
  apply List.filter_congr
  intro t ht
  rw [List.mem_range'_1] at ht
  rw [Dk.write_sec hr, if_neg (by omega)]
theorem Dk.wipes_wrote {r : Nat} : ∀ (n s : Nat) {m : Dk}, m.Wf → r < m.regs.length → s + n ≤ m.size → Wrote m r (wipeI m r s n) (Dk.wipes r n s m)
  | 0, s, m, hm, _, _ => Wrote.nil hm r
  | n + 1, s, m, hm, hr, hs => by
    rw [Dk.wipes_succ, if_neg (by omega)]
    split
    · rename_i hz
      have : wipeI m r s (n + 1) = wipeI m r (s + 1) n := by
        unfold wipeI
        rw [List.range'_succ, List.filter_cons_of_neg (by simp [hz])]
      rw [this]
      exact Dk.wipes_wrote n (s + 1) hm hr (by omega)
    · rename_i hz
      have h1 := Wrote.one (x := []) hm hr (show s < m.size by omega) (by simp)
      have e : wipeI m r s (n + 1) = [(s, pad [])] ++ wipeI m r (s + 1) n := by
        unfold wipeI
        rw [List.range'_succ, List.filter_cons_of_pos (by simp [hz]), List.map_cons, pad_nil]
        rfl
      rw [e]
      refine h1.then fun h0 => ?_
      have e2 : m.wr r s [] = (0, m.write r s []) := by
        unfold Dk.wr at h0 ⊢
        rw [if_neg (by omega)] at h0 ⊢
        split at h0
        · cases h0
        · rename_i hd
          rw [if_neg hd]
      rw [e2]
      have := Dk.wipes_wrote n (s + 1) (hm.write (x := []) (show s < m.size by omega) (by simp)) (r := r) (by rw [(Dk.write_same (m := m) (r := r) (s := s) (x := [])).regs]; exact hr) (by
        show s + 1 + n ≤ m.size
        omega)
      rw [wipeI_step hr] at this
      exact this
theorem lastOf_wipe (m : Dk) (r t : Nat) : ∀ (n s : Nat), (lastOf t (wipeI m r s n)).getD (m.sec r t) = if s ≤ t ∧ t < s + n then zbys 64 else m.sec r t := by
  intro n s
  by_cases h : s ≤ t ∧ t < s + n
  · rw [if_pos h]
    by_cases hz : m.sec r t = zbys 64
    · have : lastOf t (wipeI m r s n) = none := lastOf_none fun p hp => by
        unfold wipeI at hp
        rw [List.mem_map] at hp
        obtain ⟨u, hu, rfl⟩ := hp
        rw [List.mem_filter] at hu
        rintro rfl
        simp [hz] at hu
      rw [this]
      exact hz
    · cases hl : lastOf t (wipeI m r s n) with
      | some x =>
        have := lastOf_mem hl
        unfold wipeI at this
        rw [List.mem_map] at this
        obtain ⟨u, _, hu⟩ := this
        simp only [Prod.mk.injEq] at hu
        exact hu.2.symm
      | none =>
        exfalso
        have hm : (t, zbys 64) ∈ wipeI m r s n := by
          unfold wipeI
          rw [List.mem_map]
          refine ⟨t, ?_, rfl⟩
          rw [List.mem_filter, List.mem_range'_1]
          exact ⟨h, by simp [hz]⟩
        obtain ⟨a, b, hab⟩ := List.append_of_mem hm
        rw [hab, lastOf_append] at hl
        have : lastOf t ((t, zbys 64) :: b) ≠ none := by
          rw [lastOf, if_pos rfl]
          cases lastOf t b <;> simp
        cases h2 : lastOf t ((t, zbys 64) :: b) with
        | none => exact this h2
        | some y => rw [h2] at hl; cases hl
  · rw [if_neg h]
    have : lastOf t (wipeI m r s n) = none := lastOf_none fun p hp => by
      unfold wipeI at hp
      rw [List.mem_map] at hp
      obtain ⟨u, hu, rfl⟩ := hp
      rw [List.mem_filter, List.mem_range'_1] at hu
      rintro rfl
      exact h hu.1
    rw [this]
    rfl
theorem Dk.wipe_laid {m : Dk} (hm : m.Wf) {r s t : Nat} (hr : r < m.regs.length) (ht : t ≤ m.size) (hs : s ≤ m.size) : Laid m r (wipeI m r s (t - s)) (m.wipe r s t) :=
  (Dk.wipes_wrote (t - s) s hm hr (by omega)).bar hr
/-- What a region's sectors are behind a wipe. -/
theorem Dk.wipe_dat {m : Dk} (hm : m.Wf) {r s t : Nat} (hr : r < m.regs.length) (ht : t ≤ m.size) (hs : s ≤ m.size) (h0 : (m.wipe r s t).1 = 0) (u : Nat) (hu : u < m.size) : (m.wipe r s t).2.dat r u = if s ≤ u ∧ u < t then zbys 64 else m.sec r u := by
  have h := ((Dk.wipe_laid hm hr ht hs).ok h0).2 u hu
  rw [h, lastOf_append]
  have h2 := lastOf_wipe m r u (t - s) s
  have e : ((lastOf u (wipeI m r s (t - s))).or (lastOf u (m.wts r))).getD (m.dat r u) = (lastOf u (wipeI m r s (t - s))).getD (m.sec r u) := by
    rw [Dk.sec_eq]
    cases lastOf u (wipeI m r s (t - s)) <;> rfl
  rw [e, h2]
  by_cases hc : s ≤ u ∧ u < t
  · rw [if_pos hc, if_pos (by omega)]
  · rw [if_neg hc, if_neg (by omega)]

/-! ### lay -/
def layI (f gen : Nat) (bs : List UInt8) (s n : Nat) : List (Nat × List UInt8) := (List.range' s n).map fun t => (f + t, pad (lsec gen bs t))
theorem Dk.lays_wrote {r f gen : Nat} {bs : List UInt8} : ∀ (n s : Nat) {m : Dk}, m.Wf → r < m.regs.length → f + (s + n) ≤ m.size → Wrote m r (layI f gen bs s n) (Dk.lays r f gen bs n s m)
  | 0, s, m, hm, _, _ => Wrote.nil hm r
  | n + 1, s, m, hm, hr, hs => by
    rw [Dk.lays_succ]
    have h1 := Wrote.one (x := lsec gen bs s) hm hr (show f + s < m.size by omega) (by rw [lsec_len]; have := lpart_len bs s; omega)
    have e : layI f gen bs s (n + 1) = [(f + s, pad (lsec gen bs s))] ++ layI f gen bs (s + 1) n := by
      unfold layI
      rw [List.range'_succ, List.map_cons]
      rfl
    rw [e]
    exact h1.then fun _ => Dk.lays_wrote n (s + 1) h1.wf (by rw [h1.same.regs]; exact hr) (by rw [h1.same.size]; omega)
theorem lastOf_lay (f gen : Nat) (bs : List UInt8) (t : Nat) : ∀ (n s : Nat), lastOf (f + t) (layI f gen bs s n) = if s ≤ t ∧ t < s + n then some (pad (lsec gen bs t)) else none
  | 0, s => by
    rw [if_neg (by omega)]
    rfl
  | n + 1, s => by
    have e : layI f gen bs s (n + 1) = (f + s, pad (lsec gen bs s)) :: layI f gen bs (s + 1) n := by
      unfold layI
      rw [List.range'_succ, List.map_cons]
    rw [e, lastOf, lastOf_lay f gen bs t n (s + 1)]
    by_cases h1 : t = s
    · subst h1
      rw [if_neg (by omega), if_pos rfl, if_pos (by omega)]
      rfl
    · have hne : ¬ ((f + s, pad (lsec gen bs s)).1 = f + t) := by
        show ¬ (f + s = f + t)
        omega
      rw [if_neg hne]
      by_cases h2 : s + 1 ≤ t ∧ t < s + 1 + n
      · rw [if_pos h2, if_pos (by omega)]
        rfl
      · rw [if_neg h2, if_neg (by omega)]
        rfl
theorem lastOf_lay_none {f gen : Nat} {bs : List UInt8} {u n s : Nat} (h : u < f + s ∨ f + (s + n) ≤ u) : lastOf u (layI f gen bs s n) = none := lastOf_none fun p hp => by
  unfold layI at hp
  rw [List.mem_map] at hp
  obtain ⟨t, ht, rfl⟩ := hp
  rw [List.mem_range'_1] at ht
  show f + t ≠ u
  omega
theorem Dk.lay_laid {m : Dk} (hm : m.Wf) {r bank gen fr : Nat} {bs : List UInt8} (hr : r < m.regs.length) (hb : bank ≤ 1) (hbs : bs.length ≤ 14336) (hfr : fr ≤ bs.length) (hsz : 514 ≤ m.size) :
    Laid m r (layI (fst bank) gen bs (fr / 56) (nsec bs.length - fr / 56)) (m.lay r bank gen bs fr) := by
  have h1 := nsec_le hbs
  have h2 : fr / 56 ≤ nsec bs.length := by unfold nsec; omega
  exact (Dk.lays_wrote (nsec bs.length - fr / 56) (fr / 56) hm hr (by unfold fst; omega)).bar hr
/-- What a bank's sectors are behind a laying. -/
theorem Dk.lay_dat {m : Dk} (hm : m.Wf) {r bank gen fr : Nat} {bs : List UInt8} (hr : r < m.regs.length) (hb : bank ≤ 1) (hbs : bs.length ≤ 14336) (hfr : fr ≤ bs.length) (hsz : 514 ≤ m.size) (h0 : (m.lay r bank gen bs fr).1 = 0) (t : Nat) (ht : t < 256) :
    (m.lay r bank gen bs fr).2.dat r (fst bank + t) = if fr / 56 ≤ t ∧ t < nsec bs.length then pad (lsec gen bs t) else m.sec r (fst bank + t) := by
  have h2 : fr / 56 ≤ nsec bs.length := by unfold nsec; omega
  rw [((Dk.lay_laid hm hr hb hbs hfr hsz).ok h0).2 _ (by unfold fst; omega), lastOf_append, lastOf_lay]
  by_cases h : fr / 56 ≤ t ∧ t < nsec bs.length
  · rw [if_pos h, if_pos (by omega)]
    rfl
  · rw [if_neg h, if_neg (by omega)]
    rfl
theorem Dk.lay_dat_out {m : Dk} (hm : m.Wf) {r bank gen fr : Nat} {bs : List UInt8} (hr : r < m.regs.length) (hb : bank ≤ 1) (hbs : bs.length ≤ 14336) (hfr : fr ≤ bs.length) (hsz : 514 ≤ m.size) (h0 : (m.lay r bank gen bs fr).1 = 0) (u : Nat) (hu : u < m.size) (ho : u < fst bank ∨ fst bank + 256 ≤ u) :
    (m.lay r bank gen bs fr).2.dat r u = m.sec r u := by
  have h1 := nsec_le hbs
  have h2 : fr / 56 ≤ nsec bs.length := by unfold nsec; omega
  rw [((Dk.lay_laid hm hr hb hbs hfr hsz).ok h0).2 _ hu, lastOf_append, lastOf_lay_none (by omega)]
  rfl
end Go.Proofs.Ytmlifjfgelfbbaa

/-! ## Rp -/
namespace Go.Proofs.Ytmlifjfgelfbbaa
open Go Go.RowKit

theorem take_app (a b : List UInt8) {n : Nat} (h : a.length = n) : (Rs.mk (a ++ b) false).take n = (a, ⟨b, false⟩) := by
  subst h
  unfold Rs.take Rs.fails
  rw [if_neg (by simp)]
  simp
theorem take_short (a : List UInt8) {n : Nat} (h : a.length < n) : (Rs.mk a false).take n = ([], ⟨a, true⟩) := by
  unfold Rs.take Rs.fails
  rw [if_pos (by simp; omega)]
theorem text_app (a b : List UInt8) (h : a.length < 256) : (Rs.mk (be 1 a.length ++ (a ++ b)) false).text = (a, ⟨b, false⟩) := by
  unfold Rs.text
  rw [take_app (be 1 a.length) (a ++ b) (be_len _ _)]
  simp only
  rw [num_be (by omega), take_app a b rfl]
theorem num_b8 {x : Int} (h0 : 0 ≤ x) (h : x < 256) : ((num [b8 x] : Nat) : Int) = x := by
  rw [num_cons]
  show ((b8 x).toNat * 256 ^ 0 + num [] : Nat) = x
  unfold b8
  rw [UInt8.toNat_ofNat']
  simp [num]
  omega
theorem sayN_flat (rest : List UInt8) : ∀ (l : List Nat) (i : Nat) (s : Rs), (∀ d ∈ l, d < 2 ^ 64) → s = ⟨l.flatMap (be 8) ++ rest, false⟩ → i ≤ l.length → sayN s i = (l.take i, ⟨(l.drop i).flatMap (be 8) ++ rest, false⟩) := by
  intro l i s hl hs hi
  induction i with
  | zero => rw [sayN, hs]; rfl
  | succ i ih =>
    rw [sayN, ih (by omega)]
    have hd : l.drop i = l[i] :: l.drop (i + 1) := (List.getElem_cons_drop (by omega)).symm
    simp only
    rw [hd, List.flatMap_cons, List.append_assoc, take_app (be 8 l[i]) _ (be_len _ _)]
    simp only
    rw [num_be (Nat.lt_of_lt_of_le (hl _ (List.getElem_mem _)) (by decide)), List.take_succ_eq_append_getElem (by omega)]
theorem tx_data (s : ByteArray) : tx s.data.toList = s := by
  unfold tx
  simp
theorem sayP_body {r : Rec} (h : r.Fair) : sayP r.body = (r, true) := by
  obtain ⟨kind, txn, page, slot, before, after, image, dirty⟩ := r
  obtain ⟨⟨k0, k1⟩, ⟨t0, t1⟩, ⟨p0, p1⟩, ⟨s0, s1⟩, hbe, haf, him, hdi, hnu⟩ := h
  simp only at k0 k1 t0 t1 p0 p1 s0 s1 hbe haf him hdi hnu
  have e : Rec.body ⟨kind, txn, page, slot, before, after, image, dirty⟩ = [b8 kind] ++ ([b8 txn] ++ ([b8 page] ++ ([b8 slot] ++ (be 1 before.data.toList.length ++ (before.data.toList ++ (be 1 after.data.toList.length ++ (after.data.toList ++ (be 2 image.data.toList.length ++ (image.data.toList ++ (be 1 dirty.length ++ (dirty.flatMap (be 8) ++ []))))))))))) := by
    unfold Rec.body
    simp only [List.append_assoc, List.cons_append, List.nil_append, List.append_nil, Array.length_toList]
    rfl
  have l1 : before.data.toList.length < 256 := by rw [Array.length_toList]; exact hbe
  have l2 : after.data.toList.length < 256 := by rw [Array.length_toList]; exact haf
  have l3 : image.data.toList.length < 65536 := by rw [Array.length_toList]; exact him
  rw [e]
  unfold sayP
  simp only
  rw [take_app [b8 kind] _ (n := 1) rfl]
  simp only
  rw [take_app [b8 txn] _ (n := 1) rfl]
  simp only
  rw [take_app [b8 page] _ (n := 1) rfl]
  simp only
  rw [take_app [b8 slot] _ (n := 1) rfl]
  simp only
  rw [text_app before.data.toList _ l1]
  simp only
  rw [text_app after.data.toList _ l2]
  simp only
  rw [take_app (be 2 image.data.toList.length) _ (n := 2) (be_len _ _)]
  simp only
  rw [num_be (by omega), take_app image.data.toList _ rfl]
  simp only
  rw [take_app (be 1 dirty.length) _ (n := 1) (be_len _ _)]
  simp only
  rw [num_be (by omega), sayN_flat [] dirty dirty.length _ hnu rfl (Nat.le_refl _)]
  simp only [List.take_length, List.drop_length, List.flatMap_nil, List.append_nil, tx_data, num_b8 k0 k1, num_b8 t0 t1, num_b8 p0 p1, num_b8 s0 s1]
  rfl
theorem Rec.body_len {r : Rec} (h : r.right = true) : r.body.length ≤ 393 := by
  unfold Rec.right at h
  simp only [Bool.and_eq_true, Bool.not_eq_true', Bool.or_eq_false_iff, decide_eq_false_iff_not] at h
  obtain ⟨⟨hk, ⟨hb, ha⟩, hi⟩, hd⟩ := h
  have c40 : ∀ {s : ByteArray}, cellB s = true → s.data.size ≤ 40 := fun {s} h => by
    unfold cellB at h
    simp only [Bool.or_eq_true, List.isEmpty_iff, beq_iff_eq] at h
    rcases h with h | h
    · have : s.toList.length = 0 := by rw [h]; rfl
      rw [ByteArray.toList_eq, Array.length_toList] at this
      omega
    · have : s.data.size = s.size := rfl
      omega
  have h1 := c40 hb
  have h2 := c40 ha
  have h3 : r.image.data.size ≤ 256 := by
    simp only [Bool.or_eq_true, List.isEmpty_iff, beq_iff_eq] at hi
    rcases hi with hi | hi
    · have : r.image.toList.length = 0 := by rw [hi]; rfl
      rw [ByteArray.toList_eq, Array.length_toList] at this
      omega
    · have : r.image.data.size = r.image.size := rfl
      omega
  have h4 : r.dirty.length ≤ 6 := by
    simp only [Bool.or_eq_true, Bool.and_eq_true, beq_iff_eq] at hd
    omega
  unfold Rec.body
  simp only [List.length_append, be_len, Array.length_toList, flat_len, List.length_cons, List.length_nil]
  omega
theorem Rec.body_pos (r : Rec) : 9 ≤ r.body.length := by
  unfold Rec.body
  simp only [List.length_append, be_len, Array.length_toList, flat_len, List.length_cons, List.length_nil]
  omega
theorem Rec.enc_length (r : Rec) : r.enc.length = 2 + r.body.length := by
  unfold Rec.enc
  rw [List.length_append, be_len]
/-- A frame says its record, whatever stands behind. -/
theorem decP_enc {r : Rec} (h : r.right = true) (hn : ∀ d ∈ r.dirty, d < 2 ^ 64) (more : List UInt8) : decP (r.enc ++ more) = some (r, r.enc.length) := by
  have hl := Rec.body_len h
  unfold decP
  simp only
  have e : r.enc ++ more = be 2 r.body.length ++ (r.body ++ more) := by unfold Rec.enc; rw [List.append_assoc]
  rw [e, take_app (be 2 r.body.length) _ (n := 2) (be_len _ _)]
  simp only
  rw [num_be (by omega), take_app r.body more rfl]
  simp only
  rw [sayP_body (Rec.fair h hn)]
  simp [h, Rec.enc_length]
/-- A frame that isn't whole says none. -/
theorem decP_short {r : Rec} (h : r.right = true) {k : Nat} (hk : k < r.enc.length) : decP (r.enc.take k) = none := by
  have hl := Rec.body_len h
  have hp := Rec.body_pos r
  have hel := r.enc_length
  unfold decP
  simp only
  by_cases h2 : k < 2
  · have hlen : (r.enc.take k).length < 2 := by rw [List.length_take]; omega
    rw [take_short _ hlen]
    simp only
    rw [if_pos]
    unfold Rs.take Rs.fails
    simp
  · have e : r.enc.take k = be 2 r.body.length ++ r.body.take (k - 2) := by
      unfold Rec.enc
      rw [List.take_append, be_len, List.take_of_length_le (by rw [be_len]; omega)]
    rw [e, take_app (be 2 r.body.length) _ (n := 2) (be_len _ _)]
    simp only
    rw [num_be (by omega), take_short _ (by rw [List.length_take]; omega)]
    rfl
end Go.Proofs.Ytmlifjfgelfbbaa

/-! ## Lq -/
namespace Go.Proofs.Ytmlifjfgelfbbaa
open Go Go.RowKit

structure Good (r : Rec) : Prop where
  right : r.right = true
  nums : ∀ d ∈ r.dirty, d < 2 ^ 64
def encR (l : List Rec) : List UInt8 := l.flatMap Rec.enc
theorem encR_cons (r : Rec) (l : List Rec) : encR (r :: l) = r.enc ++ encR l := by unfold encR; rw [List.flatMap_cons]
theorem encR_append (a b : List Rec) : encR (a ++ b) = encR a ++ encR b := by unfold encR; rw [List.flatMap_append]
def places (gen : Nat) : Nat → List Rec → List (Nat × Rec)
  | _, [] => []
  | pos, r :: l => (gen * 1048576 + pos + 1, r) :: places gen (pos + r.enc.length) l
theorem places_snd (gen : Nat) : ∀ (pos : Nat) (l : List Rec), (places gen pos l).map Prod.snd = l
  | _, [] => rfl
  | pos, r :: l => by rw [places, List.map_cons, places_snd gen _ l]
theorem places_len (gen pos : Nat) (l : List Rec) : (places gen pos l).length = l.length := by
  have := congrArg List.length (places_snd gen pos l)
  rw [List.length_map] at this
  exact this
theorem Rec.enc_pos (r : Rec) : 11 ≤ r.enc.length := by have := r.enc_length; have := r.body_pos; omega

theorem opn_enc (gen : Nat) : ∀ (l : List Rec) (pre : List UInt8) (k fu : Nat), (∀ r ∈ l, Good r) → pre.length ≤ k → k ≤ (pre ++ encR l).length → k < fu + pre.length →
    ∃ j, j ≤ l.length ∧ pre.length + (encR (l.take j)).length ≤ k ∧ (j = l.length ∨ k < pre.length + (encR (l.take (j + 1))).length) ∧
      opn gen ((pre ++ encR l).take k) fu pre.length = (places gen pre.length (l.take j), pre.length + (encR (l.take j)).length)
  | [], pre, k, fu, _, h1, h2, h3 => by
    have hk : k = pre.length := by simp [encR] at h2; omega
    obtain ⟨f, rfl⟩ : ∃ f, fu = f + 1 := ⟨fu - 1, by omega⟩
    refine ⟨0, Nat.le_refl _, by simp [encR]; omega, .inl rfl, ?_⟩
    rw [opn_none]
    · simp [places, encR]
    · have : ((pre ++ encR []).take k).drop pre.length = [] := List.drop_eq_nil_of_le (by rw [List.length_take]; omega)
      rw [this]
      rfl
  | r :: l, pre, k, fu, hg, h1, h2, h3 => by
    obtain ⟨f, rfl⟩ : ∃ f, fu = f + 1 := ⟨fu - 1, by omega⟩
    have hr := hg r List.mem_cons_self
    have hd : ((pre ++ encR (r :: l)).take k).drop pre.length = (encR (r :: l)).take (k - pre.length) := by
      rw [List.drop_take, List.drop_left]
    by_cases hk : k < pre.length + r.enc.length
    · refine ⟨0, Nat.zero_le _, by simp [encR]; omega, .inr (by simp [encR]; exact hk), ?_⟩
      rw [opn_none]
      · simp [places, encR]
      · rw [hd, encR_cons, List.take_append, show k - pre.length - r.enc.length = 0 by omega, List.take_zero, List.append_nil]
        exact decP_short hr.right (by omega)
    · have e : pre ++ encR (r :: l) = (pre ++ r.enc) ++ encR l := by rw [encR_cons, List.append_assoc]
      obtain ⟨j, j1, j2, j3, j4⟩ := opn_enc gen l (pre ++ r.enc) k f (fun x hx => hg x (List.mem_cons_of_mem _ hx)) (by rw [List.length_append]; omega) (by rw [← e]; exact h2) (by rw [List.length_append]; have := r.enc_pos; omega)
      rw [List.length_append] at j2 j3 j4
      refine ⟨j + 1, by rw [List.length_cons]; omega, ?_, ?_, ?_⟩
      · rw [List.take_succ_cons, encR_cons, List.length_append]
        omega
      · rw [List.length_cons]
        rcases j3 with j3 | j3
        · exact .inl (by omega)
        · right
          rw [List.take_succ_cons, encR_cons, List.length_append]
          omega
      · have hdec : decP (((pre ++ encR (r :: l)).take k).drop pre.length) = some (r, r.enc.length) := by
          rw [hd, encR_cons, List.take_append, List.take_of_length_le (by omega)]
          exact decP_enc hr.right hr.nums _
        rw [opn_some hdec, e, j4]
        simp only [List.take_succ_cons, places, encR_cons, List.length_append, Nat.add_assoc]

/-! ### Sectors -/
def secOf (gen : Nat) (c : List UInt8) (s : Nat) : List UInt8 := if s < nsec c.length then pad (lsec gen c s) else zbys 64
theorem lpart_eq_len (c : List UInt8) (s : Nat) : (lpart c s).length = min 56 (c.length - s * 56) := by
  unfold lpart
  rw [List.length_take, List.length_drop]
theorem sec_head (gen : Nat) (c : List UInt8) (s : Nat) : (pad (lsec gen c s)).take 4 = be 4 gen := by
  unfold pad lsec
  simp only [List.append_assoc]
  rw [List.take_append, be_len, Nat.sub_self, List.take_zero, List.append_nil, List.take_of_length_le (by rw [be_len]; exact Nat.le_refl _)]
theorem sec_len1 (gen : Nat) (c : List UInt8) (s : Nat) : ((pad (lsec gen c s)).drop 4).take 1 = be 1 (lpart c s).length := by
  unfold pad lsec
  simp only [List.append_assoc]
  rw [List.drop_append, be_len, Nat.sub_self, List.drop_of_length_le (by rw [be_len]; exact Nat.le_refl _), List.nil_append, List.drop_zero, List.take_append, be_len, Nat.sub_self, List.take_zero, List.append_nil, List.take_of_length_le (by rw [be_len]; exact Nat.le_refl _)]
theorem sec_part (gen : Nat) (c : List UInt8) (s : Nat) : ((pad (lsec gen c s)).drop 8).take (lpart c s).length = lpart c s := by
  have e : pad (lsec gen c s) = (be 4 gen ++ (be 1 (lpart c s).length ++ [0, 0, 0])) ++ (lpart c s ++ zbys (64 - (lsec gen c s).length)) := by
    unfold pad
    conv => lhs; lhs; unfold lsec
    simp only [List.append_assoc]
  have hl : (be 4 gen ++ (be 1 (lpart c s).length ++ [0, 0, 0])).length = 8 := by simp [be_len]
  rw [e, List.drop_append, hl, Nat.sub_self, List.drop_of_length_le (by omega), List.nil_append, List.drop_zero, List.take_append, Nat.sub_self, List.take_zero, List.append_nil, List.take_length]
theorem num_z4 : num ((zbys 64).take 4) = 0 := by decide
theorem lpart_take (b : List UInt8) (t s : Nat) : lpart (b.take t) s = ((b.drop (s * 56)).take 56).take (t - s * 56) := by
  unfold lpart
  rw [List.drop_take, List.take_take, List.take_take, Nat.min_comm]
theorem take_drop_join (b : List UInt8) (s k : Nat) (h : s + 56 ≤ k) : (b.drop s).take 56 ++ (b.drop (s + 56)).take (k - (s + 56)) = (b.drop s).take (k - s) := by
  have e : k - s = 56 + (k - (s + 56)) := by omega
  rw [e, List.take_add, List.drop_drop]

theorem strm_part {m : Dk} {r f gen : Nat} {b : List UInt8} {sure : Nat} (hg : 0 < gen) (hg2 : gen < 4294967296) (hs : sure ≤ b.length) (hb : b.length ≤ 14336) :
    ∀ (n s : Nat), s + n = 256 → s * 56 ≤ b.length → (∀ t, s ≤ t → t < 256 → m.sec r (f + t) = secOf gen b t ∨ m.sec r (f + t) = secOf gen (b.take sure) t) →
      ∃ k, s * 56 ≤ k ∧ sure ≤ max k (s * 56) ∧ k ≤ b.length ∧ strm m r f gen n s = (b.drop (s * 56)).take (k - s * 56) ∧ ∀ t, s ≤ t → t < nsec k → m.sec r (f + t) = secOf gen (b.take k) t
  | 0, s, hsn, hsb, _ => by
    refine ⟨b.length, hsb, by omega, Nat.le_refl _, ?_, fun t h1 h2 => ?_⟩
    · rw [show b.length - s * 56 = 0 by omega, List.take_zero]
      rfl
    · unfold nsec at h2
      omega
  | n + 1, s, hsn, hsb, hsec => by
    have key : ∃ t, sure ≤ t ∧ t ≤ b.length ∧ m.sec r (f + s) = secOf gen (b.take t) s := by
      rcases hsec s (Nat.le_refl _) (by omega) with h | h
      · exact ⟨b.length, hs, Nat.le_refl _, by rw [List.take_length]; exact h⟩
      · exact ⟨sure, Nat.le_refl _, hs, h⟩
    obtain ⟨t, ht1, ht2, hx⟩ := key
    have htl : (b.take t).length = t := by rw [List.length_take]; omega
    by_cases hst : s < nsec t
    · have hst2 : s * 56 < t := by unfold nsec at hst; omega
      have hx2 : m.sec r (f + s) = pad (lsec gen (b.take t) s) := by
        rw [hx]
        unfold secOf
        rw [if_pos (by rw [htl]; exact hst)]
      have hpl : (lpart (b.take t) s).length = min 56 (t - s * 56) := by rw [lpart_eq_len, htl]
      have hp56 := lpart_len (b.take t) s
      rw [strm_succ m r f gen n s hx2, sec_head, num_be (by omega), if_pos rfl, sec_len1, num_be (by omega), Nat.min_eq_left hp56, sec_part]
      by_cases hp : (lpart (b.take t) s).length < 56
      · rw [if_pos hp, List.append_nil]
        have hpt : t - s * 56 < 56 := by omega
        refine ⟨t, by omega, by omega, ht2, ?_, fun u hu1 hu2 => ?_⟩
        · rw [lpart_take, List.take_take, Nat.min_eq_left (by omega)]
        · have : u = s := by unfold nsec at hu2; omega
          subst this
          exact hx
      · rw [if_neg hp]
        have hpt : 56 ≤ t - s * 56 := by omega
        obtain ⟨k, k1, k2, k3, k4, k5⟩ := strm_part (m := m) (r := r) (f := f) hg hg2 hs hb n (s + 1) (by omega) (by omega) (fun u hu1 hu2 => hsec u (by omega) hu2)
        have e1 : (s + 1) * 56 = s * 56 + 56 := by omega
        rw [e1] at k1 k2 k4
        refine ⟨k, by omega, by omega, k3, ?_, fun u hu1 hu2 => ?_⟩
        · rw [k4, lpart_take, List.take_of_length_le (by rw [List.length_take]; omega)]
          exact take_drop_join b (s * 56) k k1
        · by_cases hus : u = s
          · subst hus
            rw [hx2]
            have hkl : (b.take k).length = k := by rw [List.length_take]; omega
            unfold secOf
            rw [if_pos (by rw [hkl]; exact hu2)]
            congr 1
            have : lpart (b.take t) u = lpart (b.take k) u := by
              rw [lpart_take, lpart_take, List.take_take, List.take_take, Nat.min_eq_right (by omega), Nat.min_eq_right (by omega)]
            unfold lsec
            rw [this]
          · exact k5 u (by omega) hu2
    · have hst2 : t ≤ s * 56 := by unfold nsec at hst; omega
      have hx2 : m.sec r (f + s) = zbys 64 := by
        rw [hx]
        unfold secOf
        rw [if_neg (by rw [htl]; exact hst)]
      rw [strm_succ m r f gen n s hx2, num_z4, if_neg (by omega)]
      refine ⟨s * 56, Nat.le_refl _, by omega, hsb, by rw [Nat.sub_self, List.take_zero], fun u hu1 hu2 => ?_⟩
      unfold nsec at hu2
      omega
end Go.Proofs.Ytmlifjfgelfbbaa

/-! ## Lr -/
namespace Go.Proofs.Ytmlifjfgelfbbaa
open Go Go.RowKit

/-- A lane's region, nothing waiting: b in its bank, but of each sector maybe only what was there as long as b's first 'sure' bytes were. -/
structure LPart (m : Dk) (r gen bank : Nat) (b : List UInt8) (sure : Nat) : Prop where
  wf : m.Wf
  hr : r < m.regs.length
  size : 514 ≤ m.size
  wts : m.wts r = []
  gen0 : 0 < gen
  gen1 : gen < 4294967296
  bankle : bank ≤ 1
  len : b.length ≤ 14336
  surele : sure ≤ b.length
  head : m.dat r 1 = pad (be 4 gen ++ be 1 bank)
  secs : ∀ t, t < 256 → m.dat r (fst bank + t) = secOf gen b t ∨ m.dat r (fst bank + t) = secOf gen (b.take sure) t
/-- All of it. -/
def LRest (m : Dk) (r gen bank : Nat) (b : List UInt8) : Prop := LPart m r gen bank b b.length
theorem LRest.sec {m : Dk} {r gen bank : Nat} {b : List UInt8} (h : LRest m r gen bank b) {t : Nat} (ht : t < 256) : m.dat r (fst bank + t) = secOf gen b t := by
  rcases h.secs t ht with h1 | h1
  · exact h1
  · rw [List.take_length] at h1
    exact h1
theorem head_gen (gen bank : Nat) (hg : gen < 4294967296) : num ((pad (be 4 gen ++ be 1 bank)).take 4) = gen := by
  unfold pad
  rw [List.append_assoc, List.take_append, be_len, Nat.sub_self, List.take_zero, List.append_nil, List.take_of_length_le (by rw [be_len]; exact Nat.le_refl _), num_be (by omega)]
theorem head_bank (gen bank : Nat) (hb : bank ≤ 1) : num (((pad (be 4 gen ++ be 1 bank)).drop 4).take 1) % 2 = bank := by
  unfold pad
  rw [List.append_assoc, List.drop_append, be_len, Nat.sub_self, List.drop_of_length_le (by rw [be_len]; exact Nat.le_refl _), List.nil_append, List.drop_zero, List.take_append, be_len, Nat.sub_self, List.take_zero, List.append_nil, List.take_of_length_le (by rw [be_len]; exact Nat.le_refl _), num_be (by omega)]
  omega
theorem secOf_take {gen : Nat} {b : List UInt8} {k pos t : Nat} (hp : pos ≤ k) (hk : k ≤ b.length) (h : (t + 1) * 56 ≤ pos) : secOf gen (b.take k) t = secOf gen (b.take pos) t := by
  have h1 : (b.take k).length = k := by rw [List.length_take]; omega
  have h2 : (b.take pos).length = pos := by rw [List.length_take]; omega
  unfold secOf
  rw [if_pos (by rw [h1]; unfold nsec; omega), if_pos (by rw [h2]; unfold nsec; omega)]
  have : lpart (b.take k) t = lpart (b.take pos) t := by
    rw [lpart_take, lpart_take, List.take_take, List.take_take, Nat.min_eq_right (by omega), Nat.min_eq_right (by omega)]
  unfold lsec
  rw [this]
theorem encR_take_mono (l : List Rec) {i j : Nat} (h : i ≤ j) : (encR (l.take i)).length ≤ (encR (l.take j)).length := by
  have e : l.take i = (l.take j).take i := by rw [List.take_take, Nat.min_eq_left h]
  rw [e]
  conv => rhs; rw [← List.take_append_drop i (l.take j)]
  rw [encR_append, List.length_append]
  omega

theorem LPart.opens {m : Dk} {r gen bank sure : Nat} {l : List Rec} (h : LPart m r gen bank (encR l) sure) (hg : ∀ x ∈ l, Good x) (hu : m.armd r = false) :
    ∃ j m', j ≤ l.length ∧ m.opens r = (0, some (⟨gen, bank, encR (l.take j), (encR (l.take j)).length⟩, places gen 0 (l.take j)), m') ∧
      LRest m' r gen bank (encR (l.take j)) ∧ Same m m' r ∧ m'.armd r = false ∧ m'.writes ≤ m.writes + 600 ∧ ∀ i, i ≤ l.length → (encR (l.take i)).length ≤ sure → i ≤ j := by
  have hd : ∀ s, m.sec r s = m.dat r s := fun s => Dk.sec_nil h.wts s
  obtain ⟨k, k1, k2, k3, k4, k5⟩ := strm_part (m := m) (r := r) (f := fst bank) h.gen0 h.gen1 h.surele h.len 256 0 rfl (Nat.zero_le _) (fun t _ ht => by rw [hd]; exact h.secs t ht)
  rw [Nat.zero_mul, Nat.sub_zero, List.drop_zero] at k4
  have hk : sure ≤ k := by omega
  have hkl : ((encR l).take k).length = k := by rw [List.length_take]; omega
  obtain ⟨j, j1, j2, j3, j4⟩ := opn_enc gen l [] k (k + 1) hg (Nat.zero_le _) (by simpa using k3) (by simp)
  simp only [List.nil_append, List.length_nil, Nat.zero_add] at j2 j3 j4
  obtain ⟨pos, hpos⟩ : ∃ pos, (encR (l.take j)).length = pos := ⟨_, rfl⟩
  rw [hpos] at j2 j4
  have hpk : pos ≤ k := j2
  have hbp : (encR l).take pos = encR (l.take j) := by
    have e : encR l = encR (l.take j) ++ encR (l.drop j) := by rw [← encR_append, List.take_append_drop]
    rw [e, ← hpos, List.take_left]
  have hap : ((encR l).take k).take pos = encR (l.take j) := by rw [List.take_take, Nat.min_eq_left hpk, hbp]
  have hbl := h.len
  have hb1 := h.bankle
  have hsz := h.size
  have hns : nsec pos ≤ 256 := nsec_le (by omega)
  have hfb : fst bank ≤ 258 := by unfold fst; omega
  have hfb2 : 2 ≤ fst bank := by unfold fst; omega
  have hlaid := Dk.wipe_laid h.wf (s := fst bank + nsec pos) (t := fst bank + 256) h.hr (by omega) (by omega)
  have h0 := hlaid.un hu
  have hdat := Dk.wipe_dat h.wf (s := fst bank + nsec pos) (t := fst bank + 256) h.hr (by omega) (by omega) h0
  have hwk := m.wipe_keeps r (fst bank + nsec pos) (fst bank + 256)
  obtain ⟨P1, hP1⟩ : ∃ P1, m.wipe r (fst bank + nsec pos) (fst bank + 256) = P1 := ⟨_, rfl⟩
  rw [hP1] at hlaid h0 hdat hwk
  obtain ⟨o1, o2⟩ := hlaid.ok h0
  have hrP : r < P1.2.regs.length := by rw [hwk.1]; exact h.hr
  have ho : m.opens r = (if (if pos < k ∧ 0 < pos % 56 then P1.2.lay r bank gen (encR (l.take j)) pos else (0, P1.2)).1 ≠ 0 then ((if pos < k ∧ 0 < pos % 56 then P1.2.lay r bank gen (encR (l.take j)) pos else (0, P1.2)).1, none, (if pos < k ∧ 0 < pos % 56 then P1.2.lay r bank gen (encR (l.take j)) pos else (0, P1.2)).2)
      else (0, some (⟨gen, bank, encR (l.take j), pos⟩, places gen 0 (l.take j)), (if pos < k ∧ 0 < pos % 56 then P1.2.lay r bank gen (encR (l.take j)) pos else (0, P1.2)).2)) := by
    unfold Dk.opens
    simp only
    rw [hd, h.head, head_gen _ _ h.gen1, head_bank _ _ h.bankle, if_neg (by have := h.gen0; omega), k4, hkl, j4]
    simp only
    rw [hP1, if_neg (fun hh => hh h0), hap]
  have hlowT : ∀ t, t < nsec pos → m.dat r (fst bank + t) = secOf gen ((encR l).take k) t := fun t ht => by
    rw [← hd]
    exact k5 t (Nat.zero_le _) (by unfold nsec at ht ⊢; omega)
  have hmax : ∀ i, i ≤ l.length → (encR (l.take i)).length ≤ sure → i ≤ j := fun i hi hs => by
    rcases j3 with h1 | h1
    · omega
    · have := encR_take_mono l (i := j + 1) (j := i)
      omega
  have hlj : (encR (l.take j)).length = pos := hpos
  by_cases hc : pos < k ∧ 0 < pos % 56
  · rw [if_pos hc] at ho
    have hll := Dk.lay_laid hlaid.wf (bank := bank) (gen := gen) (fr := pos) (bs := encR (l.take j)) hrP hb1 (by omega) (by omega) (by rw [hwk.2.1]; exact hsz)
    have hl0 := hll.un (by rw [hlaid.armd]; exact hu)
    have hld := Dk.lay_dat hlaid.wf (bank := bank) (gen := gen) (fr := pos) (bs := encR (l.take j)) hrP hb1 (by omega) (by omega) (by rw [hwk.2.1]; exact hsz) hl0
    have hlo := Dk.lay_dat_out hlaid.wf (bank := bank) (gen := gen) (fr := pos) (bs := encR (l.take j)) hrP hb1 (by omega) (by omega) (by rw [hwk.2.1]; exact hsz) hl0
    have hlk := P1.2.lay_keeps r bank gen (encR (l.take j)) pos
    obtain ⟨P2, hP2⟩ : ∃ P2, P1.2.lay r bank gen (encR (l.take j)) pos = P2 := ⟨_, rfl⟩
    rw [hP2] at hll hl0 hld hlo hlk ho
    rw [if_neg (fun hh => hh hl0)] at ho
    have hsec1 : ∀ s, P1.2.sec r s = P1.2.dat r s := fun s => Dk.sec_nil o1 s
    refine ⟨j, P2.2, j1, by rw [hlj]; exact ho, ?_, hlaid.same.trans hll.same, (hll.armd.trans hlaid.armd).trans hu, by have := hlk.2.2; have := hwk.2.2; rw [hlj] at *; omega, hmax⟩
    refine ⟨hll.wf, by rw [hlk.1]; exact hrP, by rw [hlk.2.1, hwk.2.1]; exact hsz, (hll.ok hl0).1, h.gen0, h.gen1, hb1, by omega, Nat.le_refl _, ?_, fun t ht => .inl ?_⟩
    · rw [hlo 1 (by rw [hwk.2.1]; omega) (by omega), hsec1, hdat 1 (by omega), if_neg (by omega), hd, h.head]
    · rw [hld t ht, hlj]
      by_cases h1 : pos / 56 ≤ t ∧ t < nsec pos
      · rw [if_pos h1]
        unfold secOf
        rw [hlj, if_pos h1.2]
      · rw [if_neg h1, hsec1, hdat _ (by omega)]
        by_cases h2 : nsec pos ≤ t
        · rw [if_pos (by omega)]
          unfold secOf
          rw [hlj, if_neg (by omega)]
        · rw [if_neg (by omega), hd, hlowT t (by omega), secOf_take hpk k3 (by omega), hbp]
  · rw [if_neg hc] at ho
    rw [if_neg (show ¬ (((0, P1.2) : Nat × Dk).1 ≠ 0) from fun hh => hh rfl)] at ho
    refine ⟨j, P1.2, j1, by rw [hlj]; exact ho, ?_, hlaid.same, hlaid.armd.trans hu, by have := hwk.2.2; omega, hmax⟩
    refine ⟨hlaid.wf, hrP, by rw [hwk.2.1]; exact hsz, o1, h.gen0, h.gen1, hb1, by omega, Nat.le_refl _, ?_, fun t ht => .inl ?_⟩
    · rw [hdat 1 (by omega), if_neg (by omega), hd, h.head]
    · rw [hdat _ (by omega)]
      by_cases h2 : nsec pos ≤ t
      · rw [if_pos (by omega)]
        unfold secOf
        rw [hlj, if_neg (by omega)]
      · rw [if_neg (by omega), hd, hlowT t (by omega)]
        by_cases h3 : (t + 1) * 56 ≤ pos
        · rw [secOf_take hpk k3 h3, hbp]
        · have : pos = k := by
            have h4 : pos % 56 ≠ 0 := fun e => by unfold nsec at h2; omega
            omega
          rw [← this, hbp]
end Go.Proofs.Ytmlifjfgelfbbaa

/-! ## Lt -/
namespace Go.Proofs.Ytmlifjfgelfbbaa
open Go Go.RowKit

/-- What a region's sectors are: b in its bank, but of each sector maybe only what was there as long as b's first 'sure' bytes were. -/
structure PartF (f : Nat → List UInt8) (gen bank : Nat) (b : List UInt8) (sure : Nat) : Prop where
  head : f 1 = pad (be 4 gen ++ be 1 bank)
  secs : ∀ t, t < 256 → f (fst bank + t) = secOf gen b t ∨ f (fst bank + t) = secOf gen (b.take sure) t
def RestF (f : Nat → List UInt8) (gen bank : Nat) (b : List UInt8) : Prop := PartF f gen bank b b.length
theorem RestF.sec {f : Nat → List UInt8} {gen bank : Nat} {b : List UInt8} (h : RestF f gen bank b) {t : Nat} (ht : t < 256) : f (fst bank + t) = secOf gen b t := by
  rcases h.secs t ht with h1 | h1
  · exact h1
  · rw [List.take_length] at h1
    exact h1
theorem RestF.mk' {f : Nat → List UInt8} {gen bank : Nat} {b : List UInt8} (h1 : f 1 = pad (be 4 gen ++ be 1 bank)) (h2 : ∀ t, t < 256 → f (fst bank + t) = secOf gen b t) : RestF f gen bank b := ⟨h1, fun t ht => .inl (h2 t ht)⟩

/-- Whatever a crash leaves of a region, Q holds of it. -/
structure Torn (m : Dk) (r : Nat) (Q : (Nat → List UInt8) → Prop) : Prop where
  wf : m.Wf
  hr : r < m.regs.length
  size : 514 ≤ m.size
  q : ∀ f : Nat → List UInt8, (∀ s, s < m.size → f s = m.dat r s ∨ (s, f s) ∈ m.wts r) → Q f
theorem Torn.imp {m : Dk} {r : Nat} {Q Q' : (Nat → List UInt8) → Prop} (h : Torn m r Q) (hq : ∀ f, Q f → Q' f) : Torn m r Q' := ⟨h.wf, h.hr, h.size, fun f hf => hq f (h.q f hf)⟩
theorem Torn.arm {m : Dk} {r : Nat} {Q : (Nat → List UInt8) → Prop} (h : Torn m r Q) (q : Nat) (hq : q < m.regs.length) (a : Bool) (k : Nat) (hk : k ≤ 9223372036854775807) : Torn (m.setReg q ⟨m.regs[q].waits, a, k⟩) r Q := by
  have hw := h.wf.waits m.regs[q] (List.getElem_mem hq)
  refine ⟨h.wf.setReg hw hk, by simpa [Dk.setReg] using h.hr, h.size, fun f hf => h.q f fun s hs => ?_⟩
  have e : (m.setReg q ⟨m.regs[q].waits, a, k⟩).wts r = m.wts r := by
    unfold Dk.wts
    rw [Dk.set_regs hq]
    by_cases hrq : r = q
    · subst hrq
      rw [if_pos rfl, List.getElem?_eq_getElem hq]
      rfl
    · rw [if_neg hrq]
  have := hf s hs
  rw [e] at this
  exact this
theorem Torn.crash {m : Dk} {r : Nat} {Q : (Nat → List UInt8) → Prop} (h : Torn m r Q) (mask : Nat) : Q ((m.crash mask).dat r) ∧ (m.crash mask).wts r = [] ∧ (m.crash mask).armd r = false := by
  obtain ⟨_, _, _, _, h2⟩ := Dk.crash_at (mask := mask) h.wf
  obtain ⟨h3, h4, h5⟩ := h2 r h.hr
  exact ⟨h.q _ h5, h3, h4⟩

/-- A lane and its region: it has 'all', whose first k are sure. -/
structure LSt (m : Dk) (r : Nat) (L : Ln) (all : List Rec) (k : Nat) : Prop where
  b : L.b = encR all
  kle : k ≤ all.length
  sure : L.sure = (encR (all.take k)).length
  good : ∀ x ∈ all, Good x
  len : (encR all).length ≤ 14336
  rest : LRest m r L.gen L.bank (encR (all.take k))
theorem LPart.partF {m : Dk} {r gen bank : Nat} {b : List UInt8} {sure : Nat} (h : LPart m r gen bank b sure) : PartF (m.dat r) gen bank b sure := ⟨h.head, h.secs⟩
theorem LPart.torn {m : Dk} {r gen bank : Nat} {b : List UInt8} {sure : Nat} (h : LPart m r gen bank b sure) : Torn m r (fun f => PartF f gen bank b sure) := by
  refine ⟨h.wf, h.hr, h.size, fun f hf => ?_⟩
  have e : ∀ s, s < m.size → f s = m.dat r s := fun s hs => by
    rcases hf s hs with h1 | h1
    · exact h1
    · rw [h.wts] at h1
      cases h1
  have hsz := h.size
  have hb := h.bankle
  refine ⟨by rw [e 1 (by omega)]; exact h.head, fun t ht => ?_⟩
  rw [e (fst bank + t) (by unfold fst; omega)]
  exact h.secs t ht
theorem LSt.other {m m' : Dk} {r q : Nat} {L : Ln} {all : List Rec} {k : Nat} (h : LSt m r L all k) (hs : Same m m' q) (hw : m'.Wf) (hq : r ≠ q) : LSt m' r L all k := by
  obtain ⟨h1, h2, h3, h4, h5, h6⟩ := h
  refine ⟨h1, h2, h3, h4, h5, ?_⟩
  obtain ⟨g1, g2, g3, g4, g5, g6, g7, g8, g9, g10, g11⟩ := h6
  have e : ∀ s, s < m.size → m'.dat r s = m.dat r s := fun s h => hs.dat r s hq g2 h
  refine ⟨hw, by rw [hs.regs]; exact g2, by rw [hs.size]; exact g3, (hs.wts r hq).trans g4, g5, g6, g7, g8, g9, by rw [e 1 (by omega)]; exact g10, fun t ht => ?_⟩
  rw [e (fst L.bank + t) (by unfold fst; omega)]
  exact g11 t ht
theorem encR_take_le (l : List Rec) (k : Nat) : (encR (l.take k)).length ≤ (encR l).length := by
  conv => rhs; rw [← List.take_append_drop k l, encR_append, List.length_append]
  omega
theorem encR_take (l : List Rec) (k : Nat) : (encR l).take (encR (l.take k)).length = encR (l.take k) := by
  conv => lhs; arg 2; rw [← List.take_append_drop k l, encR_append]
  exact List.take_left
theorem encR_ge : ∀ l : List Rec, 11 * l.length ≤ (encR l).length
  | [] => by simp
  | r :: l => by
    rw [encR_cons, List.length_append, List.length_cons]
    have := r.enc_pos
    have := encR_ge l
    omega
theorem encR_full {l : List Rec} {k : Nat} (hk : k ≤ l.length) (h : (encR (l.take k)).length = (encR l).length) : k = l.length := by
  have e : encR l = encR (l.take k) ++ encR (l.drop k) := by rw [← encR_append, List.take_append_drop]
  rw [e, List.length_append] at h
  have := encR_ge (l.drop k)
  rw [List.length_drop] at this
  omega

/-! ### Append -/
theorem LSt.append_ok {m : Dk} {r : Nat} {L : Ln} {all : List Rec} {k : Nat} {x : Rec} (h : LSt m r L all k) (hx : Good x) (hf : (encR all).length + x.enc.length ≤ 14336) :
    L.append x = (L.place (encR all).length, 0, { L with b := L.b ++ x.enc }) ∧ LSt m r { L with b := L.b ++ x.enc } (all ++ [x]) k := by
  have hb := h.b
  have hk := h.kle
  refine ⟨?_, ?_⟩
  · unfold Ln.append
    rw [if_neg (by rw [hx.right]; simp), if_neg (by rw [hb]; omega), hb]
  · have e : encR (all ++ [x]) = encR all ++ x.enc := by rw [encR_append]; simp [encR]
    have et : (all ++ [x]).take k = all.take k := List.take_append_of_le_length hk
    refine ⟨by rw [e, ← hb], by rw [List.length_append]; omega, by rw [et]; exact h.sure, fun y hy => ?_, by rw [e, List.length_append]; omega, by rw [et]; exact h.rest⟩
    rcases List.mem_append.1 hy with h1 | h1
    · exact h.good y h1
    · rw [List.mem_singleton.1 h1]
      exact hx
theorem LSt.append_full {m : Dk} {r : Nat} {L : Ln} {all : List Rec} {k : Nat} {x : Rec} (h : LSt m r L all k) (hx : x.right = true) (hf : ¬ (encR all).length + x.enc.length ≤ 14336) : L.append x = (0, 7, L) := by
  have hb := h.b
  have hl := h.len
  unfold Ln.append
  rw [if_neg (by rw [hx]; simp), if_pos (by rw [hb]; omega)]

/-! ### Flush -/
theorem LSt.flush {m : Dk} {r : Nat} {L : Ln} {all : List Rec} {k : Nat} (h : LSt m r L all k) :
    ((L.flush m r).1 = 0 ∨ (L.flush m r).1 = 10) ∧ (m.armd r = false → (L.flush m r).1 = 0) ∧ Same m (L.flush m r).2.2 r ∧ (L.flush m r).2.2.Wf ∧ (L.flush m r).2.2.armd r = m.armd r ∧ (L.flush m r).2.2.writes ≤ m.writes + 256 ∧
    ((L.flush m r).1 = 0 → LSt (L.flush m r).2.2 r (L.flush m r).2.1 all all.length ∧ (L.flush m r).2.1.gen = L.gen ∧ (L.flush m r).2.1.bank = L.bank ∧ (L.flush m r).2.1.b = L.b) ∧
    ((L.flush m r).1 ≠ 0 → (L.flush m r).2.1 = L ∧ Torn (L.flush m r).2.2 r (fun f => PartF f L.gen L.bank (encR all) L.sure)) := by
  obtain ⟨hb, hk, hsu, hgd, hln, hrs⟩ := h
  have hsz := hrs.size
  have hbk := hrs.bankle
  have hsl : L.sure ≤ (encR all).length := by rw [hsu]; exact encR_take_le _ _
  have htk : (encR all).take L.sure = encR (all.take k) := by rw [hsu]; exact encR_take _ _
  unfold Ln.flush
  by_cases hs : L.sure = L.b.length
  · rw [if_pos hs]
    have hka : k = all.length := encR_full hk (by rw [← hsu, hs, hb])
    refine ⟨.inl rfl, fun _ => rfl, Same.rfl' m r, hrs.wf, rfl, by simp, fun _ => ⟨?_, rfl, rfl, rfl⟩, fun h => absurd rfl h⟩
    rw [← hka]
    exact ⟨hb, hk, hsu, hgd, hln, hrs⟩
  · rw [if_neg hs, hb]
    simp only
    have hla := Dk.lay_laid hrs.wf (bank := L.bank) (gen := L.gen) (fr := L.sure) (bs := encR all) hrs.hr hbk hln hsl hsz
    have hld := Dk.lay_dat hrs.wf (bank := L.bank) (gen := L.gen) (fr := L.sure) (bs := encR all) hrs.hr hbk hln hsl hsz
    have hlo := Dk.lay_dat_out hrs.wf (bank := L.bank) (gen := L.gen) (fr := L.sure) (bs := encR all) hrs.hr hbk hln hsl hsz
    have hlk := m.lay_keeps r L.bank L.gen (encR all) L.sure
    have hns := nsec_le hln
    obtain ⟨D, hD⟩ : ∃ D, m.lay r L.bank L.gen (encR all) L.sure = D := ⟨_, rfl⟩
    rw [hD] at hla hld hlo hlk ⊢
    have hsd : ∀ s, m.sec r s = m.dat r s := fun s => Dk.sec_nil hrs.wts s
    refine ⟨hla.code, hla.un, hla.same, hla.wf, hla.armd, by have := hlk.2.2; omega, fun h0 => ?_, fun h0 => ?_⟩
    · rw [if_pos h0]
      refine ⟨⟨rfl, Nat.le_refl _, by rw [List.take_length], hgd, hln, ?_⟩, rfl, rfl, rfl⟩
      show LRest D.2 r L.gen L.bank (encR (all.take all.length))
      rw [List.take_length]
      refine ⟨hla.wf, by rw [hlk.1]; exact hrs.hr, by rw [hlk.2.1]; exact hsz, (hla.ok h0).1, hrs.gen0, hrs.gen1, hbk, hln, Nat.le_refl _, ?_, fun t ht => .inl ?_⟩
      · rw [hlo h0 1 (by omega) (by unfold fst; omega), hsd]
        exact hrs.head
      · rw [hld h0 t ht]
        by_cases h1 : L.sure / 56 ≤ t ∧ t < nsec (encR all).length
        · rw [if_pos h1]
          unfold secOf
          rw [if_pos h1.2]
        · rw [if_neg h1, hsd, hrs.sec ht, ← htk]
          by_cases h2 : t < L.sure / 56
          · have := secOf_take (gen := L.gen) (b := encR all) (k := (encR all).length) (pos := L.sure) (t := t) hsl (Nat.le_refl _) (by omega)
            rw [List.take_length] at this
            exact this.symm
          · have hn2 : nsec (encR all).length ≤ t := by omega
            have hn3 : ¬ t < nsec ((encR all).take L.sure).length := by
              rw [List.length_take, Nat.min_eq_left hsl]
              unfold nsec at hn2 ⊢
              omega
            unfold secOf
            rw [if_neg hn3, if_neg (by omega)]
    · rw [if_neg h0]
      obtain ⟨f1, J, ⟨tl, hJ⟩, f3⟩ := hla.fail h0
      refine ⟨rfl, hla.wf, by rw [hlk.1]; exact hrs.hr, by rw [hlk.2.1]; exact hsz, fun f hf => ?_⟩
      rw [f3, hrs.wts, List.nil_append] at hf
      have hJm : ∀ p ∈ J, ∃ t, t < nsec (encR all).length ∧ p = (fst L.bank + t, pad (lsec L.gen (encR all) t)) := fun p hp => by
        have : p ∈ layI (fst L.bank) L.gen (encR all) (L.sure / 56) (nsec (encR all).length - L.sure / 56) := by rw [← hJ]; exact List.mem_append_left _ hp
        unfold layI at this
        rw [List.mem_map] at this
        obtain ⟨t, ht, rfl⟩ := this
        rw [List.mem_range'_1] at ht
        exact ⟨t, by omega, rfl⟩
      rw [hlk.2.1] at hf
      refine ⟨?_, fun t ht => ?_⟩
      · rcases hf 1 (by omega) with h1 | h1
        · rw [h1, f1]
          exact hrs.head
        · obtain ⟨t, _, ht⟩ := hJm _ h1
          simp only [Prod.mk.injEq] at ht
          unfold fst at ht
          omega
      · rcases hf (fst L.bank + t) (by unfold fst; omega) with h1 | h1
        · right
          rw [h1, f1, hrs.sec ht, htk]
        · left
          obtain ⟨u, hu, hut⟩ := hJm _ h1
          simp only [Prod.mk.injEq] at hut
          have : t = u := by omega
          subst this
          rw [hut.2]
          unfold secOf
          rw [if_pos hu]

/-! ### Anew -/
theorem encs_encR (rs : List RecV) : encs rs = encR (rs.map (·.1)) := by
  unfold encs encR
  rw [List.flatMap_map]
theorem Laid.dat_out {m : Dk} {r : Nat} {I : List (Nat × List UInt8)} {p : Nat × Dk} (h : Laid m r I p) (hw : m.wts r = []) {s : Nat} (hs : s < m.size) (hI : ∀ q ∈ I, q.1 ≠ s) : p.2.dat r s = m.dat r s := by
  by_cases h0 : p.1 = 0
  · rw [(h.ok h0).2 s hs, hw, List.nil_append, lastOf_none hI]
    rfl
  · exact (h.fail h0).1 s
theorem Laid.wts_in {m : Dk} {r : Nat} {I : List (Nat × List UInt8)} {p : Nat × Dk} (h : Laid m r I p) (hw : m.wts r = []) : ∀ q ∈ p.2.wts r, q ∈ I := by
  intro q hq
  by_cases h0 : p.1 = 0
  · rw [(h.ok h0).1] at hq
    cases hq
  · obtain ⟨J, ⟨t, hJ⟩, hj⟩ := (h.fail h0).2
    rw [hj, hw, List.nil_append] at hq
    rw [← hJ]
    exact List.mem_append_left _ hq
theorem wipeI_mem {m : Dk} {r s n : Nat} {q : Nat × List UInt8} (h : q ∈ wipeI m r s n) : s ≤ q.1 ∧ q.1 < s + n := by
  unfold wipeI at h
  rw [List.mem_map] at h
  obtain ⟨t, ht, rfl⟩ := h
  rw [List.mem_filter, List.mem_range'_1] at ht
  exact ht.1
theorem layI_mem {f gen : Nat} {bs : List UInt8} {s n : Nat} {q : Nat × List UInt8} (h : q ∈ layI f gen bs s n) : f + s ≤ q.1 ∧ q.1 < f + (s + n) := by
  unfold layI at h
  rw [List.mem_map] at h
  obtain ⟨t, ht, rfl⟩ := h
  rw [List.mem_range'_1] at ht
  show f + s ≤ f + t ∧ f + t < f + (s + n)
  omega
/-- What a laying anew leaves. -/
structure Anewed (m : Dk) (r bank gen : Nat) (b : List UInt8) (p : Nat × Dk) : Prop where
  wf : p.2.Wf
  same : Same m p.2 r
  code : p.1 = 0 ∨ p.1 = 10
  un : m.armd r = false → p.1 = 0
  armd : p.2.armd r = m.armd r
  ok : p.1 = 0 → p.2.wts r = [] ∧ RestF (p.2.dat r) gen bank b
  fail : p.1 ≠ 0 → ∀ f : Nat → List UInt8, (∀ s, s < m.size → f s = p.2.dat r s ∨ (s, f s) ∈ p.2.wts r) → (∀ s, s < m.size → s < fst bank ∨ fst bank + 256 ≤ s → f s = m.dat r s) ∨ RestF f gen bank b
theorem Dk.anew_at {m : Dk} (hm : m.Wf) {r bank gen : Nat} {b : List UInt8} (hr : r < m.regs.length) (hb : bank ≤ 1) (hbl : b.length ≤ 14336) (hsz : 514 ≤ m.size) (hw : m.wts r = []) : Anewed m r bank gen b (m.anew r bank gen b) := by
  unfold Dk.anew
  have hns := nsec_le hbl
  have h1 := Dk.wipe_laid hm (r := r) (s := fst bank) (t := fst bank + 256) hr (by unfold fst; omega) (by unfold fst; omega)
  have d1 := Dk.wipe_dat hm (r := r) (s := fst bank) (t := fst bank + 256) hr (by unfold fst; omega) (by unfold fst; omega)
  obtain ⟨P1, hP1⟩ : ∃ P1, m.wipe r (fst bank) (fst bank + 256) = P1 := ⟨_, rfl⟩
  rw [hP1] at h1 d1 ⊢
  have hsd : ∀ s, m.sec r s = m.dat r s := fun s => Dk.sec_nil hw s
  by_cases c1 : P1.1 = 0
  · rw [thenD_0 c1]
    have w1 := (h1.ok c1).1
    have hr1 : r < P1.2.regs.length := by rw [h1.same.regs]; exact hr
    have hsz1 : 514 ≤ P1.2.size := by rw [h1.same.size]; exact hsz
    have h2 := Dk.lay_laid h1.wf (r := r) (bank := bank) (gen := gen) (fr := 0) (bs := b) hr1 hb hbl (Nat.zero_le _) hsz1
    have d2 := Dk.lay_dat h1.wf (r := r) (bank := bank) (gen := gen) (fr := 0) (bs := b) hr1 hb hbl (Nat.zero_le _) hsz1
    obtain ⟨P2, hP2⟩ : ∃ P2, P1.2.lay r bank gen b 0 = P2 := ⟨_, rfl⟩
    rw [hP2] at h2 d2 ⊢
    have o1 : ∀ s, s < m.size → s < fst bank ∨ fst bank + 256 ≤ s → P1.2.dat r s = m.dat r s := fun s hs ho => by
      rw [d1 c1 s hs, if_neg (by omega), hsd]
    have o2 : ∀ s, s < m.size → s < fst bank ∨ fst bank + 256 ≤ s → P2.2.dat r s = m.dat r s := fun s hs ho => by
      rw [h2.dat_out w1 (by rw [h1.same.size]; exact hs) fun q hq => by have := layI_mem hq; omega]
      exact o1 s hs ho
    by_cases c2 : P2.1 = 0
    · rw [thenD_0 c2]
      have w2 := (h2.ok c2).1
      have hr2 : r < P2.2.regs.length := by rw [h2.same.regs]; exact hr1
      have sz2 : P2.2.size = m.size := h2.same.size.trans h1.same.size
      have hbanks : ∀ t, t < 256 → P2.2.dat r (fst bank + t) = secOf gen b t := fun t ht => by
        rw [d2 c2 t ht, Dk.sec_nil w1, d1 c1 _ (by unfold fst; omega)]
        unfold secOf
        by_cases h : t < nsec b.length
        · rw [if_pos (by omega), if_pos h]
        · rw [if_neg (by omega), if_neg h, if_pos (by omega)]
      have h3 := (Wrote.one h2.wf (r := r) (s := 1) (x := be 4 gen ++ be 1 bank) hr2 (by omega) (by rw [List.length_append, be_len, be_len]; decide)).bar hr2
      refine ⟨h3.wf, h1.same.trans (h2.same.trans h3.same), h3.code, fun hu => h3.un (by rw [h2.armd, h1.armd]; exact hu), (h3.armd.trans h2.armd).trans h1.armd, fun h0 => ?_, fun h0 f hf => ?_⟩
      · obtain ⟨w3, d3⟩ := h3.ok h0
        refine ⟨w3, RestF.mk' ?_ fun t ht => ?_⟩
        · rw [d3 1 (by omega), w2]
          rfl
        · rw [d3 _ (by unfold fst; omega), w2, List.nil_append, lastOf_none (fun q hq => by rw [List.mem_singleton.1 hq]; show (1 : Nat) ≠ _; unfold fst; omega)]
          exact hbanks t ht
      · obtain ⟨e3, J, ⟨tl, hJ⟩, w3⟩ := h3.fail h0
        have hJm : ∀ q ∈ J, q = (1, pad (be 4 gen ++ be 1 bank)) := fun q hq => by
          have : q ∈ [(1, pad (be 4 gen ++ be 1 bank))] := by rw [← hJ]; exact List.mem_append_left _ hq
          exact List.mem_singleton.1 this
        rw [w3, w2, List.nil_append] at hf
        have hoth : ∀ s, s < m.size → s ≠ 1 → f s = P2.2.dat r s := fun s hs hs1 => by
          rcases hf s hs with h | h
          · rw [h, e3]
          · have := hJm _ h
            simp only [Prod.mk.injEq] at this
            omega
        rcases hf 1 (by omega) with h | h
        · left
          intro s hs ho
          by_cases hs1 : s = 1
          · subst hs1
            rw [h, e3]
            exact o2 1 hs ho
          · rw [hoth s hs hs1]
            exact o2 s hs ho
        · right
          have := hJm _ h
          simp only [Prod.mk.injEq, true_and] at this
          refine RestF.mk' this fun t ht => ?_
          rw [hoth _ (by unfold fst; omega) (by unfold fst; omega)]
          exact hbanks t ht
    · rw [thenD_e c2]
      refine ⟨h2.wf, h1.same.trans h2.same, h2.code, fun hu => h2.un (by rw [h1.armd]; exact hu), h2.armd.trans h1.armd, fun h0 => absurd h0 c2, fun _ f hf => .inl fun s hs ho => ?_⟩
      rcases hf s hs with h | h
      · rw [h]
        exact o2 s hs ho
      · have := layI_mem (h2.wts_in w1 _ h)
        simp only at this
        omega
  · rw [thenD_e c1]
    refine ⟨h1.wf, h1.same, h1.code, h1.un, h1.armd, fun h0 => absurd h0 c1, fun _ f hf => .inl fun s hs ho => ?_⟩
    rcases hf s hs with h | h
    · rw [h]
      exact (h1.fail c1).1 s
    · have := wipeI_mem (h1.wts_in hw _ h)
      simp only at this
      omega
theorem allRight_good {rs : List RecV} (h : ∀ x ∈ rs, Good x.1) : allRight rs = true := by
  unfold allRight
  rw [List.all_eq_true]
  exact fun x hx => (h x hx).right
theorem Ln.anew_eq {L : Ln} {m : Dk} {r : Nat} {rs : List RecV} (hg : ∀ x ∈ rs, Good x.1) (hf : (encs rs).length ≤ 14336) :
    L.anew m r rs = ((m.anew r (1 - L.bank) (L.gen + 1) (encs rs)).1, if (m.anew r (1 - L.bank) (L.gen + 1) (encs rs)).1 = 0 then ⟨L.gen + 1, 1 - L.bank, encs rs, (encs rs).length⟩ else L, (m.anew r (1 - L.bank) (L.gen + 1) (encs rs)).2) := by
  unfold Ln.anew
  rw [if_neg (by rw [allRight_good hg]; simp), if_neg (by omega)]
theorem anew_ok {m : Dk} (hm : m.Wf) {r : Nat} {L : Ln} {rs : List RecV} (hr : r < m.regs.length) (hsz : 514 ≤ m.size) (hw : m.wts r = []) (hb : L.bank ≤ 1) (hgn : L.gen + 1 < 4294967296) (hg : ∀ x ∈ rs, Good x.1) (hf : (encs rs).length ≤ 14336) (h0 : (L.anew m r rs).1 = 0) :
    LSt (L.anew m r rs).2.2 r (L.anew m r rs).2.1 (rs.map (·.1)) rs.length ∧ (L.anew m r rs).2.1.gen = L.gen + 1 := by
  have h := Dk.anew_at hm (bank := 1 - L.bank) (gen := L.gen + 1) (b := encs rs) hr (by omega) hf hsz hw
  rw [Ln.anew_eq hg hf] at h0 ⊢
  simp only at h0
  rw [if_pos h0]
  have e := encs_encR rs
  have e2 : (rs.map (·.1)).take rs.length = rs.map (·.1) := List.take_of_length_le (by simp)
  obtain ⟨h1, h2⟩ := h.ok h0
  refine ⟨⟨e, by simp, by rw [e2, ← e], fun x hx => ?_, by rw [← e]; exact hf, ?_⟩, rfl⟩
  · rw [List.mem_map] at hx
    obtain ⟨y, hy, rfl⟩ := hx
    exact hg y hy
  · show LRest _ _ (L.gen + 1) (1 - L.bank) _
    rw [e2, ← e]
    exact ⟨h.wf, by rw [h.same.regs]; exact hr, by rw [h.same.size]; exact hsz, h1, by omega, hgn, by omega, hf, Nat.le_refl _, h2.head, h2.secs⟩
theorem LSt.anew {m : Dk} {r : Nat} {L : Ln} {all : List Rec} {k : Nat} {rs : List RecV} (h : LSt m r L all k) (hgn : L.gen + 1 < 4294967296) (hg : ∀ x ∈ rs, Good x.1) (hf : (encs rs).length ≤ 14336) :
    ((L.anew m r rs).1 = 0 ∨ (L.anew m r rs).1 = 10) ∧ (m.armd r = false → (L.anew m r rs).1 = 0) ∧ Same m (L.anew m r rs).2.2 r ∧ (L.anew m r rs).2.2.Wf ∧ (L.anew m r rs).2.2.armd r = m.armd r ∧ (L.anew m r rs).2.2.writes ≤ m.writes + 520 ∧
    ((L.anew m r rs).1 = 0 → LSt (L.anew m r rs).2.2 r (L.anew m r rs).2.1 (rs.map (·.1)) rs.length ∧ (L.anew m r rs).2.1.gen = L.gen + 1) ∧
    ((L.anew m r rs).1 ≠ 0 → (L.anew m r rs).2.1 = L ∧ Torn (L.anew m r rs).2.2 r (fun f => RestF f L.gen L.bank (encR (all.take k)) ∨ RestF f (L.gen + 1) (1 - L.bank) (encR (rs.map (·.1))))) := by
  have hrs := h.rest
  have hbk := hrs.bankle
  have hsz := hrs.size
  have hok := anew_ok hrs.wf (L := L) (rs := rs) hrs.hr hsz hrs.wts hbk hgn hg hf
  have ha := Dk.anew_at hrs.wf (bank := 1 - L.bank) (gen := L.gen + 1) (b := encs rs) hrs.hr (by omega) hf hsz hrs.wts
  have hk := m.anew_keeps r (1 - L.bank) (L.gen + 1) (encs rs) hf
  rw [Ln.anew_eq hg hf] at hok ⊢
  refine ⟨ha.code, ha.un, ha.same, ha.wf, ha.armd, hk.2.2, hok, fun h0 => ?_⟩
  simp only at h0
  rw [if_neg h0]
  refine ⟨rfl, ha.wf, by rw [ha.same.regs]; exact hrs.hr, by rw [ha.same.size]; exact hsz, fun f hf => ?_⟩
  rw [show (_ : Nat × Dk).2.size = m.size from ha.same.size] at hf
  rcases ha.fail h0 f hf with h1 | h1
  · left
    refine RestF.mk' ?_ fun t ht => ?_
    · rw [h1 1 (by omega) (by unfold fst; omega)]
      exact hrs.head
    · rw [h1 _ (by unfold fst; omega) (by unfold fst; omega)]
      exact hrs.sec ht
  · right
    rw [← encs_encR]
    exact h1

/-! ### Open -/
theorem opens_part {m : Dk} {r gen bank sure : Nat} {l : List Rec} (hm : m.Wf) (hr : r < m.regs.length) (hsz : 514 ≤ m.size) (hw : m.wts r = []) (hu : m.armd r = false) (g0 : 0 < gen) (g1 : gen < 4294967296) (hb : bank ≤ 1) (hl : (encR l).length ≤ 14336) (hs : sure ≤ (encR l).length) (hg : ∀ x ∈ l, Good x) (h : PartF (m.dat r) gen bank (encR l) sure) :
    ∃ j m', j ≤ l.length ∧ m.opens r = (0, some (⟨gen, bank, encR (l.take j), (encR (l.take j)).length⟩, places gen 0 (l.take j)), m') ∧
      LSt m' r ⟨gen, bank, encR (l.take j), (encR (l.take j)).length⟩ (l.take j) j ∧ Same m m' r ∧ m'.armd r = false ∧ m'.writes ≤ m.writes + 600 ∧ ∀ i, i ≤ l.length → (encR (l.take i)).length ≤ sure → i ≤ j := by
  obtain ⟨j, m', h1, h2, h3, h4, h5, h6, h7⟩ := LPart.opens (m := m) (r := r) (l := l) (sure := sure) ⟨hm, hr, hsz, hw, g0, g1, hb, hl, hs, h.head, h.secs⟩ hg hu
  have e : (l.take j).take j = l.take j := by rw [List.take_take, Nat.min_self]
  refine ⟨j, m', h1, h2, ⟨rfl, by rw [List.length_take]; omega, by rw [e], fun x hx => hg x (List.mem_of_mem_take hx), ?_, by rw [e]; exact h3⟩, h4, h5, h6, h7⟩
  exact h3.len
/-- A region at rest is opened with all it has. -/
theorem opens_rest {m : Dk} {r gen bank : Nat} {l : List Rec} (hm : m.Wf) (hr : r < m.regs.length) (hsz : 514 ≤ m.size) (hw : m.wts r = []) (hu : m.armd r = false) (g0 : 0 < gen) (g1 : gen < 4294967296) (hb : bank ≤ 1) (hl : (encR l).length ≤ 14336) (hg : ∀ x ∈ l, Good x) (h : RestF (m.dat r) gen bank (encR l)) :
    ∃ m', m.opens r = (0, some (⟨gen, bank, encR l, (encR l).length⟩, places gen 0 l), m') ∧
      LSt m' r ⟨gen, bank, encR l, (encR l).length⟩ l l.length ∧ Same m m' r ∧ m'.armd r = false ∧ m'.writes ≤ m.writes + 600 := by
  obtain ⟨j, m', h1, h2, h3, h4, h5, h6, h7⟩ := opens_part hm hr hsz hw hu g0 g1 hb hl (Nat.le_refl _) hg h
  have hj : j = l.length := Nat.le_antisymm h1 (h7 l.length (Nat.le_refl _) (by rw [List.take_length]; exact Nat.le_refl _))
  subst hj
  rw [List.take_length] at h2 h3
  exact ⟨m', h2, h3, h4, h5, h6⟩
end Go.Proofs.Ytmlifjfgelfbbaa
