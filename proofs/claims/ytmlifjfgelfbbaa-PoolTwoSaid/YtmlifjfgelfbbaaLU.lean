/-
  Slices of records and of entries that are read. Laws of the model's memory; no statement.
  New, Open of a lane, fit: in terms of a lane's state: contracts, no statement.
  The disk under a pool, in plain Lean: a lane's calls leave the pages' sectors, the writing of a page leaves the lane's. No statement.
  A lane's calls by its state. Contracts, no statement.
-/
import Derived.Test.YtmlifjfgelfbbaaSd
import Derived.Test.YtmlifjfgelfbbaaBB
/-! ## Sg -/
namespace Go.Proofs.Ytmlifjfgelfbbaa
open Go Go.RowKit

theorem RecsIn.mono {w0 : World} {A B : HP} {a : Option Addr} {rs : List RecV} (h : RecsIn w0 A a rs) : RecsIn w0 (B * A) a rs :=
  ⟨h.1.imp id fun ⟨g, o, e, hc⟩ => ⟨g, o, e, fun w' h' => hc w' h'.r⟩, fun x hx w' h' => h.2.1 x hx w' h'.r, h.2.2⟩
def GoodV (rs : List RecV) : Prop := ∀ x ∈ rs, Good x.1
/-- Element i of records that are read. -/
theorem RecsIn.at {w0 w : World} {A : HP} {a : Option Addr} {rs : List RecV} (h : RecsIn w0 A a rs) (hA : At w0 A w) {i : Nat} (hi : i < rs.length) : ∃ g o, a = some ⟨g, o, none⟩ ∧ ∀ j u, rs[i].cs[j]? = some u → w.cell? ⟨g, o + i * 8 + j, none⟩ = some u := by
  obtain ⟨g, o, e, hc⟩ := h.1.resolve_left (fun e => by subst e; simp at hi)
  refine ⟨g, o, e, fun j u hu => ?_⟩
  rw [Nat.add_assoc]
  refine hc w hA (i * 8 + j) u ?_
  have hj : j < 8 := by rw [← rs[i].cs_len]; exact (List.getElem?_eq_some_iff.1 hu).1
  rw [flat_at (fun y _ => y.cs_len) i j hi hj]
  exact hu

theorem EntV.cs_len (x : EntV) : x.cs.length = 9 := rfl
/-- Entries that are read. -/
def EntsIn (w0 : World) (A : HP) (a : Option Addr) (es : List EntV) : Prop :=
  (es = [] ∨ ∃ g o, a = some ⟨g, o, none⟩ ∧ ∀ w', At w0 A w' → ∀ j u, (es.flatMap EntV.cs)[j]? = some u → w'.cell? ⟨g, o + j, none⟩ = some u) ∧
  ∀ x ∈ es, ∀ w', At w0 A w' → Rd w' (.slice x.2.2.1 x.2.1.dirty.length x.2.2.2) (nus x.2.1.dirty)
theorem EntsIn.mono {w0 : World} {A B : HP} {a : Option Addr} {es : List EntV} (h : EntsIn w0 A a es) : EntsIn w0 (B * A) a es :=
  ⟨h.1.imp id fun ⟨g, o, e, hc⟩ => ⟨g, o, e, fun w' h' => hc w' h'.r⟩, fun x hx w' h' => h.2 x hx w' h'.r⟩
theorem dirts_mem {w0 w : World} {R : HP} : ∀ {es : List EntV} {x : EntV}, x ∈ es → At w0 (dirts es * R) w → Rd w (.slice x.2.2.1 x.2.1.dirty.length x.2.2.2) (nus x.2.1.dirty)
  | [], _, hx, _ => by cases hx
  | y :: l, x, hx, h => by
    have h1 := (show At w0 (row _ 1 (.slice y.2.2.1 y.2.1.dirty.length y.2.2.2) y.2.1.dirty.length (nus y.2.1.dirty) * dirts l * R) w from h).assoc
    rcases List.mem_cons.1 hx with rfl | hx
    · exact h1.rd
    · exact dirts_mem hx h1.r
/-- What Open gives back is read. -/
theorem EntsIn.of_row {w0 w : World} {X : HP} {a : Option Addr} {c n : Nat} {es : List EntV} (hn : n = es.length) (h : At w0 (row 123 9 (.slice a n c) n (es.flatMap EntV.cs) * (dirts es * X)) w) :
    EntsIn w0 (row 123 9 (.slice a n c) n (es.flatMap EntV.cs) * (dirts es * X)) a es := by
  refine ⟨?_, fun x hx w' h' => dirts_mem hx h'.r⟩
  by_cases h0 : n = 0
  · left
    subst h0
    exact List.eq_nil_of_length_eq_zero hn.symm
  · right
    obtain ⟨g, cap, hv, _, _⟩ := h.row_ptr (by omega)
    simp only [Value.slice.injEq] at hv
    obtain ⟨rfl, _, rfl⟩ := hv
    refine ⟨g, 0, rfl, fun w' h' j u hu => ?_⟩
    rw [Nat.zero_add]
    exact (h'.row_cell rfl hu).2
theorem EntsIn.at {w0 w : World} {A : HP} {a : Option Addr} {es : List EntV} (h : EntsIn w0 A a es) (hA : At w0 A w) {i : Nat} (hi : i < es.length) : ∃ g o, a = some ⟨g, o, none⟩ ∧ ∀ j u, es[i].cs[j]? = some u → w.cell? ⟨g, o + i * 9 + j, none⟩ = some u := by
  obtain ⟨g, o, e, hc⟩ := h.1.resolve_left (fun e => by subst e; simp at hi)
  refine ⟨g, o, e, fun j u hu => ?_⟩
  rw [Nat.add_assoc]
  refine hc w hA (i * 9 + j) u ?_
  have hj : j < 9 := by rw [← es[i].cs_len]; exact (List.getElem?_eq_some_iff.1 hu).1
  rw [flat_at (fun y _ => y.cs_len) i j hi hj]
  exact hu

end Go.Proofs.Ytmlifjfgelfbbaa

/-! ## Lu -/
namespace Go.Proofs.Ytmlifjfgelfbbaa
open Go Go.RowKit

theorem recCheck_good : Good recCheck := ⟨by simp [Rec.right, recCheck, cellB], fun d hd => by simp [recCheck] at hd⟩
theorem enc11 {k : Int} : (⟨k, 0, 0, 0, ⟨#[]⟩, ⟨#[]⟩, ⟨#[]⟩, []⟩ : Rec).enc.length = 11 := by
  rw [Rec.enc_length]
  simp [Rec.body, be_len]
theorem encR_check : (encR [recCheck]).length = 11 := by
  unfold encR
  simp [recCheck, enc11]
theorem lane_new_pure {m : Dk} (hm : m.Wf) {r : Nat} (hr : r < m.regs.length) (hsz : 514 ≤ m.size) (hw : m.wts r = []) (hu : m.armd r = false) :
    ∃ L m', ln0.anew m r [rvCheck] = (0, L, m') ∧ LSt m' r L [recCheck] 1 ∧ L.gen = 1 ∧ L.bank = 0 ∧ Same m m' r ∧ m'.armd r = false ∧ m'.writes ≤ m.writes + 520 := by
  have hg : ∀ x ∈ [rvCheck], Good x.1 := fun x hx => by rw [List.mem_singleton.1 hx]; exact recCheck_good
  have hf : (encs [rvCheck]).length ≤ 14336 := by
    rw [encs_encR]
    show (encR [recCheck]).length ≤ _
    rw [encR_check]
    decide
  have ha := Dk.anew_at hm (bank := 1 - ln0.bank) (gen := ln0.gen + 1) (b := encs [rvCheck]) hr (by decide) hf hsz hw
  have hk := m.anew_keeps r (1 - ln0.bank) (ln0.gen + 1) (encs [rvCheck]) hf
  have h0 : (ln0.anew m r [rvCheck]).1 = 0 := by
    rw [Ln.anew_eq hg hf]
    exact ha.un hu
  obtain ⟨h1, h2⟩ := anew_ok hm (L := ln0) (rs := [rvCheck]) hr hsz hw (by decide) (by decide) hg hf h0
  refine ⟨(ln0.anew m r [rvCheck]).2.1, (ln0.anew m r [rvCheck]).2.2, ?_, h1, h2, ?_, ?_, ?_, ?_⟩
  · rw [← h0]
  · rw [Ln.anew_eq hg hf] at h0 ⊢
    simp only at h0
    simp only [if_pos h0]
    rfl
  · rw [Ln.anew_eq hg hf]
    exact ha.same
  · rw [Ln.anew_eq hg hf]
    exact ha.armd.trans hu
  · rw [Ln.anew_eq hg hf]
    exact hk.2.2

section
variable {w0 w : World} {R : HP}
theorem laneNew_st (w0 w : World) (R : HP) (d r : Nat) (m : Dk) (hm : m.Wf) (hr : r < m.regs.length) (hsz : 514 ≤ m.size) (hw : m.wts r = []) (hu : m.armd r = false) (hwn : m.writes ≤ 800000000) (h : At w0 (dsk d m * R) w) :
    Calls Try.prog 10 #[.pointer (some ⟨d, 0, none⟩), .int .i64 r] w fun e w' => ∃ P L m', e = .returned (.tuple #[.pointer (some ⟨P, 0, none⟩), .int .i64 0]) ∧
      LSt m' r L [recCheck] 1 ∧ L.gen = 1 ∧ L.bank = 0 ∧ Same m m' r ∧ m'.armd r = false ∧ m'.writes ≤ m.writes + 520 ∧ At w0 (lan P d r L * (dsk d m' * R)) w' := by
  obtain ⟨L, m', e, h1, h2, h3, h4, h5, h6⟩ := lane_new_pure hm hr hsz hw hu
  have := laneNew_any w0 w R d r m hr hwn h
  rw [e] at this
  refine this.mono ?_
  rintro e w' ⟨P, rfl, hA⟩
  exact ⟨P, L, m', rfl, h1, h2, h3, h4, h5, h6, hA⟩

theorem places_good {gen : Nat} : ∀ {pos : Nat} {l : List Rec} {es : List EntV}, es.map EntV.er = places gen pos l → es.map (·.2.1) = l := fun {pos l es} h => by
  have := congrArg (List.map Prod.snd) h
  rw [places_snd, List.map_map] at this
  exact this
/-- What Open answers of a region that may be torn. -/
def OpnPart (w0 : World) (R : HP) (d r : Nat) (m : Dk) (gen bank sure : Nat) (l : List Rec) (e : Ending) (w' : World) : Prop :=
  ∃ (P : Nat) (a : Option Addr) (c : Nat) (es : List EntV) (j : Nat) (m' : Dk), e = .returned (.tuple #[.pointer (some ⟨P, 0, none⟩), .slice a es.length c, .int .i64 0]) ∧ j ≤ l.length ∧ es.length = j ∧ es.map EntV.er = places gen 0 (l.take j) ∧
    LSt m' r ⟨gen, bank, encR (l.take j), (encR (l.take j)).length⟩ (l.take j) j ∧ Same m m' r ∧ m'.armd r = false ∧ m'.writes ≤ m.writes + 600 ∧ (∀ i, i ≤ l.length → (encR (l.take i)).length ≤ sure → i ≤ j) ∧
    At w0 (lan P d r ⟨gen, bank, encR (l.take j), (encR (l.take j)).length⟩ * (row 123 9 (.slice a es.length c) es.length (es.flatMap EntV.cs) * (dirts es * (dsk d m' * R)))) w'
theorem laneOpen_part (w0 w : World) (R : HP) (d r : Nat) (m : Dk) {gen bank sure : Nat} {l : List Rec} (hm : m.Wf) (hr : r < m.regs.length) (hsz : 514 ≤ m.size) (hw : m.wts r = []) (hu : m.armd r = false) (g0 : 0 < gen) (g1 : gen < 4294967296) (hb : bank ≤ 1) (hl : (encR l).length ≤ 14336) (hs : sure ≤ (encR l).length) (hg : ∀ x ∈ l, Good x) (hp : PartF (m.dat r) gen bank (encR l) sure) (hwn : m.writes ≤ 800000000) (h : At w0 (dsk d m * R) w) :
    Calls Try.prog 25 #[.pointer (some ⟨d, 0, none⟩), .int .i64 r] w (OpnPart w0 R d r m gen bank sure l) := by
  obtain ⟨j, m', h1, h2, h3, h4, h5, h6, h7⟩ := opens_part hm hr hsz hw hu g0 g1 hb hl hs hg hp
  have := laneOpen_any w0 w R d r m hr hsz hwn h
  rw [h2] at this
  refine this.mono ?_
  rintro e w' ⟨P, es, a, c, rfl, hes, hA⟩
  have hel : es.length = (places gen 0 (l.take j)).length := by rw [← hes, List.length_map]
  have hj : (places gen 0 (l.take j)).length = j := by rw [places_len, List.length_take]; omega
  rw [← hel] at hA ⊢
  exact ⟨P, a, c, es, j, m', rfl, h1, by rw [hel, hj], hes, h3, h4, h5, h6, h7, hA⟩
/-- The same of a region at rest. -/
def OpnRest (w0 : World) (R : HP) (d r : Nat) (m : Dk) (gen bank : Nat) (l : List Rec) (e : Ending) (w' : World) : Prop :=
  ∃ (P : Nat) (a : Option Addr) (c : Nat) (es : List EntV) (m' : Dk), e = .returned (.tuple #[.pointer (some ⟨P, 0, none⟩), .slice a es.length c, .int .i64 0]) ∧ es.length = l.length ∧ es.map EntV.er = places gen 0 l ∧
    LSt m' r ⟨gen, bank, encR l, (encR l).length⟩ l l.length ∧ Same m m' r ∧ m'.armd r = false ∧ m'.writes ≤ m.writes + 600 ∧
    At w0 (lan P d r ⟨gen, bank, encR l, (encR l).length⟩ * (row 123 9 (.slice a es.length c) es.length (es.flatMap EntV.cs) * (dirts es * (dsk d m' * R)))) w'
theorem laneOpen_rest (w0 w : World) (R : HP) (d r : Nat) (m : Dk) {gen bank : Nat} {l : List Rec} (hm : m.Wf) (hr : r < m.regs.length) (hsz : 514 ≤ m.size) (hw : m.wts r = []) (hu : m.armd r = false) (g0 : 0 < gen) (g1 : gen < 4294967296) (hb : bank ≤ 1) (hl : (encR l).length ≤ 14336) (hg : ∀ x ∈ l, Good x) (hp : RestF (m.dat r) gen bank (encR l)) (hwn : m.writes ≤ 800000000) (h : At w0 (dsk d m * R) w) :
    Calls Try.prog 25 #[.pointer (some ⟨d, 0, none⟩), .int .i64 r] w (OpnRest w0 R d r m gen bank l) := by
  refine (laneOpen_part w0 w R d r m hm hr hsz hw hu g0 g1 hb hl (Nat.le_refl _) hg hp hwn h).mono ?_
  rintro e w' ⟨P, a, c, es, j, m', rfl, h1, h2, h3, h4, h5, h6, h7, h8, h9⟩
  have hj : j = l.length := Nat.le_antisymm h1 (h8 l.length (Nat.le_refl _) (by rw [List.take_length]; exact Nat.le_refl _))
  subst hj
  rw [List.take_length] at h3 h4 h9
  exact ⟨P, a, c, es, m', rfl, h2, h3, h4, h5, h6, h7, h9⟩
/-- Of a lane's region, opened as it is. -/
theorem LSt.rest' {m : Dk} {r : Nat} {L : Ln} {all : List Rec} {k : Nat} (h : LSt m r L all k) : RestF (m.dat r) L.gen L.bank (encR (all.take k)) := h.rest.partF
theorem LSt.torn {m : Dk} {r : Nat} {L : Ln} {all : List Rec} {k : Nat} (h : LSt m r L all k) : Torn m r (fun f => RestF f L.gen L.bank (encR (all.take k))) := LPart.torn h.rest
/-- A crash with nothing waiting: the region is at rest as before. -/
theorem LSt.crashed {m : Dk} {r : Nat} {L : Ln} {all : List Rec} {k : Nat} (h : LSt m r L all k) (mask : Nat) : LSt (m.crash mask) r L all k ∧ (m.crash mask).armd r = false := by
  obtain ⟨h1, h2, h3⟩ := h.torn.crash mask
  obtain ⟨c1, c2, c3, c4, _⟩ := Dk.crash_at (mask := mask) h.rest.wf
  refine ⟨⟨h.b, h.kle, h.sure, h.good, h.len, ⟨c1, by rw [c2]; exact h.rest.hr, by rw [c3]; exact h.rest.size, h2, h.rest.gen0, h.rest.gen1, h.rest.bankle, h.rest.len, Nat.le_refl _, h1.head, h1.secs⟩⟩, h3⟩
theorem laneOpen_st (w0 w : World) (R : HP) (d r : Nat) (m : Dk) {L : Ln} {all : List Rec} {k : Nat} (hs : LSt m r L all k) (hu : m.armd r = false) (hwn : m.writes ≤ 800000000) (h : At w0 (dsk d m * R) w) :
    Calls Try.prog 25 #[.pointer (some ⟨d, 0, none⟩), .int .i64 r] w (OpnRest w0 R d r m L.gen L.bank (all.take k)) :=
  laneOpen_rest w0 w R d r m hs.rest.wf hs.rest.hr hs.rest.size hs.rest.wts hu hs.rest.gen0 hs.rest.gen1 hs.rest.bankle hs.rest.len (fun x hx => hs.good x (List.mem_of_mem_take hx)) hs.rest' hwn h
end
theorem Dk.new_at (n size r : Nat) (hr : r < n) : (Dk.new n size).wts r = [] ∧ (Dk.new n size).armd r = false := by
  unfold Dk.wts Dk.armd Dk.new
  simp only [List.getElem?_replicate, if_pos hr]
  exact ⟨rfl, rfl⟩
end Go.Proofs.Ytmlifjfgelfbbaa

/-! ## Po -/
namespace Go.Proofs.Ytmlifjfgelfbbaa
open Go Go.RowKit

/-- A page's first sector. -/
def pgAt (n : Nat) : Nat := 514 + 4 * n
/-- A page's bytes on the disk. -/
def Dk.page (m : Dk) (r n : Nat) : List UInt8 := m.sec r (pgAt n) ++ m.sec r (pgAt n + 1) ++ m.sec r (pgAt n + 2) ++ m.sec r (pgAt n + 3)
/-- The sectors of pages are as they were. -/
def PgSame (m m' : Dk) (r : Nat) : Prop := ∀ s, 514 ≤ s → s < m.size → m'.dat r s = m.dat r s

theorem Dk.anew_pages {m : Dk} (hm : m.Wf) {r bank gen : Nat} {b : List UInt8} (hr : r < m.regs.length) (hb : bank ≤ 1) (hbl : b.length ≤ 14336) (hsz : 514 ≤ m.size) (hw : m.wts r = []) (hu : m.armd r = false) :
    PgSame m (m.anew r bank gen b).2 r := by
  intro s hs1 hs2
  unfold Dk.anew
  have h1 := Dk.wipe_laid hm (r := r) (s := fst bank) (t := fst bank + 256) hr (by unfold fst; omega) (by unfold fst; omega)
  have d1 := Dk.wipe_dat hm (r := r) (s := fst bank) (t := fst bank + 256) hr (by unfold fst; omega) (by unfold fst; omega)
  obtain ⟨P1, hP1⟩ : ∃ P1, m.wipe r (fst bank) (fst bank + 256) = P1 := ⟨_, rfl⟩
  rw [hP1] at h1 d1 ⊢
  have c1 := h1.un hu
  rw [thenD_0 c1]
  have w1 := (h1.ok c1).1
  have hr1 : r < P1.2.regs.length := by rw [h1.same.regs]; exact hr
  have hsz1 : 514 ≤ P1.2.size := by rw [h1.same.size]; exact hsz
  have h2 := Dk.lay_laid h1.wf (r := r) (bank := bank) (gen := gen) (fr := 0) (bs := b) hr1 hb hbl (Nat.zero_le _) hsz1
  have hns := nsec_le hbl
  obtain ⟨P2, hP2⟩ : ∃ P2, P1.2.lay r bank gen b 0 = P2 := ⟨_, rfl⟩
  rw [hP2] at h2 ⊢
  have c2 := h2.un (by rw [h1.armd]; exact hu)
  rw [thenD_0 c2]
  have w2 := (h2.ok c2).1
  have hr2 : r < P2.2.regs.length := by rw [h2.same.regs]; exact hr1
  have sz2 : P2.2.size = m.size := h2.same.size.trans h1.same.size
  have h3 := (Wrote.one h2.wf (r := r) (s := 1) (x := be 4 gen ++ be 1 bank) hr2 (by omega) (by rw [List.length_append, be_len, be_len]; decide)).bar hr2
  rw [h3.dat_out w2 (by omega) (fun q hq => by rw [List.mem_singleton.1 hq]; show (1 : Nat) ≠ s; omega)]
  rw [h2.dat_out w1 (by rw [h1.same.size]; exact hs2) fun q hq => by have := layI_mem hq; unfold fst at this; omega]
  rw [d1 c1 s hs2, if_neg (by unfold fst; omega), Dk.sec_nil hw]
theorem lane_new_pages {m : Dk} (hm : m.Wf) {r : Nat} (hr : r < m.regs.length) (hsz : 514 ≤ m.size) (hw : m.wts r = []) (hu : m.armd r = false) :
    ∃ L m', ln0.anew m r [rvCheck] = (0, L, m') ∧ LSt m' r L [recCheck] 1 ∧ L.gen = 1 ∧ L.bank = 0 ∧ Same m m' r ∧ m'.armd r = false ∧ m'.writes ≤ m.writes + 520 ∧ PgSame m m' r := by
  obtain ⟨L, m', e, h1, h2, h3, h4, h5, h6⟩ := lane_new_pure hm hr hsz hw hu
  refine ⟨L, m', e, h1, h2, h3, h4, h5, h6, ?_⟩
  have hg : ∀ x ∈ [rvCheck], Good x.1 := fun x hx => by rw [List.mem_singleton.1 hx]; exact recCheck_good
  have hf : (encs [rvCheck]).length ≤ 14336 := by
    rw [encs_encR]
    show (encR [recCheck]).length ≤ _
    rw [encR_check]
    decide
  rw [Ln.anew_eq hg hf] at e
  have e2 := congrArg (fun p : Nat × Ln × Dk => p.2.2) e
  have := Dk.anew_pages hm (bank := 1 - ln0.bank) (gen := ln0.gen + 1) (b := encs [rvCheck]) hr (by decide) hf hsz hw hu
  rwa [show (m.anew r (1 - ln0.bank) (ln0.gen + 1) (encs [rvCheck])).2 = m' from e2] at this
theorem LSt.flush_pages {m : Dk} {r : Nat} {L : Ln} {all : List Rec} {k : Nat} (h : LSt m r L all k) : PgSame m (L.flush m r).2.2 r := by
  intro s hs1 hs2
  obtain ⟨hb, hk, hsu, hgd, hln, hrs⟩ := h
  have hsl : L.sure ≤ (encR all).length := by rw [hsu]; exact encR_take_le _ _
  unfold Ln.flush
  by_cases hs : L.sure = L.b.length
  · rw [if_pos hs]
  · rw [if_neg hs, hb]
    have hla := Dk.lay_laid hrs.wf (bank := L.bank) (gen := L.gen) (fr := L.sure) (bs := encR all) hrs.hr hrs.bankle hln hsl hrs.size
    have hns := nsec_le hln
    have hbk := hrs.bankle
    exact hla.dat_out hrs.wts hs2 fun q hq => by
      have := layI_mem hq
      have h2 : L.sure / 56 ≤ nsec (encR all).length := by unfold nsec; omega
      unfold fst at this
      omega

/-! ### A page is written -/
def Dk.wr4 (m : Dk) (r n : Nat) (b : List UInt8) : Nat × Dk :=
  thenD (m.wr r (pgAt n) (b.take 64)) fun m => thenD (m.wr r (pgAt n + 1) ((b.drop 64).take 64)) fun m => thenD (m.wr r (pgAt n + 2) ((b.drop 128).take 64)) fun m => m.wr r (pgAt n + 3) ((b.drop 192).take 64)
def Dk.wrPage (m : Dk) (r n : Nat) (b : List UInt8) : Nat × Dk := thenD (m.wr4 r n b) fun m => m.bar r
def pgI (n : Nat) (b : List UInt8) : List (Nat × List UInt8) :=
  [(pgAt n, pad (b.take 64))] ++ ([(pgAt n + 1, pad ((b.drop 64).take 64))] ++ ([(pgAt n + 2, pad ((b.drop 128).take 64))] ++ [(pgAt n + 3, pad ((b.drop 192).take 64))]))
theorem take64 (l : List UInt8) : (l.take 64).length ≤ 64 := by rw [List.length_take]; omega
theorem Dk.wr4_wrote {m : Dk} (hm : m.Wf) {r n : Nat} {b : List UInt8} (hr : r < m.regs.length) (hn : pgAt n + 3 < m.size) : Wrote m r (pgI n b) (m.wr4 r n b) := by
  have a1 := Wrote.one (x := b.take 64) hm hr (show pgAt n < m.size by omega) (take64 _)
  refine a1.then fun _ => ?_
  have r1 : r < (m.wr r (pgAt n) (b.take 64)).2.regs.length := by rw [a1.same.regs]; exact hr
  have s1 := a1.same.size
  have a2 := Wrote.one (x := (b.drop 64).take 64) a1.wf r1 (show pgAt n + 1 < _ by rw [s1]; omega) (take64 _)
  refine a2.then fun _ => ?_
  have r2 := a2.same.regs
  have s2 := a2.same.size
  have a3 := Wrote.one (r := r) (s := pgAt n + 2) (x := (b.drop 128).take 64) a2.wf (by rw [r2]; exact r1) (by rw [s2, s1]; omega) (take64 _)
  refine a3.then fun _ => ?_
  have r3 := a3.same.regs
  have s3 := a3.same.size
  exact Wrote.one a3.wf (by rw [r3, r2]; exact r1) (by rw [s3, s2, s1]; omega) (take64 _)
theorem Dk.wrPage_laid {m : Dk} (hm : m.Wf) {r n : Nat} {b : List UInt8} (hr : r < m.regs.length) (hn : pgAt n + 3 < m.size) : Laid m r (pgI n b) (m.wrPage r n b) := (m.wr4_wrote hm hr hn).bar hr
theorem pad_full {x : List UInt8} (h : x.length = 64) : pad x = x := by
  unfold pad zbys
  rw [h]
  simp
/-- What a page's writing does to a region of which nothing waits, and that is not armed. -/
theorem Dk.wrPage_dat {m : Dk} (hm : m.Wf) {r n : Nat} {b : List UInt8} (hr : r < m.regs.length) (hn : pgAt n + 3 < m.size) (hb : b.length = 256) (hw : m.wts r = []) (hu : m.armd r = false) :
    (m.wrPage r n b).1 = 0 ∧ (m.wrPage r n b).2.Wf ∧ Same m (m.wrPage r n b).2 r ∧ (m.wrPage r n b).2.wts r = [] ∧ (m.wrPage r n b).2.armd r = false ∧ (m.wrPage r n b).2.page r n = b ∧
    ∀ s, s < m.size → s < pgAt n ∨ pgAt n + 4 ≤ s → (m.wrPage r n b).2.dat r s = m.dat r s := by
  have h := m.wrPage_laid hm (n := n) (b := b) hr hn
  have c := h.un hu
  obtain ⟨w, d⟩ := h.ok c
  rw [hw] at d
  simp only [List.nil_append] at d
  have l0 : (b.take 64).length = 64 := by rw [List.length_take]; omega
  have l1 : ((b.drop 64).take 64).length = 64 := by rw [List.length_take, List.length_drop]; omega
  have l2 : ((b.drop 128).take 64).length = 64 := by rw [List.length_take, List.length_drop]; omega
  have l3 : ((b.drop 192).take 64).length = 64 := by rw [List.length_take, List.length_drop]; omega
  have n1 : ¬ (pgAt n + 1 = pgAt n) := by omega
  refine ⟨c, h.wf, h.same, w, h.armd.trans hu, ?_, fun s hs ho => ?_⟩
  · unfold Dk.page
    rw [Dk.sec_nil w, Dk.sec_nil w, Dk.sec_nil w, Dk.sec_nil w, d _ (by omega), d _ (by omega), d _ (by omega), d _ hn]
    unfold pgI
    simp only [List.cons_append, List.nil_append, lastOf, pad_full l0, pad_full l1, pad_full l2, pad_full l3]
    have e : b.take 64 ++ (b.drop 64).take 64 ++ (b.drop 128).take 64 ++ (b.drop 192).take 64 = b := by
      have s : ∀ k, (b.drop k).take 64 ++ b.drop (k + 64) = b.drop k := fun k => by
        rw [← List.drop_drop]
        exact List.take_append_drop 64 (b.drop k)
      have q : (b.drop 192).take 64 = b.drop 192 := List.take_of_length_le (by rw [List.length_drop, hb]; decide)
      have a2 := s 128
      have a1 := s 64
      have a0 := s 0
      simp only [List.drop_zero, Nat.zero_add] at a0
      rw [q]
      simp only [List.append_assoc]
      rw [a2, a1, a0]
    conv => rhs; rw [← e]
    simp
  · rw [d s hs, lastOf_none (fun q hq => by
      unfold pgI at hq
      simp only [List.cons_append, List.nil_append, List.mem_cons, List.not_mem_nil, or_false] at hq
      rcases hq with rfl | rfl | rfl | rfl <;> (show _ ≠ s; simp only; omega))]
    rfl
/-- A lane's state hangs on its own sectors. -/
theorem LSt.paged {m m' : Dk} {r : Nat} {L : Ln} {all : List Rec} {k : Nat} (h : LSt m r L all k) (hs : Same m m' r) (hwf : m'.Wf) (hw : m'.wts r = []) (hd : ∀ s, s < 514 → m'.dat r s = m.dat r s) : LSt m' r L all k := by
  obtain ⟨h1, h2, h3, h4, h5, h6⟩ := h
  refine ⟨h1, h2, h3, h4, h5, ?_⟩
  obtain ⟨g1, g2, g3, g4, g5, g6, g7, g8, g9, g10, g11⟩ := h6
  refine ⟨hwf, by rw [hs.regs]; exact g2, by rw [hs.size]; exact g3, hw, g5, g6, g7, g8, g9, by rw [hd 1 (by omega)]; exact g10, fun t ht => ?_⟩
  rw [hd (fst L.bank + t) (by unfold fst; omega)]
  exact g11 t ht
end Go.Proofs.Ytmlifjfgelfbbaa

/-! ## Lg -/
namespace Go.Proofs.Ytmlifjfgelfbbaa
open Go Go.RowKit

def recEnd : Rec := ⟨6, 0, 0, 0, ⟨#[]⟩, ⟨#[]⟩, ⟨#[]⟩, []⟩
theorem recEnd_good : Good recEnd := ⟨by simp [Rec.right, recEnd, cellB], fun d hd => by simp [recEnd] at hd⟩
theorem Ln.place_eq (L : Ln) (k : Nat) : L.place k = L.gen * 1048576 + k + 1 := rfl


theorem laneAnew_ok (w0 w : World) (R : HP) (p d r : Nat) {L : Ln} {m : Dk} {all : List Rec} {k : Nat} (a : Option Addr) (c : Nat) (rs : List RecV) (hs : LSt m r L all k) (hu : m.armd r = false) (hgn : L.gen + 1 < 4294967296) (hrl : rs.length ≤ 1000) (hwn : m.writes ≤ 800000000)
    (hg : GoodV rs) (hf : (encs rs).length ≤ 14336) (hA : RecsIn w0 R a rs) (h : At w0 (lan p d r L * (dsk d m * R)) w) :
    Calls Try.prog 30 #[.pointer (some ⟨p, 0, none⟩), .slice a rs.length c] w fun e w' => ∃ L' m', e = .returned (.int .i64 0) ∧ LSt m' r L' (rs.map (·.1)) rs.length ∧ L'.gen = L.gen + 1 ∧ Same m m' r ∧ m'.armd r = false ∧ m'.writes ≤ m.writes + 520 ∧
      At w0 (lan p d r L' * (dsk d m' * R)) w' := by
  refine (laneAnew_any w0 w R p d r L m a c rs hs.rest.hr hgn hrl hwn hA h).mono ?_
  rintro e w' ⟨rfl, h1⟩
  obtain ⟨g1, g2, g3, g4, g5, g6, g7, g8⟩ := hs.anew hgn hg hf
  have h0 := g2 hu
  rw [h0]
  obtain ⟨g9, g10⟩ := g7 h0
  exact ⟨_, _, rfl, g9, g10, g3, g5.trans hu, g6, h1⟩
theorem laneFlush_ok (w0 w : World) (R : HP) (p d r : Nat) {L : Ln} {m : Dk} {all : List Rec} {k : Nat} (hs : LSt m r L all k) (hu : m.armd r = false) (hwn : m.writes ≤ 800000000) (h : At w0 (lan p d r L * (dsk d m * R)) w) :
    Calls Try.prog 59 #[.pointer (some ⟨p, 0, none⟩)] w fun e w' => ∃ L' m', e = .returned (.int .i64 0) ∧ LSt m' r L' all all.length ∧ L'.gen = L.gen ∧ L'.bank = L.bank ∧ L'.b = L.b ∧ Same m m' r ∧ m'.armd r = false ∧ m'.writes ≤ m.writes + 256 ∧
      At w0 (lan p d r L' * (dsk d m' * R)) w' := by
  refine (laneFlush_any w0 w R p d r L m hs.rest.hr hwn h).mono ?_
  rintro e w' ⟨rfl, h1⟩
  obtain ⟨g1, g2, g3, g4, g5, g6, g7, g8⟩ := hs.flush
  have h0 := g2 hu
  rw [h0]
  obtain ⟨g9, g10, g11, g12⟩ := g7 h0
  exact ⟨_, _, rfl, g9, g10, g11, g12, g3, g5.trans hu, g6, h1⟩
/-- Append, where there is room. -/
theorem laneAppend_ok (w0 w : World) (R : HP) (p d r : Nat) {L : Ln} {m : Dk} {all : List Rec} {k : Nat} (x : Rec) (a : Option Addr) (c : Nat) (hs : LSt m r L all k) (hx : Good x) (hf : (encR all).length + x.enc.length ≤ 14336) (hA : ∀ w', At w0 R w' → Rd w' (.slice a x.dirty.length c) (nus x.dirty)) (h : At w0 (lan p d r L * R) w) :
    Calls Try.prog 17 #[.pointer (some ⟨p, 0, none⟩), .agg (x.cells (.slice a x.dirty.length c)).toArray] w fun e w' => ∃ L', e = .returned (.tuple #[.int .u64 (L.gen * 1048576 + (encR all).length + 1 : Nat), .int .i64 0]) ∧ LSt m r L' (all ++ [x]) k ∧ L'.gen = L.gen ∧ L'.bank = L.bank ∧ At w0 (lan p d r L' * R) w' := by
  refine (laneAppend_any w0 w R p d r L x a c hx.nums hA h).mono ?_
  rintro e w' ⟨rfl, h1⟩
  obtain ⟨g1, g2⟩ := hs.append_ok hx hf
  rw [g1] at h1 ⊢
  exact ⟨_, rfl, g2, rfl, rfl, h1⟩
/-- Append, where there is none. -/
theorem laneAppend_full (w0 w : World) (R : HP) (p d r : Nat) {L : Ln} {m : Dk} {all : List Rec} {k : Nat} (x : Rec) (a : Option Addr) (c : Nat) (hs : LSt m r L all k) (hx : Good x) (hf : ¬ (encR all).length + x.enc.length ≤ 14336) (hA : ∀ w', At w0 R w' → Rd w' (.slice a x.dirty.length c) (nus x.dirty)) (h : At w0 (lan p d r L * R) w) :
    Calls Try.prog 17 #[.pointer (some ⟨p, 0, none⟩), .agg (x.cells (.slice a x.dirty.length c)).toArray] w fun e w' => e = .returned (.tuple #[.int .u64 0, .int .i64 7]) ∧ At w0 (lan p d r L * R) w' := by
  refine (laneAppend_any w0 w R p d r L x a c hx.nums hA h).mono ?_
  rintro e w' ⟨rfl, h1⟩
  rw [hs.append_full hx.right hf] at h1 ⊢
  exact ⟨rfl, h1⟩
theorem laneRoom_st (w0 w : World) (R : HP) (p d r : Nat) {L : Ln} {m : Dk} {all : List Rec} {k n : Nat} (hs : LSt m r L all k) (hn : (encR all).length = n) (h : At w0 (lan p d r L * R) w) :
    Calls Try.prog 39 #[.pointer (some ⟨p, 0, none⟩)] w fun e w' => e = .returned (.int .i64 (14336 - n : Nat)) ∧ w = w' := by
  have := laneRoom_any w0 w R p d r L h
  rw [hs.b, hn] at this
  exact this
theorem Rec.enc_le {r : Rec} (h : Good r) : r.enc.length ≤ 395 := by
  have := Rec.body_len h.right
  rw [r.enc_length]
  omega
/-- A slice of one record that was just made. -/
theorem recs_one {w0 : World} {R : HP} {N : Nat} (x : RecV) (t : TypeId) (hd : ∀ w', At w0 R w' → Rd w' (.slice x.2.1 x.1.dirty.length x.2.2) (nus x.1.dirty)) (hn : ∀ d ∈ x.1.dirty, d < 2 ^ 64) : RecsIn w0 (cel N x.cs.toArray t * R) (some ⟨N, 0, none⟩) [x] :=
  ⟨.inr ⟨N, 0, rfl, fun w' h' j u hu => by
    rw [Nat.zero_add]
    refine At.cell h' ?_
    simpa using hu⟩, fun y hy w' h' => by rw [List.mem_singleton.1 hy]; exact hd w' h'.r, fun y hy => by rw [List.mem_singleton.1 hy]; exact hn⟩
end Go.Proofs.Ytmlifjfgelfbbaa
