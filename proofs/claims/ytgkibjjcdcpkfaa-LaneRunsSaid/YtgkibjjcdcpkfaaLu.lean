/-
  New, Open of a lane, fit: in terms of a lane's state: contracts, no statement.
-/
import Derived.Test.YtgkibjjcdcpkfaaSz
namespace Go.Proofs.Ytgkibjjcdcpkfaa
open Go Go.RowKit

theorem recCheck_good : Good recCheck := ⟨by simp [Rec.right, recCheck, cellB], fun d hd => by simp [recCheck] at hd⟩
theorem enc11 {k : Int} : (⟨k, 0, 0, 0, ⟨#[]⟩, ⟨#[]⟩, ⟨#[]⟩, []⟩ : Rec).enc.length = 11 := by
  rw [Rec.enc_length]
  simp [Rec.body, be_len]
theorem encR_check : (encR [recCheck]).length = 11 := by
  unfold encR
  simp [recCheck, enc11]
theorem lane_new_pure {m : Dk} (hm : m.Wf) {r : Nat} (hr : r < m.regs.length) (hsz : 514 ≤ m.size) (hw : m.wts r = []) (hu : m.armd r = false) :
    ∃ L m', ln0.anew m r [rvCheck] = (0, L, m') ∧ LSt m' r L [recCheck] 1 ∧ L.gen = 1 ∧ L.bank = 0 ∧ Same m m' r ∧ m'.armd r = false ∧ m'.writes ≤ m.writes + 520 := by
  have hg : ∀ x ∈ [rvCheck], Good x.1 := fun x hx => by rw [List.mem_singleton.1 hx]; exact recCheck_good
  have hf : (encs [rvCheck]).length ≤ 14336 := by
    rw [encs_encR]
    show (encR [recCheck]).length ≤ _
    rw [encR_check]
    decide
  have ha := Dk.anew_at hm (bank := 1 - ln0.bank) (gen := ln0.gen + 1) (b := encs [rvCheck]) hr (by decide) hf hsz hw
  have hk := m.anew_keeps r (1 - ln0.bank) (ln0.gen + 1) (encs [rvCheck]) hf
  have h0 : (ln0.anew m r [rvCheck]).1 = 0 := by
    rw [Ln.anew_eq hg hf]
    exact ha.un hu
  obtain ⟨h1, h2⟩ := anew_ok hm (L := ln0) (rs := [rvCheck]) hr hsz hw (by decide) (by decide) hg hf h0
  refine ⟨(ln0.anew m r [rvCheck]).2.1, (ln0.anew m r [rvCheck]).2.2, ?_, h1, h2, ?_, ?_, ?_, ?_⟩
  · rw [← h0]
  · rw [Ln.anew_eq hg hf] at h0 ⊢
    simp only at h0
    simp only [if_pos h0]
    rfl
  · rw [Ln.anew_eq hg hf]
    exact ha.same
  · rw [Ln.anew_eq hg hf]
    exact ha.armd.trans hu
  · rw [Ln.anew_eq hg hf]
    exact hk.2.2

section
variable {w0 w : World} {R : HP}
theorem laneNew_st (w0 w : World) (R : HP) (d r : Nat) (m : Dk) (hm : m.Wf) (hr : r < m.regs.length) (hsz : 514 ≤ m.size) (hw : m.wts r = []) (hu : m.armd r = false) (hwn : m.writes ≤ 800000000) (h : At w0 (dsk d m * R) w) :
    Calls Try.prog 19 #[.pointer (some ⟨d, 0, none⟩), .int .i64 r] w fun e w' => ∃ P L m', e = .returned (.tuple #[.pointer (some ⟨P, 0, none⟩), .int .i64 0]) ∧
      LSt m' r L [recCheck] 1 ∧ L.gen = 1 ∧ L.bank = 0 ∧ Same m m' r ∧ m'.armd r = false ∧ m'.writes ≤ m.writes + 520 ∧ At w0 (lan P d r L * (dsk d m' * R)) w' := by
  obtain ⟨L, m', e, h1, h2, h3, h4, h5, h6⟩ := lane_new_pure hm hr hsz hw hu
  have := laneNew_any w0 w R d r m hr hwn h
  rw [e] at this
  refine this.mono ?_
  rintro e w' ⟨P, rfl, hA⟩
  exact ⟨P, L, m', rfl, h1, h2, h3, h4, h5, h6, hA⟩

theorem places_good {gen : Nat} : ∀ {pos : Nat} {l : List Rec} {es : List EntV}, es.map EntV.er = places gen pos l → es.map (·.2.1) = l := fun {pos l es} h => by
  have := congrArg (List.map Prod.snd) h
  rw [places_snd, List.map_map] at this
  exact this
/-- What Open answers of a region that may be torn. -/
def OpnPart (w0 : World) (R : HP) (d r : Nat) (m : Dk) (gen bank sure : Nat) (l : List Rec) (e : Ending) (w' : World) : Prop :=
  ∃ (P : Nat) (a : Option Addr) (c : Nat) (es : List EntV) (j : Nat) (m' : Dk), e = .returned (.tuple #[.pointer (some ⟨P, 0, none⟩), .slice a es.length c, .int .i64 0]) ∧ j ≤ l.length ∧ es.length = j ∧ es.map EntV.er = places gen 0 (l.take j) ∧
    LSt m' r ⟨gen, bank, encR (l.take j), (encR (l.take j)).length⟩ (l.take j) j ∧ Same m m' r ∧ m'.armd r = false ∧ m'.writes ≤ m.writes + 600 ∧ (∀ i, i ≤ l.length → (encR (l.take i)).length ≤ sure → i ≤ j) ∧
    At w0 (lan P d r ⟨gen, bank, encR (l.take j), (encR (l.take j)).length⟩ * (row 52 9 (.slice a es.length c) es.length (es.flatMap EntV.cs) * (dirts es * (dsk d m' * R)))) w'
theorem laneOpen_part (w0 w : World) (R : HP) (d r : Nat) (m : Dk) {gen bank sure : Nat} {l : List Rec} (hm : m.Wf) (hr : r < m.regs.length) (hsz : 514 ≤ m.size) (hw : m.wts r = []) (hu : m.armd r = false) (g0 : 0 < gen) (g1 : gen < 4294967296) (hb : bank ≤ 1) (hl : (encR l).length ≤ 14336) (hs : sure ≤ (encR l).length) (hg : ∀ x ∈ l, Good x) (hp : PartF (m.dat r) gen bank (encR l) sure) (hwn : m.writes ≤ 800000000) (h : At w0 (dsk d m * R) w) :
    Calls Try.prog 23 #[.pointer (some ⟨d, 0, none⟩), .int .i64 r] w (OpnPart w0 R d r m gen bank sure l) := by
  obtain ⟨j, m', h1, h2, h3, h4, h5, h6, h7⟩ := opens_part hm hr hsz hw hu g0 g1 hb hl hs hg hp
  have := laneOpen_any w0 w R d r m hr hsz hwn h
  rw [h2] at this
  refine this.mono ?_
  rintro e w' ⟨P, es, a, c, rfl, hes, hA⟩
  have hel : es.length = (places gen 0 (l.take j)).length := by rw [← hes, List.length_map]
  have hj : (places gen 0 (l.take j)).length = j := by rw [places_len, List.length_take]; omega
  rw [← hel] at hA ⊢
  exact ⟨P, a, c, es, j, m', rfl, h1, by rw [hel, hj], hes, h3, h4, h5, h6, h7, hA⟩
/-- The same of a region at rest. -/
def OpnRest (w0 : World) (R : HP) (d r : Nat) (m : Dk) (gen bank : Nat) (l : List Rec) (e : Ending) (w' : World) : Prop :=
  ∃ (P : Nat) (a : Option Addr) (c : Nat) (es : List EntV) (m' : Dk), e = .returned (.tuple #[.pointer (some ⟨P, 0, none⟩), .slice a es.length c, .int .i64 0]) ∧ es.length = l.length ∧ es.map EntV.er = places gen 0 l ∧
    LSt m' r ⟨gen, bank, encR l, (encR l).length⟩ l l.length ∧ Same m m' r ∧ m'.armd r = false ∧ m'.writes ≤ m.writes + 600 ∧
    At w0 (lan P d r ⟨gen, bank, encR l, (encR l).length⟩ * (row 52 9 (.slice a es.length c) es.length (es.flatMap EntV.cs) * (dirts es * (dsk d m' * R)))) w'
theorem laneOpen_rest (w0 w : World) (R : HP) (d r : Nat) (m : Dk) {gen bank : Nat} {l : List Rec} (hm : m.Wf) (hr : r < m.regs.length) (hsz : 514 ≤ m.size) (hw : m.wts r = []) (hu : m.armd r = false) (g0 : 0 < gen) (g1 : gen < 4294967296) (hb : bank ≤ 1) (hl : (encR l).length ≤ 14336) (hg : ∀ x ∈ l, Good x) (hp : RestF (m.dat r) gen bank (encR l)) (hwn : m.writes ≤ 800000000) (h : At w0 (dsk d m * R) w) :
    Calls Try.prog 23 #[.pointer (some ⟨d, 0, none⟩), .int .i64 r] w (OpnRest w0 R d r m gen bank l) := by
  refine (laneOpen_part w0 w R d r m hm hr hsz hw hu g0 g1 hb hl (Nat.le_refl _) hg hp hwn h).mono ?_
  rintro e w' ⟨P, a, c, es, j, m', rfl, h1, h2, h3, h4, h5, h6, h7, h8, h9⟩
  have hj : j = l.length := Nat.le_antisymm h1 (h8 l.length (Nat.le_refl _) (by rw [List.take_length]; exact Nat.le_refl _))
  subst hj
  rw [List.take_length] at h3 h4 h9
  exact ⟨P, a, c, es, m', rfl, h2, h3, h4, h5, h6, h7, h9⟩
/-- Of a lane's region, opened as it is. -/
theorem LSt.rest' {m : Dk} {r : Nat} {L : Ln} {all : List Rec} {k : Nat} (h : LSt m r L all k) : RestF (m.dat r) L.gen L.bank (encR (all.take k)) := h.rest.partF
theorem LSt.torn {m : Dk} {r : Nat} {L : Ln} {all : List Rec} {k : Nat} (h : LSt m r L all k) : Torn m r (fun f => RestF f L.gen L.bank (encR (all.take k))) := LPart.torn h.rest
/-- A crash with nothing waiting: the region is at rest as before. -/
theorem LSt.crashed {m : Dk} {r : Nat} {L : Ln} {all : List Rec} {k : Nat} (h : LSt m r L all k) (mask : Nat) : LSt (m.crash mask) r L all k ∧ (m.crash mask).armd r = false := by
  obtain ⟨h1, h2, h3⟩ := h.torn.crash mask
  obtain ⟨c1, c2, c3, c4, _⟩ := Dk.crash_at (mask := mask) h.rest.wf
  refine ⟨⟨h.b, h.kle, h.sure, h.good, h.len, ⟨c1, by rw [c2]; exact h.rest.hr, by rw [c3]; exact h.rest.size, h2, h.rest.gen0, h.rest.gen1, h.rest.bankle, h.rest.len, Nat.le_refl _, h1.head, h1.secs⟩⟩, h3⟩
theorem laneOpen_st (w0 w : World) (R : HP) (d r : Nat) (m : Dk) {L : Ln} {all : List Rec} {k : Nat} (hs : LSt m r L all k) (hu : m.armd r = false) (hwn : m.writes ≤ 800000000) (h : At w0 (dsk d m * R) w) :
    Calls Try.prog 23 #[.pointer (some ⟨d, 0, none⟩), .int .i64 r] w (OpnRest w0 R d r m L.gen L.bank (all.take k)) :=
  laneOpen_rest w0 w R d r m hs.rest.wf hs.rest.hr hs.rest.size hs.rest.wts hu hs.rest.gen0 hs.rest.gen1 hs.rest.bankle hs.rest.len (fun x hx => hs.good x (List.mem_of_mem_take hx)) hs.rest' hwn h
end
theorem Dk.new_at (n size r : Nat) (hr : r < n) : (Dk.new n size).wts r = [] ∧ (Dk.new n size).armd r = false := by
  unfold Dk.wts Dk.armd Dk.new
  simp only [List.getElem?_replicate, if_pos hr]
  exact ⟨rfl, rfl⟩
end Go.Proofs.Ytgkibjjcdcpkfaa
