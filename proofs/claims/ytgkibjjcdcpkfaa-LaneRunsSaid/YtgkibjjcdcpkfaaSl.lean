/-
  A small logic of separate blocks over the model's memory: what is proved here are its laws; it needs no condition. No program of Go's is spoken of.
-/
import Derived.WalkKit
import Derived.WalkSpells
import Derived.WalkLawsBesides
import Derived.Deep.QuietTactic
namespace Go.Proofs.Ytgkibjjcdcpkfaa
open Go Go.RowKit

/-- A fact kept from the walk. -/
theorem hide {p : Prop} (h : p) : Hid p := h

theorem quiet_left {P : Program} {f : FuncId} {args : Array Value} {w : World} {n : Nat} {v : Value}
    (h : Calls P f args (w.drewN n) fun e w' => e = .returned v ∧ w.drewN n = w') : Calls P f args (w.drewN n) fun e w' => e = .returned v ∧ ∃ m, w' = w.drewN m :=
  h.mono fun _ _ ⟨he, hm⟩ => ⟨he, n, hm.symm⟩

/-- A part of the heap. -/
def Hl : Type := Nat → Option Obj
/-- What may be said of a part of the heap. -/
def HP : Type := Hl → Prop

def HP.disj (a b : Hl) : Prop := ∀ k, a k = none ∨ b k = none
def HP.join (a b : Hl) : Hl := fun k => (a k).or (b k)
/-- Two parts that share no block. -/
def HP.sep (A B : HP) : HP := fun h => ∃ a b, HP.disj a b ∧ h = HP.join a b ∧ A a ∧ B b
instance instMulHP : Mul HP := ⟨HP.sep⟩
def HP.emp : HP := fun h => h = fun _ => none
instance instOneHP : One HP := ⟨HP.emp⟩

theorem HP.disj_comm {a b : Hl} (h : HP.disj a b) : HP.disj b a := fun k => (h k).symm
theorem HP.join_comm {a b : Hl} (h : HP.disj a b) : HP.join a b = HP.join b a := by
  funext k
  unfold HP.join
  rcases h k with e | e <;> rw [e] <;> simp
theorem HP.join_assoc (a b c : Hl) : HP.join (HP.join a b) c = HP.join a (HP.join b c) := by
  funext k
  unfold HP.join
  cases a k <;> simp
theorem HP.join_none {a b : Hl} {k : Nat} : HP.join a b k = none ↔ a k = none ∧ b k = none := by
  unfold HP.join
  cases a k <;> simp

theorem HP.mul_comm (A B : HP) : A * B = B * A := by
  funext h
  refine propext ⟨?_, ?_⟩
  · rintro ⟨a, b, hd, rfl, ha, hb⟩
    exact ⟨b, a, HP.disj_comm hd, HP.join_comm hd, hb, ha⟩
  · rintro ⟨a, b, hd, rfl, ha, hb⟩
    exact ⟨b, a, HP.disj_comm hd, HP.join_comm hd, hb, ha⟩

theorem HP.mul_assoc (A B C : HP) : A * B * C = A * (B * C) := by
  funext h
  refine propext ⟨?_, ?_⟩
  · rintro ⟨ab, c, hd, rfl, ⟨a, b, hd', rfl, ha, hb⟩, hc⟩
    refine ⟨a, HP.join b c, ?_, HP.join_assoc a b c, ha, b, c, ?_, rfl, hb, hc⟩
    · intro k
      rcases hd k with e | e
      · exact .inl (HP.join_none.1 e).1
      · rcases hd' k with e' | e'
        · exact .inl e'
        · exact .inr (HP.join_none.2 ⟨e', e⟩)
    · intro k
      rcases hd k with e | e
      · exact .inl (HP.join_none.1 e).2
      · exact .inr e
  · rintro ⟨a, bc, hd, rfl, ha, b, c, hd', rfl, hb, hc⟩
    refine ⟨HP.join a b, c, ?_, (HP.join_assoc a b c).symm, ⟨a, b, ?_, rfl, ha, hb⟩, hc⟩
    · intro k
      rcases hd k with e | e
      · rcases hd' k with e' | e'
        · exact .inl (HP.join_none.2 ⟨e, e'⟩)
        · exact .inr e'
      · exact .inr (HP.join_none.1 e).2
    · intro k
      rcases hd k with e | e
      · exact .inl e
      · exact .inr (HP.join_none.1 e).1

theorem HP.mul_left_comm (A B C : HP) : A * (B * C) = B * (A * C) := by
  rw [← HP.mul_assoc, HP.mul_comm A B, HP.mul_assoc]

theorem HP.one_mul (A : HP) : 1 * A = A := by
  funext h
  refine propext ⟨?_, fun ha => ⟨fun _ => none, h, fun _ => .inl rfl, ?_, rfl, ha⟩⟩
  · rintro ⟨a, b, hd, rfl, ha, hb⟩
    obtain rfl : a = fun _ => none := ha
    exact (show HP.join (fun _ => none) b = b by funext k; simp [HP.join]) ▸ hb
  · funext k; simp [HP.join]
theorem HP.mul_one (A : HP) : A * 1 = A := by rw [HP.mul_comm, HP.one_mul]

instance instAssocHP : Std.Associative (α := HP) (· * ·) := ⟨HP.mul_assoc⟩
instance instCommHP : Std.Commutative (α := HP) (· * ·) := ⟨HP.mul_comm⟩
instance instIdHP : Std.LawfulIdentity (α := HP) (· * ·) 1 := { left_id := HP.one_mul, right_id := HP.mul_one }

/-- One block. -/
def pt (b : Nat) (o : Obj) : HP := fun h => h = fun k => if k = b then some o else none
/-- A block of cells. -/
def cel (b : Nat) (c : Array Value) (t : TypeId) : HP := pt b (.cells c t)
/-- There is such a thing, and of it holds .. -/
def hex {α : Type} (A : α → HP) : HP := fun h => ∃ x, A x h
/-- A fact, of no block. -/
def fact (p : Prop) : HP := fun h => p ∧ h = fun _ => none

/-- What holds of a world, whose streams are those of w0; blocks that A doesn't speak of may be there. -/
structure At (w0 : World) (A : HP) (w : World) : Prop where
  os : w.os = w0.os
  tape : w.tape = w0.tape
  output : w.output = w0.output
  heap : ∃ h : Hl, A h ∧ ∀ k o, h k = some o → w.heap[k]? = some o

section
variable {w0 w : World} {A B C R : HP}

theorem At.cast (h : At w0 A w) (e : A = B) : At w0 B w := e ▸ h
theorem At.imp (h : At w0 A w) (e : ∀ x, A x → B x) : At w0 B w :=
  ⟨h.os, h.tape, h.output, let ⟨x, hx, hs⟩ := h.heap; ⟨x, e x hx, hs⟩⟩
/-- A fact, out of what holds. -/
theorem HP.mono_l (h : ∀ x, A x → B x) : ∀ x, (A * R) x → (B * R) x := by
  rintro x ⟨a, b, hd, rfl, ha, hb⟩
  exact ⟨a, b, hd, rfl, h _ ha, hb⟩
theorem HP.mono_r (h : ∀ x, A x → B x) : ∀ x, (R * A) x → (R * B) x := by
  rintro x ⟨a, b, hd, rfl, ha, hb⟩
  exact ⟨a, b, hd, rfl, ha, h _ hb⟩
theorem At.l (h : At w0 (A * B) w) : At w0 A w := by
  refine ⟨h.os, h.tape, h.output, ?_⟩
  obtain ⟨x, ⟨a, b, hd, rfl, ha, hb⟩, hs⟩ := h.heap
  exact ⟨a, ha, fun k o e => hs k o (by simp [HP.join, e])⟩
theorem At.r (h : At w0 (A * B) w) : At w0 B w := (h.cast (HP.mul_comm A B)).l
theorem At.swap (h : At w0 (A * B) w) : At w0 (B * A) w := h.cast (HP.mul_comm A B)
theorem At.pull2 (h : At w0 (A * (B * R)) w) : At w0 (B * (A * R)) w := h.cast (HP.mul_left_comm A B R)
theorem At.pull3 {D : HP} (h : At w0 (A * (B * (D * R))) w) : At w0 (D * (A * (B * R))) w := h.cast (by ac_rfl)
theorem At.pull4 {D E : HP} (h : At w0 (A * (B * (D * (E * R)))) w) : At w0 (E * (A * (B * (D * R)))) w := h.cast (by ac_rfl)
theorem At.pull5 {D E F : HP} (h : At w0 (A * (B * (D * (E * (F * R))))) w) : At w0 (F * (A * (B * (D * (E * R))))) w := h.cast (by ac_rfl)
theorem At.pull6 {D E F G : HP} (h : At w0 (A * (B * (D * (E * (F * (G * R)))))) w) : At w0 (G * (A * (B * (D * (E * (F * R)))))) w := h.cast (by ac_rfl)
theorem At.pull7 {D E F G I : HP} (h : At w0 (A * (B * (D * (E * (F * (G * (I * R))))))) w) : At w0 (I * (A * (B * (D * (E * (F * (G * R))))))) w := h.cast (by ac_rfl)
theorem At.pull8 {D E F G I J : HP} (h : At w0 (A * (B * (D * (E * (F * (G * (I * (J * R)))))))) w) : At w0 (J * (A * (B * (D * (E * (F * (G * (I * R)))))))) w := h.cast (by ac_rfl)
theorem At.assoc (h : At w0 (A * B * C) w) : At w0 (A * (B * C)) w := h.cast (HP.mul_assoc A B C)
theorem At.assoc' (h : At w0 (A * (B * C)) w) : At w0 (A * B * C) w := h.cast (HP.mul_assoc A B C).symm

theorem At.ex {α : Type} {F : α → HP} (h : At w0 (hex F) w) : ∃ x, At w0 (F x) w := by
  obtain ⟨y, ⟨x, hx⟩, hs⟩ := h.heap
  exact ⟨x, h.os, h.tape, h.output, y, hx, hs⟩
theorem hex_mul {α : Type} (F : α → HP) (R : HP) : hex F * R = hex fun x => F x * R := by
  funext h
  refine propext ⟨?_, ?_⟩
  · rintro ⟨a, b, hd, rfl, ⟨x, ha⟩, hb⟩
    exact ⟨x, a, b, hd, rfl, ha, hb⟩
  · rintro ⟨x, a, b, hd, rfl, ha, hb⟩
    exact ⟨a, b, hd, rfl, ⟨x, ha⟩, hb⟩
theorem At.exl {α : Type} {F : α → HP} (h : At w0 (hex F * R) w) : ∃ x, At w0 (F x * R) w := (h.cast (hex_mul F R)).ex
theorem At.mkex {α : Type} {F : α → HP} (x : α) (h : At w0 (F x * R) w) : At w0 (hex F * R) w :=
  h.imp (HP.mono_l fun _ hx => ⟨x, hx⟩)
theorem At.mkex0 {α : Type} {F : α → HP} (x : α) (h : At w0 (F x) w) : At w0 (hex F) w :=
  h.imp fun _ hx => ⟨x, hx⟩
theorem fact_mul {p : Prop} (hp : p) (A : HP) : fact p * A = A := by
  have : fact p = 1 := by
    funext h
    exact propext ⟨fun x => x.2, fun x => ⟨hp, x⟩⟩
  rw [this, HP.one_mul]
theorem At.factl {p : Prop} (h : At w0 (fact p * R) w) : p ∧ At w0 R w := by
  have hp : p := by
    obtain ⟨x, ⟨a, b, hd, rfl, ha, hb⟩, hs⟩ := h.heap
    exact ha.1
  exact ⟨hp, h.r⟩
theorem At.mkfact {p : Prop} (hp : p) (h : At w0 R w) : At w0 (fact p * R) w := h.cast (fact_mul hp R).symm
theorem At.one (h : At w0 A w) : At w0 (A * 1) w := h.cast (HP.mul_one A).symm

/-! ### Blocks -/
theorem At.blk {b : Nat} {o : Obj} (h : At w0 (pt b o * R) w) : w.heap[b]? = some o := by
  obtain ⟨x, hx, hs⟩ := h.l.heap
  exact hs b o (by rw [show x = _ from hx]; simp)
theorem At.blk0 {b : Nat} {o : Obj} (h : At w0 (pt b o) w) : w.heap[b]? = some o := At.blk h.one
theorem At.lt {b : Nat} {o : Obj} (h : At w0 (pt b o * R) w) : b < w.heap.size := (Array.getElem?_eq_some_iff.1 h.blk).1
theorem At.cell {b : Nat} {c : Array Value} {t : TypeId} (h : At w0 (cel b c t * R) w) {i : Nat} {v : Value} (hv : c[i]? = some v) : w.cell? ⟨b, i, none⟩ = some v := by
  have hb := At.blk (o := .cells c t) h
  simp [World.cell?, hb, hv]
theorem At.cells {b : Nat} {c : Array Value} {t : TypeId} (h : At w0 (cel b c t * R) w) (i : Nat) : w.cell? ⟨b, i, none⟩ = c[i]? := by
  have hb := At.blk (o := .cells c t) h
  simp [World.cell?, hb]
theorem At.frz {b : Nat} {c : Array Value} {t : TypeId} (h : At w0 (cel b c t * R) w) (i : Nat) : w.frozen? ⟨b, i, none⟩ = false := by
  have hb := At.blk (o := .cells c t) h
  simp [World.frozen?, hb]

theorem At.drew (h : At w0 A w) : At w0 A w.drew := ⟨h.os, h.tape, h.output, h.heap⟩
theorem At.drewN (h : At w0 A w) (n : Nat) : At w0 A (w.drewN n) := ⟨h.os, h.tape, h.output, h.heap⟩
theorem At.of_drew (h : At w0 A w.drew) : At w0 A w := ⟨h.os, h.tape, h.output, h.heap⟩

/-- A new block. -/
theorem At.alloc (h : At w0 A w) (o : Obj) : At w0 (pt w.heap.size o * A) (w.alloc o) := by
  refine ⟨h.os, h.tape, h.output, ?_⟩
  obtain ⟨x, hx, hs⟩ := h.heap
  have hn : x w.heap.size = none := by
    cases e : x w.heap.size with
    | none => rfl
    | some o => have := hs _ _ e; simp at this
  refine ⟨_, ⟨_, x, ?_, rfl, rfl, hx⟩, ?_⟩
  · intro k
    by_cases hk : k = w.heap.size
    · right; rw [hk]; exact hn
    · left; simp [hk]
  · intro k o' e
    show (w.heap.push o)[k]? = some o'
    by_cases hk : k = w.heap.size
    · subst hk
      simp [HP.join] at e
      simp [e]
    · simp [HP.join, hk] at e
      have := hs k o' e
      rw [Array.getElem?_push, if_neg hk]; exact this

theorem At.alloc' {n : Nat} (h : At w0 A w) (hn : w.heap.size = n) (o : Obj) : At w0 (pt n o * A) (w.alloc o) := hn ▸ h.alloc o

/-- Any change of one block that is ours. -/
theorem At.upd {w' : World} {b : Nat} {o o' : Obj} (h : At w0 (pt b o * A) w) (hos : w'.os = w.os) (ht : w'.tape = w.tape) (hou : w'.output = w.output)
    (hb : w'.heap[b]? = some o') (hk : ∀ k x, k ≠ b → w.heap[k]? = some x → w'.heap[k]? = some x) : At w0 (pt b o' * A) w' := by
  refine ⟨hos.trans h.os, ht.trans h.tape, hou.trans h.output, ?_⟩
  obtain ⟨x, ⟨a, y, hd, rfl, ha, hy⟩, hs⟩ := h.heap
  obtain rfl : a = _ := ha
  have hyb : y b = none := by
    rcases hd b with e | e
    · simp at e
    · exact e
  refine ⟨_, ⟨_, y, ?_, rfl, rfl, hy⟩, ?_⟩
  · intro k
    by_cases hkb : k = b
    · right; rw [hkb]; exact hyb
    · left; simp [hkb]
  · intro k z e
    by_cases hkb : k = b
    · subst hkb
      simp [HP.join] at e
      rw [hb, e]
    · simp [HP.join, hkb] at e
      exact hk k z hkb (hs k z (by simp [HP.join, hkb, e]))

theorem At.set {b : Nat} {c : Array Value} {t : TypeId} (h : At w0 (cel b c t * A) w) (i : Nat) (v : Value) :
    At w0 (cel b (c.setIfInBounds i v) t * A) (w.setCell ⟨b, i, none⟩ v) := by
  have hb := At.blk (o := .cells c t) h
  refine At.upd (o := .cells c t) h rfl rfl rfl ?_ ?_
  · simp [World.setCell, Array.getElem?_modify, hb]
  · intro k x hk hx
    rw [Below.heap_setCell _ _ _ _ hk]; exact hx

theorem At.set' {b : Nat} {c d : Array Value} {t : TypeId} (h : At w0 (cel b c t * A) w) (i : Nat) (v : Value) (hd : c.setIfInBounds i v = d) :
    At w0 (cel b d t * A) (w.setCell ⟨b, i, none⟩ v) := hd ▸ h.set i v
theorem At.setRow {b : Nat} {c : Array Value} {t : TypeId} (h : At w0 (cel b c t * A) w) (d : Array Value) :
    At w0 (cel b d t * A) (w.setRow b d) := by
  have hb := At.blk (o := .cells c t) h
  exact At.upd (o := .cells c t) h rfl rfl rfl (setRow_heap w b c d t _ hb) fun k x hk hx => (setRow_other w b k d hk).trans hx

/-- What was there when the call began, and has not turned. -/
def old (w0 : World) : HP := fun h => ∀ k, h k = w0.heap[k]?

theorem At.start (w : World) : At w (old w) w := ⟨rfl, rfl, rfl, fun k => w.heap[k]?, fun _ => rfl, fun _ _ h => h⟩
theorem At.startR (w : World) : At w (old w * 1) w := (At.start w).one

theorem At.old_blk (h : At w0 (old w0 * R) w) {k : Nat} {o : Obj} (hk : w0.heap[k]? = some o) : w.heap[k]? = some o := by
  obtain ⟨x, hx, hs⟩ := h.l.heap
  exact hs k o ((hx k).trans hk)
theorem At.below (h : At w0 (old w0 * R) w) : Below w0.heap.size w0 w := by
  have hb : ∀ k, k < w0.heap.size → w.heap[k]? = w0.heap[k]? := fun k hk => by
    have e : w0.heap[k]? = some w0.heap[k] := Array.getElem?_eq_getElem hk
    rw [e]; exact h.old_blk e
  refine ⟨h.os, h.tape, h.output, ?_, hb⟩
  by_cases h0 : w0.heap.size = 0
  · omega
  · have := hb (w0.heap.size - 1) (by omega)
    rw [Array.getElem?_eq_getElem (show w0.heap.size - 1 < w0.heap.size by omega)] at this
    have := (Array.getElem?_eq_some_iff.1 this).1
    omega
theorem At.old_cell (h : At w0 (old w0 * R) w) {a : Addr} {v : Value} (hv : w0.cell? a = some v) : w.cell? a = some v :=
  (h.below.cell (World.block_lt_of_cell? w0 a hv)).trans hv

/-- Two parts share no block. -/
theorem At.ne {b b' : Nat} {o o' : Obj} (h : At w0 (pt b o * (pt b' o' * R)) w) : b ≠ b' := by
  obtain ⟨x, ⟨a, y, hd, rfl, ha, ⟨c, z, hd', rfl, hc, hz⟩⟩, hs⟩ := h.heap
  obtain rfl : a = _ := ha
  obtain rfl : c = _ := hc
  rintro rfl
  rcases hd b with e | e
  · simp at e
  · have := (HP.join_none.1 e).1
    simp at this

end

/-- A call, in terms of what holds: whatever else there is stays. -/
def Tri (P : Program) (f : FuncId) (args : Array Value) (A : HP) (Q : Value → HP) : Prop :=
  ∀ (w0 : World) (R : HP) (w : World), At w0 (A * R) w → Calls P f args w fun e w' => ∃ v, e = .returned v ∧ At w0 (Q v * R) w'

/-! ### A row of memory that one slice has for itself: its elements, and the room behind them -/
/-- v is a slice of n elements (size cells each, of type e) that hold xs, and nobody else has its block. -/
def row (e : TypeId) (size : Nat) (v : Value) (n : Nat) (xs : List Value) : HP := fun h =>
  xs.length = n * size ∧
  ((v = .slice none 0 0 ∧ n = 0 ∧ h = fun _ => none) ∨
   ∃ g cap cur, v = .slice (some ⟨g, 0, none⟩) n cap ∧ cel g cur e h ∧ n ≤ cap ∧ cap ≤ maxLen ∧ cap * size ≤ cur.size ∧ cur.toList.take (n * size) = xs)

section
variable {w0 w : World} {R : HP} {e : TypeId} {size : Nat} {v : Value} {n : Nat} {xs : List Value}

theorem row_nil (e : TypeId) (size : Nat) : row e size (.slice none 0 0) 0 [] = 1 := by
  funext h
  refine propext ⟨?_, fun hh => ⟨by simp, .inl ⟨rfl, rfl, hh⟩⟩⟩
  rintro ⟨_, ⟨_, _, hh⟩ | ⟨g, cap, cur, hv, _⟩⟩
  · exact hh
  · cases hv
theorem At.row_nil (h : At w0 R w) (e : TypeId) (size : Nat) : At w0 (row e size (.slice none 0 0) 0 [] * R) w :=
  h.cast (by rw [Go.Proofs.Ytgkibjjcdcpkfaa.row_nil, HP.one_mul])

/-- A row is nil, or a block. -/
theorem At.row_cases (h : At w0 (row e size v n xs * R) w) : xs.length = n * size ∧
    ((v = .slice none 0 0 ∧ n = 0 ∧ xs = [] ∧ At w0 R w) ∨
     ∃ g cap cur, v = .slice (some ⟨g, 0, none⟩) n cap ∧ n ≤ cap ∧ cap ≤ maxLen ∧ cap * size ≤ cur.size ∧ cur.toList.take (n * size) = xs ∧ At w0 (cel g cur e * R) w) := by
  obtain ⟨x, ⟨a, b, hd, rfl, ⟨hl, hc⟩, hb⟩, hs⟩ := h.heap
  refine ⟨hl, ?_⟩
  rcases hc with ⟨rfl, rfl, rfl⟩ | ⟨g, cap, cur, rfl, hg, h1, h2, h3, h4⟩
  · exact .inl ⟨rfl, rfl, List.eq_nil_of_length_eq_zero (by simpa using hl), h.r⟩
  · exact .inr ⟨g, cap, cur, rfl, h1, h2, h3, h4, h.os, h.tape, h.output, _, ⟨a, b, hd, rfl, hg, hb⟩, hs⟩
theorem At.mkrow {g cap : Nat} {cur : Array Value} (h : At w0 (cel g cur e * R) w) (h1 : n ≤ cap) (h2 : cap ≤ maxLen) (h3 : cap * size ≤ cur.size) (h4 : cur.toList.take (n * size) = xs) :
    At w0 (row e size (.slice (some ⟨g, 0, none⟩) n cap) n xs * R) w := by
  refine h.imp (HP.mono_l fun x hx => ⟨?_, .inr ⟨g, cap, cur, rfl, hx, h1, h2, h3, h4⟩⟩)
  rw [← h4, List.length_take, Array.length_toList]
  exact Nat.min_eq_left (Nat.le_trans (Nat.mul_le_mul_right _ h1) h3)

/-- Its length is what the value says. -/
theorem At.row_len (h : At w0 (row e size v n xs * R) w) : ∃ a cap, v = .slice a n cap := by
  rcases h.row_cases.2 with ⟨rfl, rfl, _⟩ | ⟨g, cap, cur, rfl, _⟩
  · exact ⟨_, _, rfl⟩
  · exact ⟨_, _, rfl⟩
theorem At.row_cell (h : At w0 (row e size v n xs * R) w) {g o cap : Nat} (hv : v = .slice (some ⟨g, o, none⟩) n cap) {j : Nat} {u : Value} (hu : xs[j]? = some u) :
    o = 0 ∧ w.cell? ⟨g, j, none⟩ = some u := by
  rcases h.row_cases.2 with ⟨rfl, _⟩ | ⟨g', cap', cur, rfl, _, _, hsz, htk, hat⟩
  · cases hv
  · simp at hv
    obtain ⟨⟨rfl, rfl⟩, rfl⟩ := hv
    refine ⟨rfl, hat.cell ?_⟩
    rw [← htk, List.getElem?_take] at hu
    split at hu
    · simpa using hu
    · cases hu

theorem one_cells1 {x : Value} (h : x.oneCell' = true) : ∀ u ∈ [x], u.oneCell' = true := by
  intro u hu
  rw [List.mem_singleton.1 hu]; exact h
/-- The cells of a block that was just laid. -/
theorem new_cells {w : World} {cs : List Value} {e : TypeId} {b : Nat} (hb : b = w.heap.size) : ∀ j u, cs[j]? = some u → (w.alloc (.cells cs.toArray e)).cell? ((⟨b, 0, none⟩ : Addr).add j) = some u := by
  intro j u hu
  rw [Addr.add_lit, Nat.zero_add, hb, World.cell?_alloc_new]
  simpa using hu
/-- A row that is cut shorter. -/
theorem At.row_take {ar : Option Addr} {cp m : Nat} (h : At w0 (row e size (.slice ar n cp) n xs * R) w) (hm : m ≤ n) : At w0 (row e size (.slice ar m cp) m (xs.take (m * size)) * R) w := by
  obtain ⟨hl, hc⟩ := h.row_cases
  rcases hc with ⟨hv, rfl, rfl, hR⟩ | ⟨g, cap, cur, hv, h1, h2, h3, h4, hat⟩
  · simp at hv
    obtain ⟨rfl, rfl⟩ := hv
    obtain rfl : m = 0 := by omega
    simpa using hR.row_nil e size
  · simp at hv
    obtain ⟨rfl, rfl⟩ := hv
    refine hat.mkrow (Nat.le_trans hm h1) h2 h3 ?_
    rw [← h4, List.take_take, Nat.min_eq_left (Nat.mul_le_mul_right _ hm)]
/-- Where there is an element there is a block. -/
theorem At.row_ptr (h : At w0 (row e size v n xs * R) w) (hn : 0 < n) : ∃ g cap, v = .slice (some ⟨g, 0, none⟩) n cap ∧ n ≤ cap ∧ ∀ j u, xs[j]? = some u → w.cell? ⟨g, j, none⟩ = some u := by
  rcases h.row_cases.2 with ⟨_, h0, _⟩ | ⟨g, cap, cur, hv, h1, _⟩
  · omega
  · exact ⟨g, cap, hv, h1, fun j u hu => (h.row_cell hv hu).2⟩
theorem At.row_ne {b g o cp : Nat} {c : Array Value} {t : TypeId} (h : At w0 (cel b c t * (row e size (.slice (some ⟨g, o, none⟩) n cp) n xs * R)) w) : b ≠ g := by
  rcases h.pull2.row_cases.2 with ⟨hv, _⟩ | ⟨g', cap, cur, hv, _, _, _, _, hat⟩
  · cases hv
  · simp at hv
    obtain ⟨⟨rfl, _⟩, _⟩ := hv
    exact (At.ne (o := .cells cur e) (o' := .cells c t) hat).symm
theorem zeroCells_size (z : Array Value) (n : Nat) : (Builtin.zeroCells z n).size = n * z.size := by simp [Builtin.zeroCells]

/-- 'append' to a row, of cells that are read somewhere. -/
theorem run_append_row {P : Program} (t ty e : TypeId) (i : TypeInfo) (z : Value) (size bytes : Nat) (ht : P.underlying t = some (.slice e)) (hi : P.info? e = some i) (hz : i.zero = some z)
    (hsize : i.size = size) (hby : i.bytes = bytes) (hzs : z.cells.size = size) (hsz : 0 < size)
    (h : At w0 (row e size v n xs * R) w)
    (a : Addr) (m c : Nat) (news : List Value) (hl : news.length = m * size) (hnews : ∀ j u, news[j]? = some u → w.cell? (a.add j) = some u) (h1 : ∀ u ∈ news, u.oneCell' = true)
    (h63 : n + m ≤ maxLen) (hbytes : (n + m) * bytes ≤ 140737488355328) :
    ∃ v' w', (Builtin.append_ #[t, t] ty #[v, .slice (some a) m c]).run P w = .ok v' w' ∧ At w0 (row e size v' (n + m) (xs ++ news) * R) w' ∧
      (v' = .slice none 0 0 ↔ v = .slice none 0 0 ∧ m = 0) := by
  subst hsize
  subst hby
  have hsmall : n + m ≤ 9223372036854775807 := by simp only [maxLen] at h63; omega
  have hlx := h.row_cases.1
  have hlen : (xs ++ news).length = (n + m) * i.size := by rw [List.length_append, hlx, hl, Nat.add_mul]
  have grown : ∀ (old : Nat), old < n + m → At w0 R w →
      At w0 (row e i.size (.slice (some ⟨w.heap.size, 0, none⟩) (n + m) (grownCap w (n + m) old e)) (n + m) (xs ++ news) * R)
        (w.drew.alloc (.cells (xs.toArray ++ news.toArray ++ Builtin.zeroCells z.cells (grownCap w (n + m) old e - (n + m))) e)) := by
    intro old ho hR
    have hge := grownCap_ge w (n + m) old e
    have hcm : grownCap w (n + m) old e ≤ maxLen := grownCap_le_maxLen w (n + m) old e h63
    refine At.mkrow (hR.drew.alloc _) hge hcm (Nat.le_of_eq ?_) ?_
    · simp only [Array.size_append, List.size_toArray, zeroCells_size, hzs, hlx, hl, ← Nat.add_mul]
      congr 1
      omega
    · simp only [Array.toList_append, List.append_assoc]
      rw [← List.append_assoc, ← hlen]
      exact List.take_left
  rcases h.row_cases.2 with ⟨rfl, rfl, rfl, hR⟩ | ⟨g, cap, cur, rfl, hnc, hcm, hcs, htake, hat⟩
  · by_cases hm : m = 0
    · subst hm
      have hn : news = [] := List.eq_nil_of_length_eq_zero (by simpa using hl)
      subst hn
      refine ⟨.slice none 0 0, w, ?_, hR.row_nil _ _, by simp⟩
      simp [Builtin.append_, run_underlying ht, sizeOf, typeInfo, hi, Builtin.lenOf, Builtin.firstCells, loadCells, loadCellsFrom]
    · have hr := run_append_nil (P := P) w t ty e i z ht hi hz a m c news hl hnews (by omega) (by omega) (by have hb := hbytes; simp only [Nat.zero_add] at hb; omega)
      have hgr := grown 0 (by omega) hR
      simp only [Nat.zero_add, List.nil_append, Array.empty_append] at hgr ⊢
      exact ⟨_, _, hr, hgr, by simp [hm]⟩
  · by_cases hroom : n + m ≤ cap
    · have hfit : n * i.size + news.length ≤ cur.size := by rw [hl, ← Nat.add_mul]; exact Nat.le_trans (Nat.mul_le_mul_right _ hroom) hcs
      have hr := run_append_room (P := P) w t ty e i ht hi g n cap cur (At.blk (o := .cells cur e) hat) a m c news hl hnews h1 hroom hfit
      refine ⟨_, _, hr, At.mkrow (hat.setRow _) hroom hcm ?_ ?_, by simp⟩
      · simp only [List.size_toArray, List.length_append, List.length_take, List.length_drop, Array.length_toList]
        omega
      · rw [htake, ← hlen]
        exact List.take_left
    · have holds : ∀ j u, xs[j]? = some u → w.cell? ((⟨g, 0, none⟩ : Addr).add j) = some u := fun j u hu => by
        rw [Addr.add_lit, Nat.zero_add]; exact (h.row_cell rfl hu).2
      have hr := run_append_grow (P := P) w t ty e i z ht hi hz ⟨g, 0, none⟩ n cap xs hlx holds a m c news hl hnews (by omega) (by omega) (growslice_fits (by omega) hbytes)
      have hgr := grown cap (by omega) hat.r
      exact ⟨_, _, hr, hgr, by simp⟩

/-- 'append' of nothing. -/
theorem run_append_row_none {P : Program} (t ty e : TypeId) (i : TypeInfo) (ht : P.underlying t = some (.slice e)) (hi : P.info? e = some i)
    (h : At w0 (row e size v n xs * R) w) : (Builtin.append_ #[t, t] ty #[v, .slice none 0 0]).run P w = .ok v w := by
  obtain ⟨a, cap, rfl⟩ := h.row_len
  have hcap : n ≤ cap := by
    rcases h.row_cases.2 with ⟨hv, rfl, _⟩ | ⟨g, cap', cur, hv, hle, _⟩
    · simp at hv; omega
    · simp at hv; omega
  rcases h.row_cases.2 with ⟨hv, rfl, rfl, hR⟩ | ⟨g, cap', cur, hv, hle, hcm, hcs, _, hat⟩
  · simp at hv
    obtain ⟨rfl, rfl⟩ := hv
    simp [Builtin.append_, run_underlying ht, sizeOf, typeInfo, hi, Builtin.lenOf, Builtin.firstCells]
  · simp at hv
    obtain ⟨rfl, rfl⟩ := hv
    simp [Builtin.append_, run_underlying ht, sizeOf, typeInfo, hi, Builtin.lenOf, hcap, Builtin.firstCells, loadCells, storeCells]

variable {P : Program} {ops : Array Oper} {o : Oper} {a : Act} {K : Act → World → Prop} {Q : Exit → Act → World → Prop}

theorem wp_append_row (s x : Operand) (t : TypeId)
    (ho : o.op = .call { callee := .builtin .append, args := #[s, x], argTypes := #[t, t] })
    (e : TypeId) (i : TypeInfo) (z : Value) (size bytes : Nat) (ht : P.underlying t = some (.slice e)) (hi : P.info? e = some i) (hz : i.zero = some z)
    (hsize : i.size = size) (hby : i.bytes = bytes) (hzs : z.cells.size = size) (hsz : 0 < size)
    (v : Value) (n : Nat) (xs : List Value) (hs : a.eval s = v) (h : At w0 (row e size v n xs * R) w)
    (ad : Addr) (m c : Nat) (news : List Value) (hx : a.eval x = .slice (some ad) m c) (hl : news.length = m * size) (hnews : ∀ j u, news[j]? = some u → w.cell? (ad.add j) = some u) (h1 : ∀ u ∈ news, u.oneCell' = true)
    (h63 : n + m ≤ maxLen) (hbytes : (n + m) * bytes ≤ 140737488355328)
    (hK : ∀ ar cp w', At w0 (row e size (.slice ar (n + m) cp) (n + m) (xs ++ news) * R) w' → K (a.put o.dst (.slice ar (n + m) cp)) w') : o.wp P a w K Q := by
  obtain ⟨v', w', hr, h2, h3⟩ := run_append_row (P := P) t o.type e i z size bytes ht hi hz hsize hby hzs hsz h ad m c news hl hnews h1 h63 hbytes
  unfold Oper.wp execOp
  simp only [ho, resolve, invoke, builtin, Sem.run_bind, Sem.run_pure, Result.andThen_ok, List.map_toArray, List.map_cons, List.map_nil, hs, hx, hr]
  obtain ⟨ar, cp, rfl⟩ := h2.row_len
  exact hK ar cp w' h2

theorem step_append_row {E : Prop} (hg : o.guard = none) (s x : Operand) (t : TypeId)
    (ho : o.op = .call { callee := .builtin .append, args := #[s, x], argTypes := #[t, t] })
    (e : TypeId) (i : TypeInfo) (z : Value) (size bytes : Nat) (ht : P.underlying t = some (.slice e)) (hi : P.info? e = some i) (hz : i.zero = some z)
    (hsize : i.size = size) (hby : i.bytes = bytes) (hzs : z.cells.size = size) (hsz : 0 < size)
    (v : Value) (n : Nat) (xs : List Value) (hs : a.eval s = v) (h : At w0 (row e size v n xs * R) w)
    (ad : Addr) (m c : Nat) (news : List Value) (hx : a.eval x = .slice (some ad) m c) (hl : news.length = m * size) (hnews : ∀ j u, news[j]? = some u → w.cell? (ad.add j) = some u) (h1 : ∀ u ∈ news, u.oneCell' = true)
    (h63 : n + m ≤ maxLen) (hbytes : (n + m) * bytes ≤ 140737488355328)
    (hK : ∀ ar cp w', At w0 (row e size (.slice ar (n + m) cp) (n + m) (xs ++ news) * R) w' → K (a.put o.dst (.slice ar (n + m) cp)) w') :
    if Region.wanted o (yielded ops a.tmps) = true then Oper.wp P o a w K Q else E := by
  have hw : Region.wanted o (yielded ops a.tmps) = true := by simp [Region.wanted, hg]
  rw [if_pos hw]
  exact wp_append_row s x t ho e i z size bytes ht hi hz hsize hby hzs hsz v n xs hs h ad m c news hx hl hnews h1 h63 hbytes hK

theorem wpList_append_row {rest : List Oper} (hgd : o.guard = none) (s x : Operand) (t : TypeId)
    (ho : o.op = .call { callee := .builtin .append, args := #[s, x], argTypes := #[t, t] })
    (e : TypeId) (i : TypeInfo) (z : Value) (size bytes : Nat) (ht : P.underlying t = some (.slice e)) (hi : P.info? e = some i) (hz : i.zero = some z)
    (hsize : i.size = size) (hby : i.bytes = bytes) (hzs : z.cells.size = size) (hsz : 0 < size)
    (v : Value) (n : Nat) (xs : List Value) (hs : a.eval s = v) (h : At w0 (row e size v n xs * R) w)
    (ad : Addr) (m c : Nat) (news : List Value) (hx : a.eval x = .slice (some ad) m c) (hl : news.length = m * size) (hnews : ∀ j u, news[j]? = some u → w.cell? (ad.add j) = some u) (h1 : ∀ u ∈ news, u.oneCell' = true)
    (h63 : n + m ≤ maxLen) (hbytes : (n + m) * bytes ≤ 140737488355328)
    (hK : ∀ ar cp w', At w0 (row e size (.slice ar (n + m) cp) (n + m) (xs ++ news) * R) w' → wpList P ops Q rest (a.put o.dst (.slice ar (n + m) cp)) w') : wpList P ops Q (o :: rest) a w :=
  wpList_plain hgd fun _ hK' => wp_append_row s x t ho e i z size bytes ht hi hz hsize hby hzs hsz v n xs hs h ad m c news hx hl hnews h1 h63 hbytes fun ar cp w' h2 => hK' _ _ (hK ar cp w' h2)
end

end Go.Proofs.Ytgkibjjcdcpkfaa
