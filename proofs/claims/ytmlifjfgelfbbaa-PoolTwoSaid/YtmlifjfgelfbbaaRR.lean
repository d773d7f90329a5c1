/-
  A small logic of separate blocks over the model's memory: what is proved here are its laws; it needs no condition. No program of Go's is spoken of.
  A region that draws its order and begins with operations that leave the world alone (calls among them); the rest is walked in one order. No program of Go's is spoken of.
  A region that draws its order and begins with operations that find the same whatever has come up (calls that make memory among them); the rest is walked in one order. No program of Go's is spoken of.
  A region that draws its order: a head of operations that leave the world alone (calls among them), a tail that is walked in one order; what only reads in the tail may come up ahead of the head's end. No program of Go's is spoken of.
  As Rm, but the head need not begin with the first operation. No program of Go's is spoken of.
  A region that draws its order: operations that find the same in whatever world of S's beside a chain of others (calls that make memory among them) that stay in S; what waits for both is walked in one order. No program of Go's is spoken of.
  As Rh, but one operation that makes memory for itself may come up anywhere among the first. No program of Go's is spoken of.
-/
import Derived.WalkKit
import Derived.WalkSpells
import Derived.WalkLawsBesides
import Derived.Deep.QuietTactic
import Derived.StillTail
import Derived.StillTactics
import Derived.Test.YtmlifjfgelfbbaaRg
/-! ## Sl -/
namespace Go.Proofs.Ytmlifjfgelfbbaa
open Go Go.RowKit

/-- A fact kept from the walk. -/
theorem hide {p : Prop} (h : p) : Hid p := h

theorem quiet_left {P : Program} {f : FuncId} {args : Array Value} {w : World} {n : Nat} {v : Value}
    (h : Calls P f args (w.drewN n) fun e w' => e = .returned v ∧ w.drewN n = w') : Calls P f args (w.drewN n) fun e w' => e = .returned v ∧ ∃ m, w' = w.drewN m :=
  h.mono fun _ _ ⟨he, hm⟩ => ⟨he, n, hm.symm⟩

/-- A part of the heap. -/
def Hl : Type := Nat → Option Obj
/-- What may be said of a part of the heap. -/
def HP : Type := Hl → Prop

def HP.disj (a b : Hl) : Prop := ∀ k, a k = none ∨ b k = none
def HP.join (a b : Hl) : Hl := fun k => (a k).or (b k)
/-- Two parts that share no block. -/
def HP.sep (A B : HP) : HP := fun h => ∃ a b, HP.disj a b ∧ h = HP.join a b ∧ A a ∧ B b
instance instMulHP : Mul HP := ⟨HP.sep⟩
def HP.emp : HP := fun h => h = fun _ => none
instance instOneHP : One HP := ⟨HP.emp⟩

theorem HP.disj_comm {a b : Hl} (h : HP.disj a b) : HP.disj b a := fun k => (h k).symm
theorem HP.join_comm {a b : Hl} (h : HP.disj a b) : HP.join a b = HP.join b a := by
  funext k
  unfold HP.join
  rcases h k with e | e <;> rw [e] <;> simp
theorem HP.join_assoc (a b c : Hl) : HP.join (HP.join a b) c = HP.join a (HP.join b c) := by
  funext k
  unfold HP.join
  cases a k <;> simp
theorem HP.join_none {a b : Hl} {k : Nat} : HP.join a b k = none ↔ a k = none ∧ b k = none := by
  unfold HP.join
  cases a k <;> simp

theorem HP.mul_comm (A B : HP) : A * B = B * A := by
  funext h
  refine propext ⟨?_, ?_⟩
  · rintro ⟨a, b, hd, rfl, ha, hb⟩
    exact ⟨b, a, HP.disj_comm hd, HP.join_comm hd, hb, ha⟩
  · rintro ⟨a, b, hd, rfl, ha, hb⟩
    exact ⟨b, a, HP.disj_comm hd, HP.join_comm hd, hb, ha⟩

theorem HP.mul_assoc (A B C : HP) : A * B * C = A * (B * C) := by
  funext h
  refine propext ⟨?_, ?_⟩
  · rintro ⟨ab, c, hd, rfl, ⟨a, b, hd', rfl, ha, hb⟩, hc⟩
    refine ⟨a, HP.join b c, ?_, HP.join_assoc a b c, ha, b, c, ?_, rfl, hb, hc⟩
    · intro k
      rcases hd k with e | e
      · exact .inl (HP.join_none.1 e).1
      · rcases hd' k with e' | e'
        · exact .inl e'
        · exact .inr (HP.join_none.2 ⟨e', e⟩)
    · intro k
      rcases hd k with e | e
      · exact .inl (HP.join_none.1 e).2
      · exact .inr e
  · rintro ⟨a, bc, hd, rfl, ha, b, c, hd', rfl, hb, hc⟩
    refine ⟨HP.join a b, c, ?_, (HP.join_assoc a b c).symm, ⟨a, b, ?_, rfl, ha, hb⟩, hc⟩
    · intro k
      rcases hd k with e | e
      · rcases hd' k with e' | e'
        · exact .inl (HP.join_none.2 ⟨e, e'⟩)
        · exact .inr e'
      · exact .inr (HP.join_none.1 e).2
    · intro k
      rcases hd k with e | e
      · exact .inl e
      · exact .inr (HP.join_none.1 e).1

theorem HP.mul_left_comm (A B C : HP) : A * (B * C) = B * (A * C) := by
  rw [← HP.mul_assoc, HP.mul_comm A B, HP.mul_assoc]

theorem HP.one_mul (A : HP) : 1 * A = A := by
  funext h
  refine propext ⟨?_, fun ha => ⟨fun _ => none, h, fun _ => .inl rfl, ?_, rfl, ha⟩⟩
  · rintro ⟨a, b, hd, rfl, ha, hb⟩
    obtain rfl : a = fun _ => none := ha
    exact (show HP.join (fun _ => none) b = b by funext k; simp [HP.join]) ▸ hb
  · funext k; simp [HP.join]
theorem HP.mul_one (A : HP) : A * 1 = A := by rw [HP.mul_comm, HP.one_mul]

instance instAssocHP : Std.Associative (α := HP) (· * ·) := ⟨HP.mul_assoc⟩
instance instCommHP : Std.Commutative (α := HP) (· * ·) := ⟨HP.mul_comm⟩
instance instIdHP : Std.LawfulIdentity (α := HP) (· * ·) 1 := { left_id := HP.one_mul, right_id := HP.mul_one }

/-- One block. -/
def pt (b : Nat) (o : Obj) : HP := fun h => h = fun k => if k = b then some o else none
/-- A block of cells. -/
def cel (b : Nat) (c : Array Value) (t : TypeId) : HP := pt b (.cells c t)
/-- There is such a thing, and of it holds .. -/
def hex {α : Type} (A : α → HP) : HP := fun h => ∃ x, A x h
/-- A fact, of no block. -/
def fact (p : Prop) : HP := fun h => p ∧ h = fun _ => none

/-- What holds of a world, whose streams are those of w0; blocks that A doesn't speak of may be there. -/
structure At (w0 : World) (A : HP) (w : World) : Prop where
  os : w.os = w0.os
  tape : w.tape = w0.tape
  output : w.output = w0.output
  heap : ∃ h : Hl, A h ∧ ∀ k o, h k = some o → w.heap[k]? = some o

section
variable {w0 w : World} {A B C R : HP}

theorem At.cast (h : At w0 A w) (e : A = B) : At w0 B w := e ▸ h
theorem At.imp (h : At w0 A w) (e : ∀ x, A x → B x) : At w0 B w :=
  ⟨h.os, h.tape, h.output, let ⟨x, hx, hs⟩ := h.heap; ⟨x, e x hx, hs⟩⟩
/-- A fact, out of what holds. -/
theorem HP.mono_l (h : ∀ x, A x → B x) : ∀ x, (A * R) x → (B * R) x := by
  rintro x ⟨a, b, hd, rfl, ha, hb⟩
  exact ⟨a, b, hd, rfl, h _ ha, hb⟩
theorem HP.mono_r (h : ∀ x, A x → B x) : ∀ x, (R * A) x → (R * B) x := by
  rintro x ⟨a, b, hd, rfl, ha, hb⟩
  exact ⟨a, b, hd, rfl, ha, h _ hb⟩
theorem At.l (h : At w0 (A * B) w) : At w0 A w := by
  refine ⟨h.os, h.tape, h.output, ?_⟩
  obtain ⟨x, ⟨a, b, hd, rfl, ha, hb⟩, hs⟩ := h.heap
  exact ⟨a, ha, fun k o e => hs k o (by simp [HP.join, e])⟩
theorem At.r (h : At w0 (A * B) w) : At w0 B w := (h.cast (HP.mul_comm A B)).l
theorem At.swap (h : At w0 (A * B) w) : At w0 (B * A) w := h.cast (HP.mul_comm A B)
theorem At.pull2 (h : At w0 (A * (B * R)) w) : At w0 (B * (A * R)) w := h.cast (HP.mul_left_comm A B R)
theorem At.pull3 {D : HP} (h : At w0 (A * (B * (D * R))) w) : At w0 (D * (A * (B * R))) w := h.cast (by ac_rfl)
theorem At.pull4 {D E : HP} (h : At w0 (A * (B * (D * (E * R)))) w) : At w0 (E * (A * (B * (D * R)))) w := h.cast (by ac_rfl)
theorem At.pull5 {D E F : HP} (h : At w0 (A * (B * (D * (E * (F * R))))) w) : At w0 (F * (A * (B * (D * (E * R))))) w := h.cast (by ac_rfl)
theorem At.pull6 {D E F G : HP} (h : At w0 (A * (B * (D * (E * (F * (G * R)))))) w) : At w0 (G * (A * (B * (D * (E * (F * R)))))) w := h.cast (by ac_rfl)
theorem At.pull7 {D E F G I : HP} (h : At w0 (A * (B * (D * (E * (F * (G * (I * R))))))) w) : At w0 (I * (A * (B * (D * (E * (F * (G * R))))))) w := h.cast (by ac_rfl)
theorem At.pull8 {D E F G I J : HP} (h : At w0 (A * (B * (D * (E * (F * (G * (I * (J * R)))))))) w) : At w0 (J * (A * (B * (D * (E * (F * (G * (I * R)))))))) w := h.cast (by ac_rfl)
theorem At.assoc (h : At w0 (A * B * C) w) : At w0 (A * (B * C)) w := h.cast (HP.mul_assoc A B C)
theorem At.assoc' (h : At w0 (A * (B * C)) w) : At w0 (A * B * C) w := h.cast (HP.mul_assoc A B C).symm

theorem At.ex {α : Type} {F : α → HP} (h : At w0 (hex F) w) : ∃ x, At w0 (F x) w := by
  obtain ⟨y, ⟨x, hx⟩, hs⟩ := h.heap
  exact ⟨x, h.os, h.tape, h.output, y, hx, hs⟩
theorem hex_mul {α : Type} (F : α → HP) (R : HP) : hex F * R = hex fun x => F x * R := by
  funext h
  refine propext ⟨?_, ?_⟩
  · rintro ⟨a, b, hd, rfl, ⟨x, ha⟩, hb⟩
    exact ⟨x, a, b, hd, rfl, ha, hb⟩
  · rintro ⟨x, a, b, hd, rfl, ha, hb⟩
    exact ⟨a, b, hd, rfl, ⟨x, ha⟩, hb⟩
theorem At.exl {α : Type} {F : α → HP} (h : At w0 (hex F * R) w) : ∃ x, At w0 (F x * R) w := (h.cast (hex_mul F R)).ex
theorem At.mkex {α : Type} {F : α → HP} (x : α) (h : At w0 (F x * R) w) : At w0 (hex F * R) w :=
  h.imp (HP.mono_l fun _ hx => ⟨x, hx⟩)
theorem At.mkex0 {α : Type} {F : α → HP} (x : α) (h : At w0 (F x) w) : At w0 (hex F) w :=
  h.imp fun _ hx => ⟨x, hx⟩
theorem fact_mul {p : Prop} (hp : p) (A : HP) : fact p * A = A := by
  have : fact p = 1 := by
    funext h
    exact propext ⟨fun x => x.2, fun x => ⟨hp, x⟩⟩
  rw [this, HP.one_mul]
theorem At.factl {p : Prop} (h : At w0 (fact p * R) w) : p ∧ At w0 R w := by
  have hp : p := by
    obtain ⟨x, ⟨a, b, hd, rfl, ha, hb⟩, hs⟩ := h.heap
    exact ha.1
  exact ⟨hp, h.r⟩
theorem At.mkfact {p : Prop} (hp : p) (h : At w0 R w) : At w0 (fact p * R) w := h.cast (fact_mul hp R).symm
theorem At.one (h : At w0 A w) : At w0 (A * 1) w := h.cast (HP.mul_one A).symm

/-! ### Blocks -/
theorem At.blk {b : Nat} {o : Obj} (h : At w0 (pt b o * R) w) : w.heap[b]? = some o := by
  obtain ⟨x, hx, hs⟩ := h.l.heap
  exact hs b o (by rw [show x = _ from hx]; simp)
theorem At.blk0 {b : Nat} {o : Obj} (h : At w0 (pt b o) w) : w.heap[b]? = some o := At.blk h.one
theorem At.lt {b : Nat} {o : Obj} (h : At w0 (pt b o * R) w) : b < w.heap.size := (Array.getElem?_eq_some_iff.1 h.blk).1
theorem At.cell {b : Nat} {c : Array Value} {t : TypeId} (h : At w0 (cel b c t * R) w) {i : Nat} {v : Value} (hv : c[i]? = some v) : w.cell? ⟨b, i, none⟩ = some v := by
  have hb := At.blk (o := .cells c t) h
  simp [World.cell?, hb, hv]
theorem At.cells {b : Nat} {c : Array Value} {t : TypeId} (h : At w0 (cel b c t * R) w) (i : Nat) : w.cell? ⟨b, i, none⟩ = c[i]? := by
  have hb := At.blk (o := .cells c t) h
  simp [World.cell?, hb]
theorem At.frz {b : Nat} {c : Array Value} {t : TypeId} (h : At w0 (cel b c t * R) w) (i : Nat) : w.frozen? ⟨b, i, none⟩ = false := by
  have hb := At.blk (o := .cells c t) h
  simp [World.frozen?, hb]

theorem At.drew (h : At w0 A w) : At w0 A w.drew := ⟨h.os, h.tape, h.output, h.heap⟩
theorem At.drewN (h : At w0 A w) (n : Nat) : At w0 A (w.drewN n) := ⟨h.os, h.tape, h.output, h.heap⟩
theorem At.of_drew (h : At w0 A w.drew) : At w0 A w := ⟨h.os, h.tape, h.output, h.heap⟩

/-- A new block. -/
theorem At.alloc (h : At w0 A w) (o : Obj) : At w0 (pt w.heap.size o * A) (w.alloc o) := by
  refine ⟨h.os, h.tape, h.output, ?_⟩
  obtain ⟨x, hx, hs⟩ := h.heap
  have hn : x w.heap.size = none := by
    cases e : x w.heap.size with
    | none => rfl
    | some o => have := hs _ _ e; simp at this
  refine ⟨_, ⟨_, x, ?_, rfl, rfl, hx⟩, ?_⟩
  · intro k
    by_cases hk : k = w.heap.size
    · right; rw [hk]; exact hn
    · left; simp [hk]
  · intro k o' e
    show (w.heap.push o)[k]? = some o'
    by_cases hk : k = w.heap.size
    · subst hk
      simp [HP.join] at e
      simp [e]
    · simp [HP.join, hk] at e
      have := hs k o' e
      rw [Array.getElem?_push, if_neg hk]; exact this

theorem At.alloc' {n : Nat} (h : At w0 A w) (hn : w.heap.size = n) (o : Obj) : At w0 (pt n o * A) (w.alloc o) := hn ▸ h.alloc o

/-- Any change of one block that is ours. -/
theorem At.upd {w' : World} {b : Nat} {o o' : Obj} (h : At w0 (pt b o * A) w) (hos : w'.os = w.os) (ht : w'.tape = w.tape) (hou : w'.output = w.output)
    (hb : w'.heap[b]? = some o') (hk : ∀ k x, k ≠ b → w.heap[k]? = some x → w'.heap[k]? = some x) : At w0 (pt b o' * A) w' := by
  refine ⟨hos.trans h.os, ht.trans h.tape, hou.trans h.output, ?_⟩
  obtain ⟨x, ⟨a, y, hd, rfl, ha, hy⟩, hs⟩ := h.heap
  obtain rfl : a = _ := ha
  have hyb : y b = none := by
    rcases hd b with e | e
    · simp at e
    · exact e
  refine ⟨_, ⟨_, y, ?_, rfl, rfl, hy⟩, ?_⟩
  · intro k
    by_cases hkb : k = b
    · right; rw [hkb]; exact hyb
    · left; simp [hkb]
  · intro k z e
    by_cases hkb : k = b
    · subst hkb
      simp [HP.join] at e
      rw [hb, e]
    · simp [HP.join, hkb] at e
      exact hk k z hkb (hs k z (by simp [HP.join, hkb, e]))

theorem At.set {b : Nat} {c : Array Value} {t : TypeId} (h : At w0 (cel b c t * A) w) (i : Nat) (v : Value) :
    At w0 (cel b (c.setIfInBounds i v) t * A) (w.setCell ⟨b, i, none⟩ v) := by
  have hb := At.blk (o := .cells c t) h
  refine At.upd (o := .cells c t) h rfl rfl rfl ?_ ?_
  · simp [World.setCell, Array.getElem?_modify, hb]
  · intro k x hk hx
    rw [Below.heap_setCell _ _ _ _ hk]; exact hx

theorem At.set' {b : Nat} {c d : Array Value} {t : TypeId} (h : At w0 (cel b c t * A) w) (i : Nat) (v : Value) (hd : c.setIfInBounds i v = d) :
    At w0 (cel b d t * A) (w.setCell ⟨b, i, none⟩ v) := hd ▸ h.set i v
theorem At.setRow {b : Nat} {c : Array Value} {t : TypeId} (h : At w0 (cel b c t * A) w) (d : Array Value) :
    At w0 (cel b d t * A) (w.setRow b d) := by
  have hb := At.blk (o := .cells c t) h
  exact At.upd (o := .cells c t) h rfl rfl rfl (setRow_heap w b c d t _ hb) fun k x hk hx => (setRow_other w b k d hk).trans hx

/-- What was there when the call began, and has not turned. -/
def old (w0 : World) : HP := fun h => ∀ k, h k = w0.heap[k]?

theorem At.start (w : World) : At w (old w) w := ⟨rfl, rfl, rfl, fun k => w.heap[k]?, fun _ => rfl, fun _ _ h => h⟩
theorem At.startR (w : World) : At w (old w * 1) w := (At.start w).one

theorem At.old_blk (h : At w0 (old w0 * R) w) {k : Nat} {o : Obj} (hk : w0.heap[k]? = some o) : w.heap[k]? = some o := by
  obtain ⟨x, hx, hs⟩ := h.l.heap
  exact hs k o ((hx k).trans hk)
theorem At.below (h : At w0 (old w0 * R) w) : Below w0.heap.size w0 w := by
  have hb : ∀ k, k < w0.heap.size → w.heap[k]? = w0.heap[k]? := fun k hk => by
    have e : w0.heap[k]? = some w0.heap[k] := Array.getElem?_eq_getElem hk
    rw [e]; exact h.old_blk e
  refine ⟨h.os, h.tape, h.output, ?_, hb⟩
  by_cases h0 : w0.heap.size = 0
  · omega
  · have := hb (w0.heap.size - 1) (by omega)
    rw [Array.getElem?_eq_getElem (show w0.heap.size - 1 < w0.heap.size by omega)] at this
    have := (Array.getElem?_eq_some_iff.1 this).1
    omega
theorem At.old_cell (h : At w0 (old w0 * R) w) {a : Addr} {v : Value} (hv : w0.cell? a = some v) : w.cell? a = some v :=
  (h.below.cell (World.block_lt_of_cell? w0 a hv)).trans hv

/-- Two parts share no block. -/
theorem At.ne {b b' : Nat} {o o' : Obj} (h : At w0 (pt b o * (pt b' o' * R)) w) : b ≠ b' := by
  obtain ⟨x, ⟨a, y, hd, rfl, ha, ⟨c, z, hd', rfl, hc, hz⟩⟩, hs⟩ := h.heap
  obtain rfl : a = _ := ha
  obtain rfl : c = _ := hc
  rintro rfl
  rcases hd b with e | e
  · simp at e
  · have := (HP.join_none.1 e).1
    simp at this

end

/-- A call, in terms of what holds: whatever else there is stays. -/
def Tri (P : Program) (f : FuncId) (args : Array Value) (A : HP) (Q : Value → HP) : Prop :=
  ∀ (w0 : World) (R : HP) (w : World), At w0 (A * R) w → Calls P f args w fun e w' => ∃ v, e = .returned v ∧ At w0 (Q v * R) w'

/-! ### A row of memory that one slice has for itself: its elements, and the room behind them -/
/-- v is a slice of n elements (size cells each, of type e) that hold xs, and nobody else has its block. -/
def row (e : TypeId) (size : Nat) (v : Value) (n : Nat) (xs : List Value) : HP := fun h =>
  xs.length = n * size ∧
  ((v = .slice none 0 0 ∧ n = 0 ∧ h = fun _ => none) ∨
   ∃ g cap cur, v = .slice (some ⟨g, 0, none⟩) n cap ∧ cel g cur e h ∧ n ≤ cap ∧ cap ≤ maxLen ∧ cap * size ≤ cur.size ∧ cur.toList.take (n * size) = xs)

section
variable {w0 w : World} {R : HP} {e : TypeId} {size : Nat} {v : Value} {n : Nat} {xs : List Value}

theorem row_nil (e : TypeId) (size : Nat) : row e size (.slice none 0 0) 0 [] = 1 := by
  funext h
  refine propext ⟨?_, fun hh => ⟨by simp, .inl ⟨rfl, rfl, hh⟩⟩⟩
  rintro ⟨_, ⟨_, _, hh⟩ | ⟨g, cap, cur, hv, _⟩⟩
  · exact hh
  · cases hv
theorem At.row_nil (h : At w0 R w) (e : TypeId) (size : Nat) : At w0 (row e size (.slice none 0 0) 0 [] * R) w :=
  h.cast (by rw [Go.Proofs.Ytmlifjfgelfbbaa.row_nil, HP.one_mul])

/-- A row is nil, or a block. -/
theorem At.row_cases (h : At w0 (row e size v n xs * R) w) : xs.length = n * size ∧
    ((v = .slice none 0 0 ∧ n = 0 ∧ xs = [] ∧ At w0 R w) ∨
     ∃ g cap cur, v = .slice (some ⟨g, 0, none⟩) n cap ∧ n ≤ cap ∧ cap ≤ maxLen ∧ cap * size ≤ cur.size ∧ cur.toList.take (n * size) = xs ∧ At w0 (cel g cur e * R) w) := by
  obtain ⟨x, ⟨a, b, hd, rfl, ⟨hl, hc⟩, hb⟩, hs⟩ := h.heap
  refine ⟨hl, ?_⟩
  rcases hc with ⟨rfl, rfl, rfl⟩ | ⟨g, cap, cur, rfl, hg, h1, h2, h3, h4⟩
  · exact .inl ⟨rfl, rfl, List.eq_nil_of_length_eq_zero (by simpa using hl), h.r⟩
  · exact .inr ⟨g, cap, cur, rfl, h1, h2, h3, h4, h.os, h.tape, h.output, _, ⟨a, b, hd, rfl, hg, hb⟩, hs⟩
theorem At.mkrow {g cap : Nat} {cur : Array Value} (h : At w0 (cel g cur e * R) w) (h1 : n ≤ cap) (h2 : cap ≤ maxLen) (h3 : cap * size ≤ cur.size) (h4 : cur.toList.take (n * size) = xs) :
    At w0 (row e size (.slice (some ⟨g, 0, none⟩) n cap) n xs * R) w := by
  refine h.imp (HP.mono_l fun x hx => ⟨?_, .inr ⟨g, cap, cur, rfl, hx, h1, h2, h3, h4⟩⟩)
  rw [← h4, List.length_take, Array.length_toList]
  exact Nat.min_eq_left (Nat.le_trans (Nat.mul_le_mul_right _ h1) h3)

/-- Its length is what the value says. -/
theorem At.row_len (h : At w0 (row e size v n xs * R) w) : ∃ a cap, v = .slice a n cap := by
  rcases h.row_cases.2 with ⟨rfl, rfl, _⟩ | ⟨g, cap, cur, rfl, _⟩
  · exact ⟨_, _, rfl⟩
  · exact ⟨_, _, rfl⟩
theorem At.row_cell (h : At w0 (row e size v n xs * R) w) {g o cap : Nat} (hv : v = .slice (some ⟨g, o, none⟩) n cap) {j : Nat} {u : Value} (hu : xs[j]? = some u) :
    o = 0 ∧ w.cell? ⟨g, j, none⟩ = some u := by
  rcases h.row_cases.2 with ⟨rfl, _⟩ | ⟨g', cap', cur, rfl, _, _, hsz, htk, hat⟩
  · cases hv
  · simp at hv
    obtain ⟨⟨rfl, rfl⟩, rfl⟩ := hv
    refine ⟨rfl, hat.cell ?_⟩
    rw [← htk, List.getElem?_take] at hu
    split at hu
    · simpa using hu
    · cases hu

theorem one_cells1 {x : Value} (h : x.oneCell' = true) : ∀ u ∈ [x], u.oneCell' = true := by
  intro u hu
  rw [List.mem_singleton.1 hu]; exact h
/-- The cells of a block that was just laid. -/
theorem new_cells {w : World} {cs : List Value} {e : TypeId} {b : Nat} (hb : b = w.heap.size) : ∀ j u, cs[j]? = some u → (w.alloc (.cells cs.toArray e)).cell? ((⟨b, 0, none⟩ : Addr).add j) = some u := by
  intro j u hu
  rw [Addr.add_lit, Nat.zero_add, hb, World.cell?_alloc_new]
  simpa using hu
/-- A row that is cut shorter. -/
theorem At.row_take {ar : Option Addr} {cp m : Nat} (h : At w0 (row e size (.slice ar n cp) n xs * R) w) (hm : m ≤ n) : At w0 (row e size (.slice ar m cp) m (xs.take (m * size)) * R) w := by
  obtain ⟨hl, hc⟩ := h.row_cases
  rcases hc with ⟨hv, rfl, rfl, hR⟩ | ⟨g, cap, cur, hv, h1, h2, h3, h4, hat⟩
  · simp at hv
    obtain ⟨rfl, rfl⟩ := hv
    obtain rfl : m = 0 := by omega
    simpa using hR.row_nil e size
  · simp at hv
    obtain ⟨rfl, rfl⟩ := hv
    refine hat.mkrow (Nat.le_trans hm h1) h2 h3 ?_
    rw [← h4, List.take_take, Nat.min_eq_left (Nat.mul_le_mul_right _ hm)]
/-- Where there is an element there is a block. -/
theorem At.row_ptr (h : At w0 (row e size v n xs * R) w) (hn : 0 < n) : ∃ g cap, v = .slice (some ⟨g, 0, none⟩) n cap ∧ n ≤ cap ∧ ∀ j u, xs[j]? = some u → w.cell? ⟨g, j, none⟩ = some u := by
  rcases h.row_cases.2 with ⟨_, h0, _⟩ | ⟨g, cap, cur, hv, h1, _⟩
  · omega
  · exact ⟨g, cap, hv, h1, fun j u hu => (h.row_cell hv hu).2⟩
theorem At.row_ne {b g o cp : Nat} {c : Array Value} {t : TypeId} (h : At w0 (cel b c t * (row e size (.slice (some ⟨g, o, none⟩) n cp) n xs * R)) w) : b ≠ g := by
  rcases h.pull2.row_cases.2 with ⟨hv, _⟩ | ⟨g', cap, cur, hv, _, _, _, _, hat⟩
  · cases hv
  · simp at hv
    obtain ⟨⟨rfl, _⟩, _⟩ := hv
    exact (At.ne (o := .cells cur e) (o' := .cells c t) hat).symm
theorem zeroCells_size (z : Array Value) (n : Nat) : (Builtin.zeroCells z n).size = n * z.size := by simp [Builtin.zeroCells]

/-- 'append' to a row, of cells that are read somewhere. -/
theorem run_append_row {P : Program} (t ty e : TypeId) (i : TypeInfo) (z : Value) (size bytes : Nat) (ht : P.underlying t = some (.slice e)) (hi : P.info? e = some i) (hz : i.zero = some z)
    (hsize : i.size = size) (hby : i.bytes = bytes) (hzs : z.cells.size = size) (hsz : 0 < size)
    (h : At w0 (row e size v n xs * R) w)
    (a : Addr) (m c : Nat) (news : List Value) (hl : news.length = m * size) (hnews : ∀ j u, news[j]? = some u → w.cell? (a.add j) = some u) (h1 : ∀ u ∈ news, u.oneCell' = true)
    (h63 : n + m ≤ maxLen) (hbytes : (n + m) * bytes ≤ 140737488355328) :
    ∃ v' w', (Builtin.append_ #[t, t] ty #[v, .slice (some a) m c]).run P w = .ok v' w' ∧ At w0 (row e size v' (n + m) (xs ++ news) * R) w' ∧
      (v' = .slice none 0 0 ↔ v = .slice none 0 0 ∧ m = 0) := by
  subst hsize
  subst hby
  have hsmall : n + m ≤ 9223372036854775807 := by simp only [maxLen] at h63; omega
  have hlx := h.row_cases.1
  have hlen : (xs ++ news).length = (n + m) * i.size := by rw [List.length_append, hlx, hl, Nat.add_mul]
  have grown : ∀ (old : Nat), old < n + m → At w0 R w →
      At w0 (row e i.size (.slice (some ⟨w.heap.size, 0, none⟩) (n + m) (grownCap w (n + m) old e)) (n + m) (xs ++ news) * R)
        (w.drew.alloc (.cells (xs.toArray ++ news.toArray ++ Builtin.zeroCells z.cells (grownCap w (n + m) old e - (n + m))) e)) := by
    intro old ho hR
    have hge := grownCap_ge w (n + m) old e
    have hcm : grownCap w (n + m) old e ≤ maxLen := grownCap_le_maxLen w (n + m) old e h63
    refine At.mkrow (hR.drew.alloc _) hge hcm (Nat.le_of_eq ?_) ?_
    · simp only [Array.size_append, List.size_toArray, zeroCells_size, hzs, hlx, hl, ← Nat.add_mul]
      congr 1
      omega
    · simp only [Array.toList_append, List.append_assoc]
      rw [← List.append_assoc, ← hlen]
      exact List.take_left
  rcases h.row_cases.2 with ⟨rfl, rfl, rfl, hR⟩ | ⟨g, cap, cur, rfl, hnc, hcm, hcs, htake, hat⟩
  · by_cases hm : m = 0
    · subst hm
      have hn : news = [] := List.eq_nil_of_length_eq_zero (by simpa using hl)
      subst hn
      refine ⟨.slice none 0 0, w, ?_, hR.row_nil _ _, by simp⟩
      simp [Builtin.append_, run_underlying ht, sizeOf, typeInfo, hi, Builtin.lenOf, Builtin.firstCells, loadCells, loadCellsFrom]
    · have hr := run_append_nil (P := P) w t ty e i z ht hi hz a m c news hl hnews (by omega) (by omega) (by have hb := hbytes; simp only [Nat.zero_add] at hb; omega)
      have hgr := grown 0 (by omega) hR
      simp only [Nat.zero_add, List.nil_append, Array.empty_append] at hgr ⊢
      exact ⟨_, _, hr, hgr, by simp [hm]⟩
  · by_cases hroom : n + m ≤ cap
    · have hfit : n * i.size + news.length ≤ cur.size := by rw [hl, ← Nat.add_mul]; exact Nat.le_trans (Nat.mul_le_mul_right _ hroom) hcs
      have hr := run_append_room (P := P) w t ty e i ht hi g n cap cur (At.blk (o := .cells cur e) hat) a m c news hl hnews h1 hroom hfit
      refine ⟨_, _, hr, At.mkrow (hat.setRow _) hroom hcm ?_ ?_, by simp⟩
      · simp only [List.size_toArray, List.length_append, List.length_take, List.length_drop, Array.length_toList]
        omega
      · rw [htake, ← hlen]
        exact List.take_left
    · have holds : ∀ j u, xs[j]? = some u → w.cell? ((⟨g, 0, none⟩ : Addr).add j) = some u := fun j u hu => by
        rw [Addr.add_lit, Nat.zero_add]; exact (h.row_cell rfl hu).2
      have hr := run_append_grow (P := P) w t ty e i z ht hi hz ⟨g, 0, none⟩ n cap xs hlx holds a m c news hl hnews (by omega) (by omega) (growslice_fits (by omega) hbytes)
      have hgr := grown cap (by omega) hat.r
      exact ⟨_, _, hr, hgr, by simp⟩

/-- 'append' of nothing. -/
theorem run_append_row_none {P : Program} (t ty e : TypeId) (i : TypeInfo) (ht : P.underlying t = some (.slice e)) (hi : P.info? e = some i)
    (h : At w0 (row e size v n xs * R) w) : (Builtin.append_ #[t, t] ty #[v, .slice none 0 0]).run P w = .ok v w := by
  obtain ⟨a, cap, rfl⟩ := h.row_len
  have hcap : n ≤ cap := by
    rcases h.row_cases.2 with ⟨hv, rfl, _⟩ | ⟨g, cap', cur, hv, hle, _⟩
    · simp at hv; omega
    · simp at hv; omega
  rcases h.row_cases.2 with ⟨hv, rfl, rfl, hR⟩ | ⟨g, cap', cur, hv, hle, hcm, hcs, _, hat⟩
  · simp at hv
    obtain ⟨rfl, rfl⟩ := hv
    simp [Builtin.append_, run_underlying ht, sizeOf, typeInfo, hi, Builtin.lenOf, Builtin.firstCells]
  · simp at hv
    obtain ⟨rfl, rfl⟩ := hv
    simp [Builtin.append_, run_underlying ht, sizeOf, typeInfo, hi, Builtin.lenOf, hcap, Builtin.firstCells, loadCells, storeCells]

variable {P : Program} {ops : Array Oper} {o : Oper} {a : Act} {K : Act → World → Prop} {Q : Exit → Act → World → Prop}

theorem wp_append_row (s x : Operand) (t : TypeId)
    (ho : o.op = .call { callee := .builtin .append, args := #[s, x], argTypes := #[t, t] })
    (e : TypeId) (i : TypeInfo) (z : Value) (size bytes : Nat) (ht : P.underlying t = some (.slice e)) (hi : P.info? e = some i) (hz : i.zero = some z)
    (hsize : i.size = size) (hby : i.bytes = bytes) (hzs : z.cells.size = size) (hsz : 0 < size)
    (v : Value) (n : Nat) (xs : List Value) (hs : a.eval s = v) (h : At w0 (row e size v n xs * R) w)
    (ad : Addr) (m c : Nat) (news : List Value) (hx : a.eval x = .slice (some ad) m c) (hl : news.length = m * size) (hnews : ∀ j u, news[j]? = some u → w.cell? (ad.add j) = some u) (h1 : ∀ u ∈ news, u.oneCell' = true)
    (h63 : n + m ≤ maxLen) (hbytes : (n + m) * bytes ≤ 140737488355328)
    (hK : ∀ ar cp w', At w0 (row e size (.slice ar (n + m) cp) (n + m) (xs ++ news) * R) w' → K (a.put o.dst (.slice ar (n + m) cp)) w') : o.wp P a w K Q := by
  obtain ⟨v', w', hr, h2, h3⟩ := run_append_row (P := P) t o.type e i z size bytes ht hi hz hsize hby hzs hsz h ad m c news hl hnews h1 h63 hbytes
  unfold Oper.wp execOp
  simp only [ho, resolve, invoke, builtin, Sem.run_bind, Sem.run_pure, Result.andThen_ok, List.map_toArray, List.map_cons, List.map_nil, hs, hx, hr]
  obtain ⟨ar, cp, rfl⟩ := h2.row_len
  exact hK ar cp w' h2

theorem step_append_row {E : Prop} (hg : o.guard = none) (s x : Operand) (t : TypeId)
    (ho : o.op = .call { callee := .builtin .append, args := #[s, x], argTypes := #[t, t] })
    (e : TypeId) (i : TypeInfo) (z : Value) (size bytes : Nat) (ht : P.underlying t = some (.slice e)) (hi : P.info? e = some i) (hz : i.zero = some z)
    (hsize : i.size = size) (hby : i.bytes = bytes) (hzs : z.cells.size = size) (hsz : 0 < size)
    (v : Value) (n : Nat) (xs : List Value) (hs : a.eval s = v) (h : At w0 (row e size v n xs * R) w)
    (ad : Addr) (m c : Nat) (news : List Value) (hx : a.eval x = .slice (some ad) m c) (hl : news.length = m * size) (hnews : ∀ j u, news[j]? = some u → w.cell? (ad.add j) = some u) (h1 : ∀ u ∈ news, u.oneCell' = true)
    (h63 : n + m ≤ maxLen) (hbytes : (n + m) * bytes ≤ 140737488355328)
    (hK : ∀ ar cp w', At w0 (row e size (.slice ar (n + m) cp) (n + m) (xs ++ news) * R) w' → K (a.put o.dst (.slice ar (n + m) cp)) w') :
    if Region.wanted o (yielded ops a.tmps) = true then Oper.wp P o a w K Q else E := by
  have hw : Region.wanted o (yielded ops a.tmps) = true := by simp [Region.wanted, hg]
  rw [if_pos hw]
  exact wp_append_row s x t ho e i z size bytes ht hi hz hsize hby hzs hsz v n xs hs h ad m c news hx hl hnews h1 h63 hbytes hK

theorem wpList_append_row {rest : List Oper} (hgd : o.guard = none) (s x : Operand) (t : TypeId)
    (ho : o.op = .call { callee := .builtin .append, args := #[s, x], argTypes := #[t, t] })
    (e : TypeId) (i : TypeInfo) (z : Value) (size bytes : Nat) (ht : P.underlying t = some (.slice e)) (hi : P.info? e = some i) (hz : i.zero = some z)
    (hsize : i.size = size) (hby : i.bytes = bytes) (hzs : z.cells.size = size) (hsz : 0 < size)
    (v : Value) (n : Nat) (xs : List Value) (hs : a.eval s = v) (h : At w0 (row e size v n xs * R) w)
    (ad : Addr) (m c : Nat) (news : List Value) (hx : a.eval x = .slice (some ad) m c) (hl : news.length = m * size) (hnews : ∀ j u, news[j]? = some u → w.cell? (ad.add j) = some u) (h1 : ∀ u ∈ news, u.oneCell' = true)
    (h63 : n + m ≤ maxLen) (hbytes : (n + m) * bytes ≤ 140737488355328)
    (hK : ∀ ar cp w', At w0 (row e size (.slice ar (n + m) cp) (n + m) (xs ++ news) * R) w' → wpList P ops Q rest (a.put o.dst (.slice ar (n + m) cp)) w') : wpList P ops Q (o :: rest) a w :=
  wpList_plain hgd fun _ hK' => wp_append_row s x t ho e i z size bytes ht hi hz hsize hby hzs hsz v n xs hs h ad m c news hx hl hnews h1 h63 hbytes fun ar cp w' h2 => hK' _ _ (hK ar cp w' h2)
end

end Go.Proofs.Ytmlifjfgelfbbaa

/-! ## Rs -/
namespace Go.Proofs.Ytmlifjfgelfbbaa
open Go Go.RowKit

section
variable {P : Program} {ops : Array Oper} {Q : Exit → Act → World → Prop} {w : World}

theorem Closed.set {listed : Array Bool} {i : Nat} (hc : Closed ops listed) (hi : i ∈ Region.ready .any ops listed) : Closed ops (listed.setIfInBounds i true) := by
  obtain ⟨_, oi, ho, hall⟩ := mem_ready.1 hi
  intro k o hk hkl e he hb
  by_cases hik : i = k
  · subst hik
    rw [ho] at hk; cases hk
    exact getD_set_true (hall e he hb)
  · rw [getD_set_ne false hik] at hkl
    exact getD_set_true (hc k o hk hkl e he hb)

/-- As long as one of the first n has not come up, none behind them may. -/
def aheadB (ops : Array Oper) (n : Nat) : Bool :=
  let ms := masks ops.toList
  (List.range n).all fun i => (List.range ops.size).all fun t => decide (t < n) || (ms.getD t 0).testBit i
theorem ahead_of {n : Nat} (h : aheadB ops n = true) {listed : Array Bool} (hc : Closed ops listed) {i : Nat} (hi : i < n) (hl : listed.getD i false = false) {t : Nat}
    (ht : t ∈ Region.ready .any ops listed) : t < n := by
  unfold aheadB at h
  simp only [List.all_eq_true, List.mem_range, Bool.or_eq_true, decide_eq_true_eq] at h
  obtain ⟨_, ot, hot, _⟩ := mem_ready.1 ht
  rcases h i hi t (Array.getElem?_eq_some_iff.1 hot).1 with h1 | h1
  · exact h1
  · have := hc.ready ht (masks_waits ops t i h1)
    rw [hl] at this; cases this

/-- The first n have nothing to do with one another, but where one waits for the other. -/
def headB (ops : Array Oper) (n : Nat) : Bool :=
  let ms := masks ops.toList
  (List.range n).all fun i => match ops[i]? with
    | some oi => (oi.after.all fun e => !Region.binds .any e || decide (e.on < i)) &&
        (List.range n).all fun j => match ops[j]? with
          | some oj => i == j || oi.apart ops oj || (ms.getD j 0).testBit i || (ms.getD i 0).testBit j
          | none => false
    | none => false
theorem headB_apart {n i j : Nat} {oi oj : Oper} (h : headB ops n = true) (hi : i < n) (hj : j < n) (hne : j ≠ i) (hoi : ops[i]? = some oi) (hoj : ops[j]? = some oj) :
    oi.apart ops oj = true ∨ Waits ops j i ∨ Waits ops i j := by
  unfold headB at h
  simp only [List.all_eq_true, List.mem_range] at h
  have h1 := h i hi
  rw [hoi] at h1
  simp only [Bool.and_eq_true, List.all_eq_true, List.mem_range] at h1
  have h2 := h1.2 j hj
  rw [hoj] at h2
  simp only [Bool.or_eq_true, beq_iff_eq] at h2
  rcases h2 with ((h2 | h2) | h2) | h2
  · exact absurd h2.symm hne
  · exact .inl h2
  · exact .inr (.inl (masks_waits _ _ _ h2))
  · exact .inr (.inr (masks_waits _ _ _ h2))
theorem headB_edge {n i : Nat} {oi : Oper} (h : headB ops n = true) (hi : i < n) (hoi : ops[i]? = some oi) : ∀ e ∈ oi.after, Region.binds .any e = true → e.on < i := by
  unfold headB at h
  simp only [List.all_eq_true, List.mem_range] at h
  have h1 := h i hi
  rw [hoi] at h1
  simp only [Bool.and_eq_true, Array.all_eq_true_iff_forall_mem, Bool.or_eq_true, Bool.not_eq_true', decide_eq_true_eq] at h1
  intro e he hb
  rcases h1.1 e he with h2 | h2
  · rw [hb] at h2; cases h2
  · exact h2

theorem stills_first {n i : Nat} {oi : Oper} {v : Value} {Lq : Array Bool → Act → Prop} (hA : aheadB ops n = true) (hH : headB ops n = true) (hi : ops[i]? = some oi) (hin : i < n)
    (hsel : ∀ (j : Nat) (o : Oper) cs b, ops[j]? = some o → o.op ≠ .select cs b)
    (hend : ∀ listed a, Lq listed a → ∀ j ∈ Region.ready .any ops listed, n ≤ j) :
    ∀ (f : Nat) (listed : Array Bool) (a : Act), Closed ops listed → i ∈ Region.ready .any ops listed → YieldsAt P ops w oi v a →
      wpAnyL P .any ops w n Lq f (listed.setIfInBounds i true) (a.put oi.dst v) → wpAnyL P .any ops w n Lq (f + 1) listed a := by
  intro f
  induction f with
  | zero =>
    intro listed a hc hr hy H
    refine ⟨fun h => (by rw [h] at hr; cases hr), fun j hj => ?_⟩
    have hjn := ahead_of hA hc hin (getD_both (mem_ready.1 hr).1) hj
    refine ⟨hjn, ?_⟩
    by_cases hji : j = i
    · subst hji; exact hy.stOp hi H
    · exact absurd (hend _ _ H j (ready_mono hj hji)) (by omega)
  | succ f ih =>
    intro listed a hc hr hy H
    have hiu := (mem_ready.1 hr).1
    refine ⟨fun h => (by rw [h] at hr; cases hr), fun j hj => ?_⟩
    have hjn := ahead_of hA hc hin (getD_both hiu) hj
    refine ⟨hjn, ?_⟩
    by_cases hji : j = i
    · subst hji; exact hy.stOp hi H
    · obtain ⟨hju, oj, hoj, _⟩ := mem_ready.1 hj
      have hap : oi.apart ops oj = true := by
        rcases headB_apart hH hin hjn hji hi hoj with h | h | h
        · exact h
        · have := hc.ready hj h
          rw [getD_both hiu] at this; cases this
        · have := hc.ready hr h
          rw [getD_both hju] at this; cases this
      have h2 := stOp_put hoj hap (fun cs b => hsel i oi cs b hi) (fun cs b => hsel j oj cs b hoj) hy (H.2 j (ready_mono hj hji)).2
      refine stOp_mono (fun a' h3 => ih (listed.setIfInBounds j true) a' (hc.set hj) (ready_mono hr (Ne.symm hji)) h3.1 ?_) h2
      rw [Array.setIfInBounds_comm _ _ hji]
      exact h3.2

/-- Just the first k have come up. -/
def UpTo (ops : Array Oper) (k : Nat) (listed : Array Bool) : Prop := Closed ops listed ∧ listed.size = ops.size ∧ ∀ j, j < ops.size → listed.getD j false = decide (j < k)
theorem UpTo.un {k j : Nat} {listed : Array Bool} (h : UpTo ops k listed) (hj : j < ops.size) : listed.getD j true = decide (j < k) := by
  rw [← h.2.2 j hj]
  have : j < listed.size := by rw [h.2.1]; exact hj
  simp [this]
theorem UpTo.next {n k : Nat} {ok : Oper} {listed : Array Bool} (h : UpTo ops k listed) (hH : headB ops n = true) (hk : k < n) (hok : ops[k]? = some ok) :
    k ∈ Region.ready .any ops listed ∧ UpTo ops (k + 1) (listed.setIfInBounds k true) := by
  have hks := (Array.getElem?_eq_some_iff.1 hok).1
  have hr : k ∈ Region.ready .any ops listed := by
    refine mem_ready.2 ⟨by rw [h.un hks]; simp, ok, hok, fun e he hb => ?_⟩
    have he' := headB_edge hH hk hok e he hb
    rw [h.2.2 e.on (by omega)]
    simpa using he'
  refine ⟨hr, h.1.set hr, by simp [h.2.1], fun j hj => ?_⟩
  by_cases hjk : k = j
  · subst hjk
    have : k < listed.size := by rw [h.2.1]; exact hks
    simp [this]
  · rw [getD_set_ne false hjk, h.2.2 j hj]
    rw [Bool.eq_iff_iff]
    simp only [decide_eq_true_eq]
    omega

theorem stills_lex {n : Nat} {Lq : Act → Prop} (hA : aheadB ops n = true) (hH : headB ops n = true) (hsel : ∀ (j : Nat) (o : Oper) cs b, ops[j]? = some o → o.op ≠ .select cs b) :
    ∀ (l : List Oper) (k : Nat) (listed : Array Bool) (a : Act), (∀ j, j < l.length → l[j]? = ops[k + j]?) → k + l.length = n → UpTo ops k listed →
      wpStill P ops w Lq l a → wpAnyL P .any ops w n (fun listed' a' => UpTo ops n listed' ∧ Lq a') l.length listed a
  | [], k, listed, a, _, hk, hu, h => by
    obtain rfl : k = n := by simpa using hk
    exact ⟨hu, h⟩
  | o :: l, k, listed, a, hl, hk, hu, h => by
    have h0 : ops[k]? = some o := by simpa using (hl 0 (by simp)).symm
    have hkn : k < n := by simp only [List.length_cons] at hk; omega
    obtain ⟨hr, hu'⟩ := hu.next hH hkn h0
    have hst : stOp P ops w k (wpStill P ops w Lq l) a := by unfold stOp; simp only [h0]; exact h
    obtain ⟨v, hy, hK⟩ := yieldsAt_of_stOp h0 hst
    refine stills_first hA hH h0 hkn hsel (fun listed' a' hL j hj => ?_) l.length listed a hu.1 hr hy
      (stills_lex hA hH hsel l (k + 1) _ _ (fun j hj => by have := hl (j + 1) (by simp; omega); simpa [Nat.add_assoc, Nat.add_comm 1 j] using this) (by simp only [List.length_cons] at hk; omega) hu' hK)
    obtain ⟨hj0, oj, hoj, _⟩ := mem_ready.1 hj
    rw [hL.1.un (Array.getElem?_eq_some_iff.1 hoj).1] at hj0
    simpa using hj0

theorem wpOps_picks {l : List Oper} {R : Exit → Act → World → Prop} : ∀ (M : List Nat) (a : Act) (w : World), (∀ k ∈ M, k < l.length) → wpList P l.toArray R (picks l M) a w → wpOps P l.toArray R M a w := by
  intro M
  induction M with
  | nil => intro a w _ h; exact h
  | cons i M ih =>
    intro a w hM h
    have hi := hM i List.mem_cons_self
    have hM' := fun k hk => hM k (List.mem_cons_of_mem _ hk)
    have ho : l.toArray[i]? = some (l.getD i default) := by simp [List.getD_eq_getElem?_getD, hi]
    rw [picks_cons] at h
    rw [wpOps_cons]
    unfold wpOp
    simp only [ho]
    unfold wpList at h
    split
    · rename_i hw
      rw [if_pos hw] at h
      exact h.imp (Oper.wp_mono fun a w h => ih a w hM' h) (fun h => h)
    · rename_i hw
      rw [if_neg hw] at h
      exact ih _ _ hM' h

def stillLineB (P : Program) (ops : Array Oper) (n : Nat) (L : List Nat) : Bool :=
  Region.noSelect ops && decide (n ≤ ops.size) && aheadB ops n && headB ops n &&
  (L.all fun k => selfOk ops k && decide (n ≤ k)) && ((List.range ops.size).all fun k => decide (k < n) || L.contains k) && pairsOk (pairOk P ops (masks ops.toList)) L && decide (L.length ≤ ops.size - n)

/-- **The first n leave the world alone; the others are walked in the order L.** -/
theorem wp_region_still_line {id : Nat} {a : Act} {l : List Oper} (n : Nat) (L : List Nat) (hm : P.follows .mixedOrders = true) (hB : stillLineB P l.toArray n L = true)
    (h : wpStill P l.toArray w.drew (fun a' => wpList P l.toArray (Shaped P l.toArray Q) (picks l L) a' w.drew) (l.take n) a) : (Code.region id l.toArray true).wp P Q a w := by
  unfold stillLineB at hB
  simp only [Bool.and_eq_true, List.all_eq_true, decide_eq_true_eq, List.mem_range, Bool.or_eq_true, List.contains_iff_mem] at hB
  obtain ⟨⟨⟨⟨⟨⟨⟨hsel, hn⟩, hA⟩, hH⟩, hself⟩, hall⟩, hpairs⟩, hlen⟩ := hB
  have hn' : n ≤ l.length := by simpa using hn
  have htl : (l.take n).length = n := by simp; omega
  have hlt : ∀ k ∈ L, k < l.length := fun k hk => by
    have := (hself k hk).1
    unfold selfOk at this
    split at this
    · rename_i o ho; simpa using (Array.getElem?_eq_some_iff.1 ho).1
    · cases this
  have hu : UpTo l.toArray 0 (Array.replicate l.toArray.size false) := by
    refine ⟨fun i o _ hl => ?_, by simp, fun j hj => ?_⟩
    · rw [getD_replicate_false] at hl; cases hl
    · rw [getD_replicate_false]; simp
  have H := stills_lex (P := P) (w := w.drew) hA hH (Region.noSelect_spec hsel) (l.take n) 0 _ a (fun j hj => by
    have hj' : j < n := by rw [htl] at hj; exact hj
    simp [hj']) (by simpa using htl) hu h
  refine Code.wp_mono (Q := Strict Q) (fun e a w hq => by cases e <;> first | exact hq | exact hq.elim) (wp_region_any hm ?_)
  have := wpAny_of_head (Q' := Strict Q) (g := l.toArray.size - n) (fun listed a' hL => by
    refine wpAny_of_order hsel (l.toArray.size - n) listed L a' _ (fun k => ?_) hL.1.2.1 hL.1.1 hlen (fun k hk => (hself k hk).1) hpairs (wpOps_picks L _ _ hlt hL.2)
    constructor
    · intro hk
      have h1 := hlt k hk
      refine ⟨by simpa using h1, ?_⟩
      rw [hL.1.un (by simpa using h1)]
      simpa using (hself k hk).2
    · rintro ⟨hk, hk0⟩
      rw [hL.1.un hk] at hk0
      rcases hall k hk with h1 | h1
      · simp [h1] at hk0
      · exact h1) _ _ _ H
  rw [htl, show n + (l.toArray.size - n) = l.toArray.size by simp at hn ⊢; omega] at this
  exact this
end

end Go.Proofs.Ytmlifjfgelfbbaa

/-! ## Rh -/
namespace Go.Proofs.Ytmlifjfgelfbbaa
open Go Go.RowKit

section
variable {P : Program} {ops : Array Oper} {Q : Exit → Act → World → Prop} {S : World → Prop}

/-- o yields v in whatever world of S's, and leaves such a world. -/
def HeldAt (P : Program) (ops : Array Oper) (S : World → Prop) (o : Oper) (v : Value) (a : Act) : Prop :=
  (Region.wanted o (yielded ops a.tmps) = true ∧ ∀ w, S w → (execOp a.eval o).run P w = .ok (.value v) w ∨
     ∃ f args, (execOp a.eval o).run P w = .ok (.enter f args) w ∧ Calls P f args w (fun e w' => e = .returned v ∧ S w')) ∨
  (Region.wanted o (yielded ops a.tmps) = false ∧ v = undef)
theorem HeldAt.put {o oj : Oper} {v u : Value} {a : Act} (h : HeldAt P ops S o v a) (hap : o.apart ops oj = true) (hs : ∀ cs b, o.op ≠ .select cs b) : HeldAt P ops S o v (a.put oj.dst u) := by
  obtain ⟨_, _, h3⟩ := Oper.apart_spec hap
  unfold HeldAt at *
  rw [execOp_put o hs a oj.dst u h3, wanted_put o a oj.dst u h3]
  exact h
theorem HeldAt.unput {o oi : Oper} {v u : Value} {a : Act} (h : HeldAt P ops S o v (a.put oi.dst u)) (hap : oi.apart ops o = true) (hs : ∀ cs b, o.op ≠ .select cs b) : HeldAt P ops S o v a := by
  obtain ⟨h1, _, _⟩ := Oper.apart_spec hap
  unfold HeldAt at *
  rw [execOp_put o hs a oi.dst u h1, wanted_put o a oi.dst u h1] at h
  exact h

def hAny (P : Program) (ops : Array Oper) (S : World → Prop) (n : Nat) (Lq : Array Bool → Act → Prop) : Nat → Array Bool → Act → Prop
  | 0, listed, a => Lq listed a
  | f + 1, listed, a => Region.ready .any ops listed ≠ [] ∧ ∀ i ∈ Region.ready .any ops listed, i < n ∧
      ∃ oi v, ops[i]? = some oi ∧ HeldAt P ops S oi v a ∧ hAny P ops S n Lq f (listed.setIfInBounds i true) (a.put oi.dst v)

theorem wpAny_of_held {n g : Nat} {Lq : Array Bool → Act → Prop} (hL : ∀ listed a w, S w → Lq listed a → wpAny P .any ops Q g listed a w) :
    ∀ (f : Nat) (listed : Array Bool) (a : Act) (w : World), S w → hAny P ops S n Lq f listed a → wpAny P .any ops Q (f + g) listed a w
  | 0, listed, a, w, hS, h => by rw [Nat.zero_add]; exact hL listed a w hS h
  | f + 1, listed, a, w, hS, h => by
    rw [show f + 1 + g = (f + g) + 1 by omega]
    refine ⟨fun h0 => absurd h0 h.1, fun i hi => ?_⟩
    obtain ⟨_, oi, v, ho, hh, hK⟩ := h.2 i hi
    unfold wpOp
    simp only [ho]
    rcases hh with ⟨hw, hr⟩ | ⟨hw, rfl⟩
    · rw [if_pos hw]
      left
      unfold Oper.wp
      rcases hr w hS with hr | ⟨f', args, hr, hc⟩
      · rw [hr]
        exact wpAny_of_held hL f _ _ w hS hK
      · rw [hr]
        exact hc.mono fun e w' ⟨he, hS'⟩ => by subst he; exact wpAny_of_held hL f _ _ w' hS' hK
    · rw [if_neg (by simp [hw])]
      exact wpAny_of_held hL f _ _ w hS hK

theorem held_first {n i : Nat} {oi : Oper} {v : Value} {Lq : Array Bool → Act → Prop} (hA : aheadB ops n = true) (hH : headB ops n = true) (hi : ops[i]? = some oi) (hin : i < n)
    (hsel : ∀ (j : Nat) (o : Oper) cs b, ops[j]? = some o → o.op ≠ .select cs b)
    (hend : ∀ listed a, Lq listed a → ∀ j ∈ Region.ready .any ops listed, n ≤ j) :
    ∀ (f : Nat) (listed : Array Bool) (a : Act), Closed ops listed → i ∈ Region.ready .any ops listed → HeldAt P ops S oi v a →
      hAny P ops S n Lq f (listed.setIfInBounds i true) (a.put oi.dst v) → hAny P ops S n Lq (f + 1) listed a := by
  intro f
  induction f with
  | zero =>
    intro listed a hc hr hy H
    refine ⟨fun h => (by rw [h] at hr; cases hr), fun j hj => ?_⟩
    have hjn := ahead_of hA hc hin (getD_both (mem_ready.1 hr).1) hj
    refine ⟨hjn, ?_⟩
    by_cases hji : j = i
    · subst hji; exact ⟨oi, v, hi, hy, H⟩
    · exact absurd (hend _ _ H j (ready_mono hj hji)) (by omega)
  | succ f ih =>
    intro listed a hc hr hy H
    have hiu := (mem_ready.1 hr).1
    refine ⟨fun h => (by rw [h] at hr; cases hr), fun j hj => ?_⟩
    have hjn := ahead_of hA hc hin (getD_both hiu) hj
    refine ⟨hjn, ?_⟩
    by_cases hji : j = i
    · subst hji; exact ⟨oi, v, hi, hy, H⟩
    · obtain ⟨hju, oj, hoj, _⟩ := mem_ready.1 hj
      have hap : oi.apart ops oj = true := by
        rcases headB_apart hH hin hjn hji hi hoj with h | h | h
        · exact h
        · have := hc.ready hj h
          rw [getD_both hiu] at this; cases this
        · have := hc.ready hr h
          rw [getD_both hju] at this; cases this
      obtain ⟨_, oj', u, hoj', hhj, hK⟩ := H.2 j (ready_mono hj hji)
      rw [hoj] at hoj'
      cases hoj'
      refine ⟨oj, u, hoj, hhj.unput hap (fun cs b => hsel j oj cs b hoj), ih (listed.setIfInBounds j true) (a.put oj.dst u) (hc.set hj) (ready_mono hr (Ne.symm hji)) (hy.put hap fun cs b => hsel i oi cs b hi) ?_⟩
      rw [Array.setIfInBounds_comm _ _ hji, Act.put_comm a u v (fun d hd hd' => (Oper.apart_spec hap).2.1 d hd' hd)]
      exact hK

/-- The operations in the order of the text. -/
def wpHeld (P : Program) (ops : Array Oper) (S : World → Prop) (R : Act → Prop) : List Oper → Act → Prop
  | [], a => R a
  | o :: rest, a => ∃ v, HeldAt P ops S o v a ∧ wpHeld P ops S R rest (a.put o.dst v)

theorem held_lex {n : Nat} {Lq : Act → Prop} (hA : aheadB ops n = true) (hH : headB ops n = true) (hsel : ∀ (j : Nat) (o : Oper) cs b, ops[j]? = some o → o.op ≠ .select cs b) :
    ∀ (l : List Oper) (k : Nat) (listed : Array Bool) (a : Act), (∀ j, j < l.length → l[j]? = ops[k + j]?) → k + l.length = n → UpTo ops k listed →
      wpHeld P ops S Lq l a → hAny P ops S n (fun listed' a' => UpTo ops n listed' ∧ Lq a') l.length listed a
  | [], k, listed, a, _, hk, hu, h => by
    obtain rfl : k = n := by simpa using hk
    exact ⟨hu, h⟩
  | o :: l, k, listed, a, hl, hk, hu, h => by
    have h0 : ops[k]? = some o := by simpa using (hl 0 (by simp)).symm
    have hkn : k < n := by simp only [List.length_cons] at hk; omega
    obtain ⟨hr, hu'⟩ := hu.next hH hkn h0
    obtain ⟨v, hy, hK⟩ := h
    refine held_first hA hH h0 hkn hsel (fun listed' a' hL j hj => ?_) l.length listed a hu.1 hr hy
      (held_lex hA hH hsel l (k + 1) _ _ (fun j hj => by have := hl (j + 1) (by simp; omega); simpa [Nat.add_assoc, Nat.add_comm 1 j] using this) (by simp only [List.length_cons] at hk; omega) hu' hK)
    obtain ⟨hj0, oj, hoj, _⟩ := mem_ready.1 hj
    rw [hL.1.un (Array.getElem?_eq_some_iff.1 hoj).1] at hj0
    simpa using hj0

/-- **The first n find the same whatever has come up; the others are walked in the order L.** -/
theorem wp_region_held_line {id : Nat} {a : Act} {w : World} {l : List Oper} (n : Nat) (L : List Nat) (S : World → Prop) (hm : P.follows .mixedOrders = true) (hB : stillLineB P l.toArray n L = true) (hS : S w.drew)
    (h : wpHeld P l.toArray S (fun a' => ∀ w', S w' → wpList P l.toArray (Shaped P l.toArray Q) (picks l L) a' w') (l.take n) a) : (Code.region id l.toArray true).wp P Q a w := by
  unfold stillLineB at hB
  simp only [Bool.and_eq_true, List.all_eq_true, decide_eq_true_eq, List.mem_range, Bool.or_eq_true, List.contains_iff_mem] at hB
  obtain ⟨⟨⟨⟨⟨⟨⟨hsel, hn⟩, hA⟩, hH⟩, hself⟩, hall⟩, hpairs⟩, hlen⟩ := hB
  have hn' : n ≤ l.length := by simpa using hn
  have htl : (l.take n).length = n := by simp; omega
  have hlt : ∀ k ∈ L, k < l.length := fun k hk => by
    have := (hself k hk).1
    unfold selfOk at this
    split at this
    · rename_i o ho; simpa using (Array.getElem?_eq_some_iff.1 ho).1
    · cases this
  have hu : UpTo l.toArray 0 (Array.replicate l.toArray.size false) := by
    refine ⟨fun i o _ hl => ?_, by simp, fun j hj => ?_⟩
    · rw [getD_replicate_false] at hl; cases hl
    · rw [getD_replicate_false]; simp
  have H := held_lex (P := P) (S := S) hA hH (Region.noSelect_spec hsel) (l.take n) 0 _ a (fun j hj => by
    have hj' : j < n := by rw [htl] at hj; exact hj
    simp [hj']) (by simpa using htl) hu h
  refine Code.wp_mono (Q := Strict Q) (fun e a w hq => by cases e <;> first | exact hq | exact hq.elim) (wp_region_any hm ?_)
  have := wpAny_of_held (Q := Strict Q) (g := l.toArray.size - n) (fun listed a' w' hS' hL => by
    refine wpAny_of_order hsel (l.toArray.size - n) listed L a' _ (fun k => ?_) hL.1.2.1 hL.1.1 hlen (fun k hk => (hself k hk).1) hpairs (wpOps_picks L _ _ hlt (hL.2 w' hS'))
    constructor
    · intro hk
      have h1 := hlt k hk
      refine ⟨by simpa using h1, ?_⟩
      rw [hL.1.un (by simpa using h1)]
      simpa using (hself k hk).2
    · rintro ⟨hk, hk0⟩
      rw [hL.1.un hk] at hk0
      rcases hall k hk with h1 | h1
      · simp [h1] at hk0
      · exact h1) _ _ _ _ hS H
  rw [htl, show n + (l.toArray.size - n) = l.toArray.size by simp at hn ⊢; omega] at this
  exact this

theorem held_skip {R : Act → Prop} {a : Act} : R a → wpHeld P ops S R [] a := id
/-- An operation of its own. -/
theorem held_read {R : Act → Prop} {o : Oper} {rest : List Oper} {a : Act} (v : Value) (hw : Region.wanted o (yielded ops a.tmps) = true) (hr : ∀ w, S w → (execOp a.eval o).run P w = .ok (.value v) w) (h : wpHeld P ops S R rest (a.put o.dst v)) : wpHeld P ops S R (o :: rest) a :=
  ⟨v, .inl ⟨hw, fun w hS => .inl (hr w hS)⟩, h⟩
/-- A call. -/
theorem held_call {R : Act → Prop} {o : Oper} {rest : List Oper} {a : Act} (v : Value) (f : FuncId) (args : Array Value) (hw : Region.wanted o (yielded ops a.tmps) = true) (hr : ∀ w, (execOp a.eval o).run P w = .ok (.enter f args) w)
    (hc : ∀ w, S w → Calls P f args w (fun e w' => e = .returned v ∧ S w')) (h : wpHeld P ops S R rest (a.put o.dst v)) : wpHeld P ops S R (o :: rest) a :=
  ⟨v, .inl ⟨hw, fun w hS => .inr ⟨f, args, hr w, hc w hS⟩⟩, h⟩
end

end Go.Proofs.Ytmlifjfgelfbbaa

/-! ## Rm -/
namespace Go.Proofs.Ytmlifjfgelfbbaa
open Go Go.RowKit

section
variable {P : Program} {ops : Array Oper} {Q : Exit → Act → World → Prop} {w : World}

def mix (P : Program) (ops : Array Oper) (Q : Exit → Act → World → Prop) (w : World) : List Nat → List Nat → Act → Prop
  | [], T, a => wpOps P ops (Shaped P ops Q) T a w
  | j :: H, T, a => stOp P ops w j (mix P ops Q w H T) a

theorem stOp_swap {i j : Nat} {oi oj : Oper} (hi : ops[i]? = some oi) (hj : ops[j]? = some oj) (hap : oj.apart ops oi = true) (hsel : ∀ (j : Nat) (o : Oper) cs b, ops[j]? = some o → o.op ≠ .select cs b)
    {K : Act → Prop} {a : Act} (h : stOp P ops w j (stOp P ops w i K) a) : stOp P ops w i (stOp P ops w j K) a := by
  obtain ⟨v, hy, hK⟩ := yieldsAt_of_stOp hj h
  exact stOp_mono (fun a' h' => h'.1.stOp hj h'.2) (stOp_put hi hap (fun cs b => hsel j oj cs b hj) (fun cs b => hsel i oi cs b hi) hy hK)

theorem mix_head {i : Nat} {oi : Oper} {post T : List Nat} (hi : ops[i]? = some oi) (hsel : ∀ (j : Nat) (o : Oper) cs b, ops[j]? = some o → o.op ≠ .select cs b) :
    ∀ (pre : List Nat) (a : Act), (∀ j ∈ pre, ∃ oj, ops[j]? = some oj ∧ oj.apart ops oi = true) → mix P ops Q w (pre ++ i :: post) T a → stOp P ops w i (mix P ops Q w (pre ++ post) T) a
  | [], a, _, h => h
  | j :: pre, a, hp, h => by
    obtain ⟨oj, hj, hap⟩ := hp j List.mem_cons_self
    exact stOp_swap hi hj hap hsel (stOp_mono (fun a' h' => mix_head hi hsel pre a' (fun k hk => hp k (List.mem_cons_of_mem _ hk)) h') h)

theorem mix_tail {i : Nat} {oi : Oper} {T T' : List Nat} (hi : ops[i]? = some oi) (hsel : ∀ (j : Nat) (o : Oper) cs b, ops[j]? = some o → o.op ≠ .select cs b) (hk : kindOf P oi ≤ 1)
    (hf : ∀ a, wpOps P ops (Shaped P ops Q) T a w → wpOps P ops (Shaped P ops Q) (i :: T') a w)
    (hs : ∀ k ∈ i :: T', ∀ o, ops[k]? = some o → needShape oi = true → dstIn ops o.dst oi = false) :
    ∀ (H : List Nat) (a : Act), (∀ j ∈ H, ∃ oj, ops[j]? = some oj ∧ oj.apart ops oi = true) → mix P ops Q w H T a → stOp P ops w i (mix P ops Q w H T') a
  | [], a, _, h => by
    have h1 := hf a h
    have hsh := shape_at hi h1 hs
    rw [wpOps_cons] at h1
    unfold wpOp at h1
    simp only [hi] at h1
    by_cases hw : Region.wanted oi (yielded ops a.tmps) = true
    · rw [if_pos hw] at h1
      rcases h1 with h1 | ⟨_, _, _, hx⟩
      · unfold Oper.wp at h1
        rcases reads_of hk (hsh hw) w with ⟨x, hx, _⟩ | ⟨g, w', e⟩
        · obtain ⟨v, rfl⟩ := value_of (by omega) (hsh hw) hx
          rw [hx] at h1
          exact YieldsAt.stOp hi (.inl ⟨hw, .inl hx⟩) h1
        · rw [e] at h1
          cases g <;> exact h1.elim
      · exact hx.elim
    · rw [if_neg hw] at h1
      exact YieldsAt.stOp hi (.inr ⟨by simpa using hw, rfl⟩) h1
  | j :: H, a, hp, h => by
    obtain ⟨oj, hj, hap⟩ := hp j List.mem_cons_self
    exact stOp_swap hi hj hap hsel (stOp_mono (fun a' h' => mix_tail hi hsel hk hf hs H a' (fun k hk => hp k (List.mem_cons_of_mem _ hk)) h') h)

def headOk (ops : Array Oper) (ms : List Nat) (j i : Nat) : Bool :=
  match ops[j]?, ops[i]? with
  | some oj, some oi => j != i && !(oj.after.any fun e => Region.binds .any e && e.on == i) && ((ms.getD i 0).testBit j || oj.apart ops oi)
  | _, _ => false
def crossOk (P : Program) (ops : Array Oper) (ms : List Nat) (j t : Nat) : Bool :=
  match ops[j]?, ops[t]? with
  | some oj, some ot => j != t && !(oj.after.any fun e => Region.binds .any e && e.on == t) && ((ms.getD t 0).testBit j || (oj.apart ops ot && decide (kindOf P ot ≤ 1)))
  | _, _ => false
theorem no_edge {o : Oper} {i : Nat} (h : (!(o.after.any fun e => Region.binds .any e && e.on == i)) = true) : ∀ e ∈ o.after, Region.binds .any e = true → e.on ≠ i := by
  intro e he hb heq
  have : o.after.any (fun e => Region.binds .any e && e.on == i) = true := Array.any_eq_true'.2 ⟨e, he, by simp [hb, heq]⟩
  rw [this] at h; cases h
theorem headOk_spec {ms : List Nat} {j i : Nat} (h : headOk ops ms j i = true) : ∃ oj oi, ops[j]? = some oj ∧ ops[i]? = some oi ∧ j ≠ i ∧
    (∀ e ∈ oj.after, Region.binds .any e = true → e.on ≠ i) ∧ ((ms.getD i 0).testBit j = true ∨ oj.apart ops oi = true) := by
  unfold headOk at h
  cases hj : ops[j]? with
  | none => rw [hj] at h; cases h
  | some oj =>
    cases hi : ops[i]? with
    | none => rw [hj, hi] at h; cases h
    | some oi =>
      rw [hj, hi] at h
      simp only [Bool.and_eq_true, Bool.or_eq_true, bne_iff_ne, ne_eq] at h
      exact ⟨oj, oi, rfl, rfl, h.1.1, no_edge h.1.2, h.2⟩
theorem crossOk_spec {ms : List Nat} {j i : Nat} (h : crossOk P ops ms j i = true) : ∃ oj oi, ops[j]? = some oj ∧ ops[i]? = some oi ∧ j ≠ i ∧
    (∀ e ∈ oj.after, Region.binds .any e = true → e.on ≠ i) ∧ ((ms.getD i 0).testBit j = true ∨ (oj.apart ops oi = true ∧ kindOf P oi ≤ 1)) := by
  unfold crossOk at h
  cases hj : ops[j]? with
  | none => rw [hj] at h; cases h
  | some oj =>
    cases hi : ops[i]? with
    | none => rw [hj, hi] at h; cases h
    | some oi =>
      rw [hj, hi] at h
      simp only [Bool.and_eq_true, Bool.or_eq_true, bne_iff_ne, ne_eq, decide_eq_true_eq] at h
      exact ⟨oj, oi, rfl, rfl, h.1.1, no_edge h.1.2, h.2⟩

theorem rem_step {R R' : List Nat} {i : Nat} {listed : Array Bool} (hsz : listed.size = ops.size) (hi : i < ops.size) (hR : ∀ k, k ∈ R ↔ (k < ops.size ∧ listed.getD k true = false)) (hR' : ∀ k, k ∈ R' ↔ (k ∈ R ∧ k ≠ i)) :
    ∀ k, k ∈ R' ↔ (k < ops.size ∧ (listed.setIfInBounds i true).getD k true = false) := by
  intro k
  rw [hR', hR]
  by_cases hki : i = k
  · subst hki
    have : i < listed.size := by omega
    simp [this]
  · rw [getD_set_ne true hki]
    constructor
    · rintro ⟨h, _⟩; exact h
    · intro h; exact ⟨h, fun e => hki e.symm⟩

theorem wpAny_of_mix (hsel : Region.noSelect ops = true) : ∀ (fuel : Nat) (listed : Array Bool) (H T : List Nat) (a : Act),
    (∀ k, k ∈ H ++ T ↔ (k < ops.size ∧ listed.getD k true = false)) → listed.size = ops.size → Closed ops listed → (H ++ T).length ≤ fuel →
    (∀ k ∈ H ++ T, selfOk ops k = true) → pairsOk (headOk ops (masks ops.toList)) H = true → (∀ j ∈ H, ∀ t ∈ T, crossOk P ops (masks ops.toList) j t = true) →
    pairsOk (pairOk P ops (masks ops.toList)) T = true → mix P ops Q w H T a → wpAny P .any ops (Strict Q) fuel listed a w := by
  intro fuel
  induction fuel with
  | zero =>
    intro listed H T a hrem hsz hcl hlen hself hHH hHT hTT h
    obtain rfl : H = [] := List.eq_nil_of_length_eq_zero (by rw [List.length_append] at hlen; omega)
    exact wpAny_of_order hsel 0 listed T a w (by simpa using hrem) hsz hcl (by simpa using hlen) (by simpa using hself) hTT h
  | succ fuel ih =>
    intro listed H T a hrem hsz hcl hlen hself hHH hHT hTT h
    cases H with
    | nil => exact wpAny_of_order hsel _ listed T a w (by simpa using hrem) hsz hcl (by simpa using hlen) (by simpa using hself) hTT h
    | cons r H' =>
    have nsel := Region.noSelect_spec hsel
    have hunl : ∀ k, k < ops.size → listed.getD k true = listed.getD k false := fun k hk => by
      have hk' : k < listed.size := by omega
      simp [hk']
    refine ⟨fun hnil => ?_, fun i hi => ?_⟩
    · exfalso
      obtain ⟨hr, hr0⟩ := (hrem r).1 (by simp)
      have ho : ops[r]? = some ops[r] := Array.getElem?_eq_getElem hr
      have hs := hself r (by simp)
      unfold selfOk at hs
      rw [ho] at hs
      simp only [Bool.and_eq_true, Array.all_eq_true_iff_forall_mem, Bool.or_eq_true, Bool.not_eq_true', bne_iff_ne, ne_eq, decide_eq_true_eq] at hs
      have : r ∈ Region.ready .any ops listed := by
        refine mem_ready.2 ⟨hr0, ops[r], ho, fun e he hb => ?_⟩
        rcases hs.2 e he with hb' | ⟨hne, hlt⟩
        · rw [hb] at hb'; cases hb'
        · cases hl : listed.getD e.on false with
          | true => rfl
          | false =>
            have hmem : e.on ∈ (r :: H') ++ T := (hrem e.on).2 ⟨hlt, by rw [hunl _ hlt]; exact hl⟩
            rcases List.mem_append.1 hmem with hm | hm
            · rcases List.mem_cons.1 hm with heq | hm
              · exact absurd heq hne
              · simp only [pairsOk, Bool.and_eq_true, List.all_eq_true] at hHH
                obtain ⟨oj, oi, hoj, hoi, _, hno, _⟩ := headOk_spec (hHH.1 _ hm)
                rw [ho] at hoj; cases hoj
                exact absurd rfl (hno e he hb)
            · obtain ⟨oj, oi, hoj, hoi, _, hno, _⟩ := crossOk_spec (hHT r List.mem_cons_self _ hm)
              rw [ho] at hoj; cases hoj
              exact absurd rfl (hno e he hb)
      rw [hnil] at this
      cases this
    · obtain ⟨hi0, oi, ho, hall⟩ := mem_ready.1 hi
      have hisz : i < ops.size := (Array.getElem?_eq_some_iff.1 ho).1
      have himem : i ∈ (r :: H') ++ T := (hrem i).2 ⟨hisz, hi0⟩
      have nowait : ∀ j, j ∈ (r :: H') ++ T → ((masks ops.toList).getD i 0).testBit j = true → False := fun j hj hw => by
        have hjl := hcl.ready hi (masks_waits ops i j hw)
        have hj0 := (hrem j).1 hj
        rw [hunl j hj0.1, hjl] at hj0
        cases hj0.2
      generalize hHe : r :: H' = H at *
      clear hHe
      rcases List.mem_append.1 himem with hm | hm
      · obtain ⟨pre, post, rfl⟩ := List.append_of_mem hm
        obtain ⟨_, hp2, hp3⟩ := pairsOk_append hHH
        have hp2' := hp2
        simp only [pairsOk, Bool.and_eq_true, List.all_eq_true] at hp2'
        have hmv := mix_head (Q := Q) (w := w) (T := T) ho nsel pre a (fun j hj => by
          obtain ⟨oj, oi', hoj, hoi, _, _, hor⟩ := headOk_spec (hp3 j hj i List.mem_cons_self)
          rw [ho] at hoi; cases hoi
          rcases hor with hw | hap
          · exact (nowait j (by simp [hj]) hw).elim
          · exact ⟨oj, hoj, hap⟩) h
        refine wpOp_of_stOp (fun a' h' => ?_) hmv
        refine ih (listed.setIfInBounds i true) (pre ++ post) T a' (rem_step hsz hisz hrem fun k => ?_) (by simpa using hsz) (hcl.set hi) (by simp at hlen ⊢; omega) (fun k hk => hself k (by
          simp only [List.mem_append, List.mem_cons] at hk ⊢; rcases hk with (h | h) | h <;> simp [h])) (pairsOk_erase hHH) (fun j hj t ht => hHT j (by
          simp only [List.mem_append, List.mem_cons] at hj ⊢; rcases hj with h | h <;> simp [h]) t ht) hTT h'
        have e1 : ∀ k ∈ pre, k ≠ i := fun k hk => by obtain ⟨_, _, _, _, hne, _⟩ := headOk_spec (hp3 k hk i List.mem_cons_self); exact hne
        have e2 : ∀ k ∈ post, k ≠ i := fun k hk => by obtain ⟨_, _, _, _, hne, _⟩ := headOk_spec (hp2'.1 k hk); exact fun e => hne e.symm
        have e3 : ∀ k ∈ T, k ≠ i := fun k hk => by obtain ⟨_, _, _, _, hne, _⟩ := crossOk_spec (hHT i (by simp) k hk); exact fun e => hne e.symm
        simp only [List.mem_append, List.mem_cons]
        constructor
        · rintro ((h | h) | h)
          · exact ⟨.inl (.inl h), e1 k h⟩
          · exact ⟨.inl (.inr (.inr h)), e2 k h⟩
          · exact ⟨.inr h, e3 k h⟩
        · rintro ⟨(h | h | h) | h, hne⟩
          · exact .inl (.inl h)
          · exact absurd h hne
          · exact .inl (.inr h)
          · exact .inr h
      · obtain ⟨pre, post, rfl⟩ := List.append_of_mem hm
        obtain ⟨_, hp2, hp3⟩ := pairsOk_append hTT
        have hp2' := hp2
        simp only [pairsOk, Bool.and_eq_true, List.all_eq_true] at hp2'
        have selfof : ∀ k ∈ H ++ (pre ++ i :: post), ∀ o, ops[k]? = some o → needShape o = true → dstIn ops o.dst o = false := fun k hk o hok hn => by
          have hs := hself k hk
          unfold selfOk at hs
          rw [hok] at hs
          simp only [Bool.and_eq_true] at hs
          have := hs.1
          rw [hn] at this
          simpa using this
        have hcross : ∀ j ∈ H, ∃ oj, ops[j]? = some oj ∧ oj.apart ops oi = true ∧ kindOf P oi ≤ 1 := fun j hj => by
          obtain ⟨oj, oi', hoj, hoi, _, _, hor⟩ := crossOk_spec (hHT j hj i (by simp))
          rw [ho] at hoi; cases hoi
          rcases hor with hw | hap
          · exact (nowait j (by simp [hj]) hw).elim
          · exact ⟨oj, hoj, hap⟩
        have hpreA : ∀ j ∈ pre, ∃ oj, ops[j]? = some oj ∧ oj.apart ops oi = true ∧ (kindOf P oj = 0 ∨ (kindOf P oj = 1 ∧ kindOf P oi ≤ 2)) ∧ (needShape oj = true → dstIn ops oj.dst oj = false) := fun j hj => by
          obtain ⟨oj, oi', hoj, hoi, _, _, _, hor⟩ := pairOk_spec (hp3 j hj i List.mem_cons_self)
          rw [ho] at hoi; cases hoi
          refine ⟨oj, hoj, ?_⟩
          rcases hor with hw | ⟨hap, hk⟩
          · exact (nowait j (by simp [hj]) hw).elim
          · exact ⟨hap, hk, fun hn => selfof j (by simp [hj]) oj hoj hn⟩
        have hpost : ∀ k ∈ post, ∀ o, ops[k]? = some o → needShape oi = true → dstIn ops o.dst oi = false := fun k hk o hok hn => by
          obtain ⟨oj, oi', hoj, hoi, _, _, hd, _⟩ := pairOk_spec (hp2'.1 k hk)
          rw [ho] at hoj; cases hoj
          rw [hok] at hoi; cases hoi
          exact hd hn
        have hf : ∀ a, wpOps P ops (Shaped P ops Q) (pre ++ i :: post) a w → wpOps P ops (Shaped P ops Q) (i :: (pre ++ post)) a w := fun a h => by
          rw [wpOps_cons]
          exact toFront (P := P) (Q := Q) ho hsel (fun hn => selfof i (by simp) oi ho hn) hpost pre a w hpreA
            (pairsOk_imp (fun j k hjk => by
              obtain ⟨oj, ok, hoj, hok, _, _, hd, _⟩ := pairOk_spec hjk
              simp only [hoj, hok]
              cases hn : needShape oj with
              | false => rfl
              | true => simp [hd hn]) hTT) h
        by_cases hHn : H = []
        · subst hHn
          have h2 : wpAny P .any ops (Strict Q) (fuel + 1) listed a w := wpAny_of_order hsel _ listed _ a w (by simpa using hrem) hsz hcl (by simpa using hlen) (by simpa using hself) hTT h
          exact h2.2 i hi
        have hki : kindOf P oi ≤ 1 := by
          cases H with
          | nil => exact absurd rfl hHn
          | cons j _ => exact (hcross j List.mem_cons_self).choose_spec.2.2
        have hmv := mix_tail (Q := Q) (w := w) (T' := pre ++ post) ho nsel hki hf (fun k hk o hok hn => by
          rcases List.mem_cons.1 hk with rfl | hk
          · rw [ho] at hok; cases hok
            exact selfof k (by simp) oi ho hn
          · rcases List.mem_append.1 hk with hk | hk
            · obtain ⟨ok, hok', hapk, _⟩ := hpreA k hk
              rw [hok] at hok'; cases hok'
              exact (dstIn_of_apart hapk).1
            · exact hpost k hk o hok hn) H a (fun j hj => by obtain ⟨oj, h1, h2, _⟩ := hcross j hj; exact ⟨oj, h1, h2⟩) h
        refine wpOp_of_stOp (fun a' h' => ?_) hmv
        refine ih (listed.setIfInBounds i true) H (pre ++ post) a' (rem_step hsz hisz hrem fun k => ?_) (by simpa using hsz) (hcl.set hi) (by simp at hlen ⊢; omega) (fun k hk => hself k (by
          simp only [List.mem_append, List.mem_cons] at hk ⊢; rcases hk with h | h | h <;> simp [h])) hHH (fun j hj t ht => hHT j hj t (by
          simp only [List.mem_append, List.mem_cons] at ht ⊢; rcases ht with h | h <;> simp [h])) (pairsOk_erase hTT) h'
        have e1 : ∀ k ∈ pre, k ≠ i := fun k hk => by obtain ⟨_, _, _, _, hne, _⟩ := pairOk_spec (hp3 k hk i List.mem_cons_self); exact hne
        have e2 : ∀ k ∈ post, k ≠ i := fun k hk => by obtain ⟨_, _, _, _, hne, _⟩ := pairOk_spec (hp2'.1 k hk); exact fun e => hne e.symm
        have e3 : ∀ k ∈ H, k ≠ i := fun k hk => by obtain ⟨_, _, _, _, hne, _⟩ := crossOk_spec (hHT k hk i (by simp)); exact hne
        simp only [List.mem_append, List.mem_cons]
        constructor
        · rintro (h | h | h)
          · exact ⟨.inl h, e3 k h⟩
          · exact ⟨.inr (.inl h), e1 k h⟩
          · exact ⟨.inr (.inr (.inr h)), e2 k h⟩
        · rintro ⟨h | h | h | h, hne⟩
          · exact .inl h
          · exact .inr (.inl h)
          · exact absurd h hne
          · exact .inr (.inr h)

theorem still_imp {K K' : Act → Prop} (hK : ∀ a, K a → K' a) : ∀ (l : List Oper) (a : Act), wpStill P ops w K l a → wpStill P ops w K' l a
  | [], a, h => hK a h
  | o :: l, a, h => by
    unfold wpStill at h ⊢
    split
    · rename_i hw; rw [if_pos hw] at h; exact Oper.still_mono (fun a' h' => still_imp hK l a' h') h
    · rename_i hw; rw [if_neg hw] at h; exact still_imp hK l _ h
theorem mix_of_still {T : List Nat} : ∀ (l : List Oper) (k : Nat) (a : Act), (∀ j, j < l.length → l[j]? = ops[k + j]?) → wpStill P ops w (fun a' => wpOps P ops (Shaped P ops Q) T a' w) l a → mix P ops Q w (List.range' k l.length) T a
  | [], _, _, _, h => h
  | o :: l, k, a, hl, h => by
    have h0 : ops[k]? = some o := by simpa using (hl 0 (by simp)).symm
    have hst : stOp P ops w k (wpStill P ops w (fun a' => wpOps P ops (Shaped P ops Q) T a' w) l) a := by unfold stOp; simp only [h0]; exact h
    show stOp P ops w k (mix P ops Q w (List.range' (k + 1) l.length) T) a
    exact stOp_mono (fun a' h' => mix_of_still l (k + 1) a' (fun j hj => by have := hl (j + 1) (by simp; omega); simpa [Nat.add_assoc, Nat.add_comm 1 j] using this) h') hst

def mixB (P : Program) (ops : Array Oper) (n : Nat) (L : List Nat) : Bool :=
  Region.noSelect ops && decide (n ≤ ops.size) && ((List.range' 0 n ++ L).all (selfOk ops)) && (L.all fun k => decide (k < ops.size) && decide (n ≤ k)) && ((List.range ops.size).all fun k => decide (k < n) || L.contains k) &&
  pairsOk (headOk ops (masks ops.toList)) (List.range' 0 n) && ((List.range' 0 n).all fun j => L.all fun t => crossOk P ops (masks ops.toList) j t) && pairsOk (pairOk P ops (masks ops.toList)) L && decide (n + L.length ≤ ops.size)

/-- **The first n leave the world alone; the others are walked in the order L; those of them that only read may come up ahead of the first n's end.** -/
theorem wp_region_mix_line {id : Nat} {a : Act} {l : List Oper} (n : Nat) (L : List Nat) (hm : P.follows .mixedOrders = true) (hB : mixB P l.toArray n L = true)
    (h : wpStill P l.toArray w.drew (fun a' => wpList P l.toArray (Shaped P l.toArray Q) (picks l L) a' w.drew) (l.take n) a) : (Code.region id l.toArray true).wp P Q a w := by
  unfold mixB at hB
  simp only [Bool.and_eq_true, List.all_eq_true, decide_eq_true_eq, List.mem_range, Bool.or_eq_true, List.contains_iff_mem] at hB
  obtain ⟨⟨⟨⟨⟨⟨⟨⟨hsel, hn⟩, hself⟩, hL⟩, hall⟩, hHH⟩, hHT⟩, hTT⟩, hlen⟩ := hB
  have hn' : n ≤ l.length := by simpa using hn
  have htl : (l.take n).length = n := by simp; omega
  have h2 := mix_of_still (P := P) (Q := Q) (w := w.drew) (ops := l.toArray) (T := L) (l.take n) 0 a (fun j hj => by
    have hj' : j < n := by rw [htl] at hj; exact hj
    simp [hj']) (still_imp (fun a' h' => wpOps_picks L a' _ (fun k hk => by simpa using (hL k hk).1) h') _ _ h)
  rw [htl] at h2
  refine Code.wp_mono (Q := Strict Q) (fun e a w hq => by cases e <;> first | exact hq | exact hq.elim) (wp_region_any hm ?_)
  refine wpAny_of_mix hsel l.toArray.size _ (List.range' 0 n) L a (fun k => ?_) (by simp) ?_ (by simpa using hlen) hself hHH hHT hTT h2
  · rw [List.mem_append, List.mem_range'_1]
    constructor
    · rintro (hk | hk)
      · have hkn : k < l.toArray.size := by omega
        exact ⟨hkn, by simp at hkn ⊢; simp [hkn]⟩
      · have := (hL k hk).1
        exact ⟨this, by simp at this ⊢; simp [this]⟩
    · rintro ⟨hk, _⟩
      rcases hall k hk with h1 | h1
      · exact .inl ⟨by omega, by omega⟩
      · exact .inr h1
  · intro i o _ hl
    rw [getD_replicate_false] at hl; cases hl
end
end Go.Proofs.Ytmlifjfgelfbbaa

/-! ## Rn -/
namespace Go.Proofs.Ytmlifjfgelfbbaa
open Go Go.RowKit

section
variable {P : Program} {ops : Array Oper} {Q : Exit → Act → World → Prop} {w : World}
def mixB2 (P : Program) (ops : Array Oper) (s n : Nat) (L : List Nat) : Bool :=
  Region.noSelect ops && decide (s + n ≤ ops.size) && ((List.range' s n ++ L).all (selfOk ops)) && (L.all fun k => decide (k < ops.size) && (decide (k < s) || decide (s + n ≤ k))) && ((List.range ops.size).all fun k => (decide (s ≤ k) && decide (k < s + n)) || L.contains k) &&
  pairsOk (headOk ops (masks ops.toList)) (List.range' s n) && ((List.range' s n).all fun j => L.all fun t => crossOk P ops (masks ops.toList) j t) && pairsOk (pairOk P ops (masks ops.toList)) L && decide (n + L.length ≤ ops.size)

/-- **n operations from s on leave the world alone; the others are walked in the order L.** -/
theorem wp_region_mix2 {id : Nat} {a : Act} {l : List Oper} (s n : Nat) (L : List Nat) (hm : P.follows .mixedOrders = true) (hB : mixB2 P l.toArray s n L = true)
    (h : wpStill P l.toArray w.drew (fun a' => wpList P l.toArray (Shaped P l.toArray Q) (picks l L) a' w.drew) ((l.drop s).take n) a) : (Code.region id l.toArray true).wp P Q a w := by
  unfold mixB2 at hB
  simp only [Bool.and_eq_true, List.all_eq_true, decide_eq_true_eq, List.mem_range, Bool.or_eq_true, List.contains_iff_mem] at hB
  obtain ⟨⟨⟨⟨⟨⟨⟨⟨hsel, hn⟩, hself⟩, hL⟩, hall⟩, hHH⟩, hHT⟩, hTT⟩, hlen⟩ := hB
  have hn' : s + n ≤ l.length := by simpa using hn
  have htl : ((l.drop s).take n).length = n := by simp; omega
  have h2 := mix_of_still (P := P) (Q := Q) (w := w.drew) (ops := l.toArray) (T := L) ((l.drop s).take n) s a (fun j hj => by
    have hj' : j < n := by rw [htl] at hj; exact hj
    simp [hj']) (still_imp (fun a' h' => wpOps_picks L a' _ (fun k hk => by simpa using (hL k hk).1) h') _ _ h)
  rw [htl] at h2
  refine Code.wp_mono (Q := Strict Q) (fun e a w hq => by cases e <;> first | exact hq | exact hq.elim) (wp_region_any hm ?_)
  refine wpAny_of_mix hsel l.toArray.size _ (List.range' s n) L a (fun k => ?_) (by simp) ?_ (by simpa using hlen) hself hHH hHT hTT h2
  · rw [List.mem_append, List.mem_range'_1]
    constructor
    · rintro (hk | hk)
      · have hkn : k < l.toArray.size := by omega
        exact ⟨hkn, by simp at hkn ⊢; simp [hkn]⟩
      · have := (hL k hk).1
        exact ⟨this, by simp at this ⊢; simp [this]⟩
    · rintro ⟨hk, _⟩
      rcases hall k hk with h1 | h1
      · exact .inl h1
      · exact .inr h1
  · intro i o _ hl
    rw [getD_replicate_false] at hl; cases hl
end
end Go.Proofs.Ytmlifjfgelfbbaa

/-! ## Two -/
namespace Go.Proofs.Ytmlifjfgelfbbaa
open Go Go.RowKit

section
variable {P : Program} {ops : Array Oper} {Q : Exit → Act → World → Prop} {S : World → Prop}

def wpHR (P : Program) (ops : Array Oper) (S : World → Prop) (Rr : Act → Prop) : List Nat → Act → Prop
  | [], a => Rr a
  | i :: l, a => ∃ o v, ops[i]? = some o ∧ o.guard = none ∧ (∀ w, S w → (execOp a.eval o).run P w = .ok (.value v) w) ∧ wpHR P ops S Rr l (a.put o.dst v)
def LW (P : Program) (ops : Array Oper) (S : World → Prop) (R : Act → World → Prop) : List Nat → Act → World → Prop
  | [], a, w => R a w
  | i :: l, a, w => ∃ o, ops[i]? = some o ∧ o.guard = none ∧ ((∃ v, (execOp a.eval o).run P w = .ok (.value v) w ∧ LW P ops S R l (a.put o.dst v) w) ∨
      ∃ f args, (execOp a.eval o).run P w = .ok (.enter f args) w ∧ Calls P f args w fun e w' => ∃ v, e = .returned v ∧ S w' ∧ LW P ops S R l (a.put o.dst v) w')

theorem two_swap {R : Act → World → Prop} {i : Nat} {l : List Nat} {w : World} (hsel : ∀ (j : Nat) (o : Oper) cs b, ops[j]? = some o → o.op ≠ .select cs b) :
    ∀ (Hs : List Nat) (a : Act), (∀ h ∈ Hs, ∀ oh o, ops[h]? = some oh → ops[i]? = some o → oh.apart ops o = true) → wpHR P ops S (fun a' => LW P ops S R (i :: l) a' w) Hs a →
      ∃ o, ops[i]? = some o ∧ o.guard = none ∧ ((∃ v, (execOp a.eval o).run P w = .ok (.value v) w ∧ wpHR P ops S (fun a' => LW P ops S R l a' w) Hs (a.put o.dst v)) ∨
        ∃ f args, (execOp a.eval o).run P w = .ok (.enter f args) w ∧ Calls P f args w fun e w' => ∃ v, e = .returned v ∧ S w' ∧ wpHR P ops S (fun a' => LW P ops S R l a' w') Hs (a.put o.dst v))
  | [], a, _, h => h
  | h0 :: Hs, a, hap, h => by
    obtain ⟨oh, vh, hoh, hgd, hr, hK⟩ := h
    obtain ⟨o, ho, hgo, hs⟩ := two_swap hsel Hs (a.put oh.dst vh) (fun k hk => hap k (List.mem_cons_of_mem _ hk)) hK
    obtain ⟨x1, x2, x3⟩ := Oper.apart_spec (hap h0 List.mem_cons_self oh o hoh ho)
    rw [execOp_put o (fun cs b => hsel i o cs b ho) a oh.dst vh x1] at hs
    have back : ∀ (v : Value) (w' : World), wpHR P ops S (fun a' => LW P ops S R l a' w') Hs ((a.put oh.dst vh).put o.dst v) → wpHR P ops S (fun a' => LW P ops S R l a' w') (h0 :: Hs) (a.put o.dst v) := fun v w' hh => by
      refine ⟨oh, vh, hoh, hgd, fun w2 hw2 => ?_, ?_⟩
      · rw [execOp_put oh (fun cs b => hsel h0 oh cs b hoh) a o.dst v x3]
        exact hr w2 hw2
      · rw [← Act.put_comm a vh v (fun d hd hd' => x2 d hd hd')]
        exact hh
    refine ⟨o, ho, hgo, ?_⟩
    rcases hs with ⟨v, hrun, hh⟩ | ⟨f, args, hrun, hc⟩
    · exact .inl ⟨v, hrun, back v w hh⟩
    · exact .inr ⟨f, args, hrun, hc.mono fun e w' ⟨v, he, hS, hh⟩ => ⟨v, he, hS, back v w' hh⟩⟩

def noEdge (ops : Array Oper) (x y : Nat) : Bool :=
  match ops[x]? with
  | some o => o.after.all fun e => !Region.binds .any e || e.on != y
  | none => false
def apartB (ops : Array Oper) (x y : Nat) : Bool :=
  match ops[x]?, ops[y]? with
  | some o, some o' => o.apart ops o'
  | _, _ => false
def twoB (ops : Array Oper) (H L1 L2 : List Nat) : Bool :=
  let ms := masks ops.toList
  Region.noSelect ops && (H ++ (L1 ++ L2)).all (selfOk ops) && decide (H ++ (L1 ++ L2)).Nodup && ((List.range ops.size).all fun k => (H ++ (L1 ++ L2)).contains k) &&
  pairsOk (noEdge ops) (H ++ (L1 ++ L2)) && pairsOk (fun x y => (ms.getD y 0).testBit x) H && pairsOk (fun x y => (ms.getD y 0).testBit x) L1 &&
  (L2.all fun t => (H ++ L1).all fun j => (ms.getD t 0).testBit j) && (H.all fun h => L1.all fun l => apartB ops h l) && pairsOk (fun x y => (ms.getD y 0).testBit x) L2 && decide ((H ++ (L1 ++ L2)).length ≤ ops.size)

theorem pairs_cons {f : Nat → Nat → Bool} {x : Nat} {l : List Nat} (h : pairsOk f (x :: l) = true) : (∀ y ∈ l, f x y = true) ∧ pairsOk f l = true := by
  simpa [pairsOk, List.all_eq_true] using h

/-- A chain that is forced. -/
theorem wpAny_of_chain : ∀ (fuel : Nat) (L : List Nat) (listed : Array Bool) (a : Act) (w : World), L.length ≤ fuel → (∀ k, k ∈ L ↔ (k < ops.size ∧ listed.getD k true = false)) → listed.size = ops.size → Closed ops listed →
    (∀ k ∈ L, selfOk ops k = true) → L.Nodup → pairsOk (noEdge ops) L = true → pairsOk (fun x y => ((masks ops.toList).getD y 0).testBit x) L = true → wpOps P ops (Strict Q) L a w → wpAny P .any ops (Strict Q) fuel listed a w := by
  intro fuel
  induction fuel with
  | zero =>
    intro L listed a w hlen hrem hsz hcl hself hnd hne hL h
    obtain rfl : L = [] := List.eq_nil_of_length_eq_zero (by omega)
    refine ⟨?_, h⟩
    refine List.eq_nil_iff_forall_not_mem.2 fun i hi => ?_
    obtain ⟨hi0, oi, hoi, _⟩ := mem_ready.1 hi
    have := (hrem i).2 ⟨(Array.getElem?_eq_some_iff.1 hoi).1, hi0⟩
    cases this
  | succ f ih =>
    intro L listed a w hlen hrem hsz hcl hself hnd hne hL h
    have hunl : ∀ k, k < ops.size → listed.getD k true = listed.getD k false := fun k hk => by
      have hk' : k < listed.size := by omega
      simp [hk']
    cases L with
    | nil =>
      have hnil : Region.ready .any ops listed = [] := List.eq_nil_iff_forall_not_mem.2 fun i hi => by
        obtain ⟨hi0, oi, hoi, _⟩ := mem_ready.1 hi
        have := (hrem i).2 ⟨(Array.getElem?_eq_some_iff.1 hoi).1, hi0⟩
        cases this
      exact ⟨fun _ => h, fun i hi => by rw [hnil] at hi; cases hi⟩
    | cons x L' =>
      obtain ⟨hxs, hx0⟩ := (hrem x).1 List.mem_cons_self
      refine ⟨fun hnil => ?_, fun i hi => ?_⟩
      · exfalso
        have ho : ops[x]? = some ops[x] := Array.getElem?_eq_getElem hxs
        have hs := hself x List.mem_cons_self
        obtain ⟨hne1, _⟩ := pairs_cons hne
        unfold selfOk at hs
        rw [ho] at hs
        simp only [Bool.and_eq_true, Array.all_eq_true_iff_forall_mem, Bool.or_eq_true, Bool.not_eq_true', bne_iff_ne, ne_eq, decide_eq_true_eq] at hs
        have : x ∈ Region.ready .any ops listed := by
          refine mem_ready.2 ⟨hx0, ops[x], ho, fun e he hb => ?_⟩
          rcases hs.2 e he with hb' | ⟨hne', hlt⟩
          · rw [hb] at hb'; cases hb'
          · cases hl : listed.getD e.on false with
            | true => rfl
            | false =>
              have hmem : e.on ∈ x :: L' := (hrem e.on).2 ⟨hlt, by rw [hunl _ hlt]; exact hl⟩
              rcases List.mem_cons.1 hmem with heq | hm
              · exact absurd heq hne'
              · have := hne1 _ hm
                unfold noEdge at this
                rw [ho] at this
                simp only [Array.all_eq_true_iff_forall_mem, Bool.or_eq_true, Bool.not_eq_true', bne_iff_ne, ne_eq] at this
                rcases this e he with hb' | h'
                · rw [hb] at hb'; cases hb'
                · exact absurd rfl h'
        rw [hnil] at this
        cases this
      · obtain ⟨hi0, oi, hoi, _⟩ := mem_ready.1 hi
        have hiR : i ∈ x :: L' := (hrem i).2 ⟨(Array.getElem?_eq_some_iff.1 hoi).1, hi0⟩
        obtain rfl : i = x := by
          rcases List.mem_cons.1 hiR with rfl | hm
          · rfl
          · have := hcl.ready hi (masks_waits _ _ _ ((pairs_cons hL).1 i hm))
            rw [← hunl x hxs, hx0] at this
            cases this
        rw [wpOps_cons] at h
        have hi' : i < listed.size := by rw [hsz]; exact hxs
        have hnd' := List.nodup_cons.1 hnd
        refine wpOp_mono (fun a' w' h' => ?_) h
        refine ih L' _ a' w' (by simp only [List.length_cons] at hlen; omega) (fun k => ?_) (by simp [hsz]) (hcl.set hi) (fun k hk => hself k (List.mem_cons_of_mem _ hk)) hnd'.2 (pairs_cons hne).2 (pairs_cons hL).2 h'
        by_cases hki : i = k
        · subst hki
          constructor
          · intro hk; exact absurd hk hnd'.1
          · rintro ⟨_, hk⟩; simp [hi'] at hk
        · rw [getD_set_ne true hki, ← hrem k]
          constructor
          · exact fun hk => List.mem_cons_of_mem _ hk
          · intro hk
            rcases List.mem_cons.1 hk with h1 | h1
            · exact absurd h1.symm hki
            · exact h1

theorem wpAny_of_two {R : Act → World → Prop} {L2 : List Nat} {g : Nat} (hsel : Region.noSelect ops = true) (hg : L2.length ≤ g) (hTT : pairsOk (fun x y => ((masks ops.toList).getD y 0).testBit x) L2 = true) (hself2 : ∀ k ∈ L2, selfOk ops k = true)
    (hR : R = fun a w => wpOps P ops (Strict Q) L2 a w) :
    ∀ (f : Nat) (H L1 : List Nat) (listed : Array Bool) (a : Act) (w : World), H.length + L1.length = f → (∀ k, k ∈ H ++ (L1 ++ L2) ↔ (k < ops.size ∧ listed.getD k true = false)) → listed.size = ops.size → Closed ops listed →
    (∀ k ∈ H ++ (L1 ++ L2), selfOk ops k = true) → (H ++ (L1 ++ L2)).Nodup → pairsOk (noEdge ops) (H ++ (L1 ++ L2)) = true →
    pairsOk (fun x y => ((masks ops.toList).getD y 0).testBit x) H = true → pairsOk (fun x y => ((masks ops.toList).getD y 0).testBit x) L1 = true →
    (∀ t ∈ L2, ∀ j ∈ H ++ L1, ((masks ops.toList).getD t 0).testBit j = true) → (∀ h ∈ H, ∀ l ∈ L1, apartB ops h l = true) →
    S w → wpHR P ops S (fun a' => LW P ops S R L1 a' w) H a → wpAny P .any ops (Strict Q) (f + g) listed a w := by
  have nsel := Region.noSelect_spec hsel
  intro f
  induction f with
  | zero =>
    intro H L1 listed a w hf hrem hsz hcl hself hnd hne hH hL hLL hap hS h
    obtain rfl : H = [] := List.eq_nil_of_length_eq_zero (by omega)
    obtain rfl : L1 = [] := List.eq_nil_of_length_eq_zero (by omega)
    subst hR
    rw [Nat.zero_add]
    exact wpAny_of_chain g L2 listed a w hg (by simpa using hrem) hsz hcl hself2 (by simpa using hnd) (by simpa using hne) hTT h
  | succ f ih =>
    intro H L1 listed a w hf hrem hsz hcl hself hnd hne hH hL hLL hap hS h
    rw [show f + 1 + g = (f + g) + 1 by omega]
    have hunl : ∀ k, k < ops.size → listed.getD k true = listed.getD k false := fun k hk => by
      have hk' : k < listed.size := by omega
      simp [hk']
    have inrem : ∀ k ∈ H ++ (L1 ++ L2), listed.getD k false = false := fun k hk => by
      obtain ⟨h1, h2⟩ := (hrem k).1 hk
      rw [← hunl k h1]; exact h2
    have nrem : ∀ {i : Nat} {rem' : List Nat}, i ∈ H ++ (L1 ++ L2) → (∀ k, k ∈ rem' ↔ (k ∈ H ++ (L1 ++ L2) ∧ k ≠ i)) → ∀ k, k ∈ rem' ↔ (k < ops.size ∧ (listed.setIfInBounds i true).getD k true = false) := fun {i rem'} hi hr k => by
      have hi' : i < listed.size := by rw [hsz]; exact ((hrem i).1 hi).1
      rw [hr, hrem]
      by_cases hki : i = k
      · subst hki
        simp [hi']
      · rw [getD_set_ne true hki]
        constructor
        · rintro ⟨h, _⟩; exact h
        · intro h; exact ⟨h, fun e => hki e.symm⟩
    refine ⟨fun hnil => ?_, fun i hi => ?_⟩
    · exfalso
      -- the first of what is left is ready
      obtain ⟨x, l, hxl⟩ : ∃ x l, H ++ (L1 ++ L2) = x :: l := by
        cases hO : H ++ (L1 ++ L2) with
        | nil =>
          have := congrArg List.length hO
          simp only [List.length_append, List.length_nil] at this
          omega
        | cons x l => exact ⟨x, l, rfl⟩
      have hx : x ∈ H ++ (L1 ++ L2) := by rw [hxl]; exact List.mem_cons_self
      obtain ⟨hxs, hx0⟩ := (hrem x).1 hx
      have ho : ops[x]? = some ops[x] := Array.getElem?_eq_getElem hxs
      have hs := hself x hx
      rw [hxl] at hne
      obtain ⟨hne1, _⟩ := pairs_cons hne
      unfold selfOk at hs
      rw [ho] at hs
      simp only [Bool.and_eq_true, Array.all_eq_true_iff_forall_mem, Bool.or_eq_true, Bool.not_eq_true', bne_iff_ne, ne_eq, decide_eq_true_eq] at hs
      have : x ∈ Region.ready .any ops listed := by
        refine mem_ready.2 ⟨hx0, ops[x], ho, fun e he hb => ?_⟩
        rcases hs.2 e he with hb' | ⟨hne', hlt⟩
        · rw [hb] at hb'; cases hb'
        · cases hl : listed.getD e.on false with
          | true => rfl
          | false =>
            have hmem : e.on ∈ H ++ (L1 ++ L2) := (hrem e.on).2 ⟨hlt, by rw [hunl _ hlt]; exact hl⟩
            rw [hxl] at hmem
            rcases List.mem_cons.1 hmem with heq | hm
            · exact absurd heq hne'
            · have := hne1 _ hm
              unfold noEdge at this
              rw [ho] at this
              simp only [Array.all_eq_true_iff_forall_mem, Bool.or_eq_true, Bool.not_eq_true', bne_iff_ne, ne_eq] at this
              rcases this e he with hb' | h'
              · rw [hb] at hb'; cases hb'
              · exact absurd rfl h'
      rw [hnil] at this
      cases this
    · obtain ⟨hi0, oi, hoi, _⟩ := mem_ready.1 hi
      have hiR : i ∈ H ++ (L1 ++ L2) := (hrem i).2 ⟨(Array.getElem?_eq_some_iff.1 hoi).1, hi0⟩
      have waitless : ∀ j ∈ H ++ (L1 ++ L2), ((masks ops.toList).getD i 0).testBit j = true → False := fun j hj hb => by
        have := hcl.ready hi (masks_waits _ _ _ hb)
        rw [inrem j hj] at this; cases this
      have hcl' := hcl.set hi
      have hsz' : (listed.setIfInBounds i true).size = ops.size := by simp [hsz]
      rcases List.mem_append.1 hiR with hiH | hiL
      · -- a head
        cases H with
        | nil => cases hiH
        | cons x H' =>
          obtain rfl : i = x := by
            rcases List.mem_cons.1 hiH with rfl | hm
            · rfl
            · exact (waitless x (by simp) ((pairs_cons hH).1 i hm)).elim
          obtain ⟨o, v, ho, hgd, hr, hK⟩ := h
          rw [hoi] at ho; cases ho
          unfold wpOp
          simp only [hoi]
          rw [if_pos (by simp [Region.wanted, hgd])]
          left
          unfold Oper.wp
          rw [hr w hS]
          have hnd' := List.nodup_cons.1 hnd
          refine ih H' L1 _ _ w (by simp only [List.length_cons] at hf; omega) (nrem hiR fun k => ?_) hsz' hcl' (fun k hk => hself k (List.mem_cons_of_mem _ hk)) hnd'.2 (pairs_cons hne).2 (pairs_cons hH).2 hL (fun t ht j hj => hLL t ht j (List.mem_cons_of_mem _ hj)) (fun h hh => hap h (List.mem_cons_of_mem _ hh)) hS hK
          constructor
          · intro hk
            exact ⟨List.mem_cons_of_mem _ hk, fun e => hnd'.1 (e ▸ hk)⟩
          · rintro ⟨hk, hne⟩
            rcases List.mem_cons.1 hk with h1 | h1
            · exact absurd h1 hne
            · exact h1
      · rcases List.mem_append.1 hiL with hi1 | hi2
        · cases L1 with
          | nil => cases hi1
          | cons x L1' =>
            obtain rfl : i = x := by
              rcases List.mem_cons.1 hi1 with rfl | hm
              · rfl
              · exact (waitless x (by simp) ((pairs_cons hL).1 i hm)).elim
            obtain ⟨o, ho, hgd, hs⟩ := two_swap nsel H a (fun h0 hh0 oh o hoh ho => by
              have := hap h0 hh0 i List.mem_cons_self
              unfold apartB at this
              rw [hoh, ho] at this
              exact this) h
            rw [hoi] at ho; cases ho
            unfold wpOp
            simp only [hoi]
            rw [if_pos (by simp [Region.wanted, hgd])]
            left
            have hmid := (List.nodup_append.1 hnd)
            have hnd1 : i ∉ H ∧ i ∉ L1' ++ L2 := by
              refine ⟨fun hh => hmid.2.2 i hh i (by simp) rfl, ?_⟩
              exact (List.nodup_cons.1 hmid.2.1).1
            have hnd' : (H ++ (L1' ++ L2)).Nodup := List.nodup_append.2 ⟨hmid.1, (List.nodup_cons.1 hmid.2.1).2, fun x hx y hy => hmid.2.2 x hx y (List.mem_cons_of_mem _ hy)⟩
            have hne' : pairsOk (noEdge ops) (H ++ (L1' ++ L2)) = true := by
              clear ih h hs hf hrem hself hnd hH hL hLL hap inrem nrem hiR waitless hmid hnd1 hnd' hiL hi1
              induction H with
              | nil => exact (pairs_cons hne).2
              | cons y H' ih' =>
                obtain ⟨p1, p2⟩ := pairs_cons (l := H' ++ (i :: L1' ++ L2)) hne
                show pairsOk (noEdge ops) (y :: (H' ++ (L1' ++ L2))) = true
                simp only [pairsOk, Bool.and_eq_true, List.all_eq_true]
                refine ⟨fun z hz => p1 z ?_, ih' p2⟩
                rcases List.mem_append.1 hz with hz | hz
                · exact List.mem_append_left _ hz
                · exact List.mem_append_right _ (List.mem_cons_of_mem _ hz)
            have next : ∀ (v : Value) (w' : World), S w' → wpHR P ops S (fun a' => LW P ops S R L1' a' w') H (a.put oi.dst v) → wpAny P .any ops (Strict Q) (f + g) (listed.setIfInBounds i true) (a.put oi.dst v) w' := fun v w' hS' hh => by
              refine ih H L1' _ _ w' (by simp only [List.length_cons] at hf; omega) (nrem hiR fun k => ?_) hsz' hcl' (fun k hk => hself k ?_) hnd' hne' hH (pairs_cons hL).2 (fun t ht j hj => hLL t ht j ?_) (fun h hh l hl => hap h hh l (List.mem_cons_of_mem _ hl)) hS' hh
              · constructor
                · intro hk
                  rcases List.mem_append.1 hk with h1 | h1
                  · exact ⟨List.mem_append_left _ h1, fun e => hnd1.1 (e ▸ h1)⟩
                  · exact ⟨List.mem_append_right _ (List.mem_cons_of_mem _ h1), fun e => hnd1.2 (e ▸ h1)⟩
                · rintro ⟨hk, hne⟩
                  rcases List.mem_append.1 hk with h1 | h1
                  · exact List.mem_append_left _ h1
                  · rcases List.mem_cons.1 h1 with h2 | h2
                    · exact absurd h2 hne
                    · exact List.mem_append_right _ h2
              · rcases List.mem_append.1 hk with h1 | h1
                · exact List.mem_append_left _ h1
                · exact List.mem_append_right _ (List.mem_cons_of_mem _ h1)
              · rcases List.mem_append.1 hj with h1 | h1
                · exact List.mem_append_left _ h1
                · exact List.mem_append_right _ (List.mem_cons_of_mem _ h1)
            unfold Oper.wp
            rcases hs with ⟨v, hrun, hh⟩ | ⟨f', args, hrun, hc⟩
            · rw [hrun]
              exact next v w hS hh
            · rw [hrun]
              exact hc.mono fun e w' ⟨v, he, hS', hh⟩ => by subst he; exact next v w' hS' hh
        · exfalso
          obtain ⟨j, hj⟩ : ∃ j, j ∈ H ++ L1 := by
            cases hO : H ++ L1 with
            | nil =>
              have := congrArg List.length hO
              simp only [List.length_append, List.length_nil] at this
              omega
            | cons x l => exact ⟨x, List.mem_cons_self⟩
          refine waitless j ?_ (hLL i hi2 j hj)
          rw [← List.append_assoc]
          exact List.mem_append_left _ hj

/-- **Operations that find the same in S beside a chain that stays in S; the others behind both.** -/
theorem wp_region_two {id : Nat} {a : Act} {w : World} {l : List Oper} (H L1 L2 : List Nat) (S : World → Prop) (hm : P.follows .mixedOrders = true) (hB : twoB l.toArray H L1 L2 = true) (hS : S w.drew)
    (h : wpHR P l.toArray S (fun a' => LW P l.toArray S (fun a'' w'' => wpList P l.toArray (Strict Q) (picks l L2) a'' w'') L1 a' w.drew) H a) : (Code.region id l.toArray true).wp P Q a w := by
  unfold twoB at hB
  simp only [Bool.and_eq_true, List.all_eq_true, decide_eq_true_eq, List.mem_range, List.contains_iff_mem] at hB
  obtain ⟨⟨⟨⟨⟨⟨⟨⟨⟨⟨hsel, hself⟩, hnd⟩, hall⟩, hne⟩, hH⟩, hL⟩, hLL⟩, hap⟩, hTT⟩, hlen⟩ := hB
  have hlt : ∀ k ∈ H ++ (L1 ++ L2), k < l.length := fun k hk => by
    have := hself k hk
    unfold selfOk at this
    split at this
    · rename_i o ho; simpa using (Array.getElem?_eq_some_iff.1 ho).1
    · cases this
  have hlt2 : ∀ k ∈ L2, k < l.length := fun k hk => hlt k (by simp [hk])
  have lwmono : ∀ (M : List Nat) (a' : Act) (w' : World), LW P l.toArray S (fun a'' w'' => wpList P l.toArray (Strict Q) (picks l L2) a'' w'') M a' w' → LW P l.toArray S (fun a'' w'' => wpOps P l.toArray (Strict Q) L2 a'' w'') M a' w' := by
    intro M
    induction M with
    | nil => intro a' w' h'; exact wpOps_picks L2 _ _ hlt2 h'
    | cons i M ih =>
      intro a' w' h'
      obtain ⟨o, ho, hgd, h'⟩ := h'
      refine ⟨o, ho, hgd, ?_⟩
      rcases h' with ⟨v, hr, hh⟩ | ⟨f, args, hr, hc⟩
      · exact .inl ⟨v, hr, ih _ _ hh⟩
      · exact .inr ⟨f, args, hr, hc.mono fun e w'' ⟨v, he, hS', hh⟩ => ⟨v, he, hS', ih _ _ hh⟩⟩
  have hrmono : ∀ (M : List Nat) (a' : Act), wpHR P l.toArray S (fun a' => LW P l.toArray S (fun a'' w'' => wpList P l.toArray (Strict Q) (picks l L2) a'' w'') L1 a' w.drew) M a' → wpHR P l.toArray S (fun a' => LW P l.toArray S (fun a'' w'' => wpOps P l.toArray (Strict Q) L2 a'' w'') L1 a' w.drew) M a' := by
    intro M
    induction M with
    | nil => intro a' h'; exact lwmono _ _ _ h'
    | cons i M ih =>
      intro a' h'
      obtain ⟨o, v, ho, hgd, hr, h'⟩ := h'
      exact ⟨o, v, ho, hgd, hr, ih _ h'⟩
  refine Code.wp_mono (Q := Strict Q) (fun e a w hq => by cases e <;> first | exact hq | exact hq.elim) (wp_region_any hm ?_)
  have hsum : (H ++ (L1 ++ L2)).length = H.length + L1.length + L2.length := by simp only [List.length_append]; omega
  have := wpAny_of_two (P := P) (ops := l.toArray) (Q := Q) (S := S) (L2 := L2) (g := l.toArray.size - (H.length + L1.length)) hsel (by omega) hTT (fun k hk => hself k (by simp [hk])) rfl (H.length + L1.length) H L1 (Array.replicate l.toArray.size false) a w.drew rfl (fun k => by
    constructor
    · intro hk
      have h1 := hlt k hk
      exact ⟨by simpa using h1, by simp [h1]⟩
    · rintro ⟨hk, _⟩
      exact hall k hk) (by simp) (fun i o _ hl => by rw [getD_replicate_false] at hl; cases hl) hself hnd hne hH hL hLL (fun h hh l hl => hap h hh l hl) hS (hrmono _ _ h)
  rwa [show H.length + L1.length + (l.toArray.size - (H.length + L1.length)) = l.toArray.size by omega] at this

theorem hr_read {Rr : Act → Prop} {i : Nat} {l : List Nat} {a : Act} {o : Oper} (v : Value) (ho : ops[i]? = some o) (hg : o.guard = none) (hr : ∀ w, S w → (execOp a.eval o).run P w = .ok (.value v) w) (h : wpHR P ops S Rr l (a.put o.dst v)) : wpHR P ops S Rr (i :: l) a := ⟨o, v, ho, hg, hr, h⟩
theorem lw_read {R : Act → World → Prop} {i : Nat} {l : List Nat} {a : Act} {w : World} {o : Oper} (v : Value) (ho : ops[i]? = some o) (hg : o.guard = none) (hr : (execOp a.eval o).run P w = .ok (.value v) w) (h : LW P ops S R l (a.put o.dst v) w) : LW P ops S R (i :: l) a w := ⟨o, ho, hg, .inl ⟨v, hr, h⟩⟩
theorem lw_call {R : Act → World → Prop} {i : Nat} {l : List Nat} {a : Act} {w : World} {o : Oper} (f : FuncId) (args : Array Value) (ho : ops[i]? = some o) (hg : o.guard = none) (hr : (execOp a.eval o).run P w = .ok (.enter f args) w)
    (h : Calls P f args w fun e w' => ∃ v, e = .returned v ∧ S w' ∧ LW P ops S R l (a.put o.dst v) w') : LW P ops S R (i :: l) a w := ⟨o, ho, hg, .inr ⟨f, args, hr, h⟩⟩
/-- Single operations. -/
theorem exec_load {a : Act} {w : World} {o : Oper} {p : Operand} {t : TypeId} {X : Addr} {v : Value} (ho : o.op = .load t p) (hp : a.eval p = .pointer (some X)) (hl : (loadVar t X).run P w = .ok v w) : (execOp a.eval o).run P w = .ok (.value v) w := by
  unfold execOp
  simp only [ho, Instr.loadAt, Instr.sureAddr, Sem.run_bind, Sem.run_pure, Result.andThen_ok, hp, hl]
theorem exec_move {a : Act} {w : World} {o : Oper} {p : Operand} {v : Value} (ho : o.op = .move p) (hp : a.eval p = v) : (execOp a.eval o).run P w = .ok (.value v) w := by
  unfold execOp
  simp only [ho, hp, Sem.run_pure]
end

end Go.Proofs.Ytmlifjfgelfbbaa

/-! ## Rk -/
namespace Go.Proofs.Ytmlifjfgelfbbaa
open Go Go.RowKit

section
variable {P : Program} {ops : Array Oper} {Q : Exit → Act → World → Prop} {S : Option Value → World → Prop}

/-- o yields v in whatever world of S's, whether the memory was made or not, and leaves such a world. -/
def HeldG (P : Program) (ops : Array Oper) (S : Option Value → World → Prop) (o : Oper) (v : Value) (a : Act) : Prop := ∀ b, HeldAt P ops (S b) o v a
/-- o makes memory. -/
def MakesAt (P : Program) (_ops : Array Oper) (S : Option Value → World → Prop) (o : Oper) : Prop :=
  o.guard = none ∧ ∀ (a : Act) w, S none w → ∃ v w', (execOp a.eval o).run P w = .ok (.value v) w' ∧ S (some v) w'

def gAny (P : Program) (ops : Array Oper) (S : Option Value → World → Prop) (n : Nat) (Lq : Option Value → Array Bool → Act → Prop) : Nat → Option Value → Array Bool → Act → Prop
  | 0, b, listed, a => Lq b listed a
  | f + 1, b, listed, a => Region.ready .any ops listed ≠ [] ∧ ∀ i ∈ Region.ready .any ops listed,
      (i < n ∧ ∃ oi v, ops[i]? = some oi ∧ HeldG P ops S oi v a ∧ gAny P ops S n Lq f b (listed.setIfInBounds i true) (a.put oi.dst v)) ∨
      (i = n ∧ b = none ∧ ∃ oA, ops[n]? = some oA ∧ MakesAt P ops S oA ∧ ∀ v, gAny P ops S n Lq f (some v) (listed.setIfInBounds n true) (a.put oA.dst v))

theorem wpAny_of_g {n g : Nat} {Lq : Option Value → Array Bool → Act → Prop} (hL : ∀ b listed a w, S b w → Lq b listed a → wpAny P .any ops Q g listed a w) :
    ∀ (f : Nat) (b : Option Value) (listed : Array Bool) (a : Act) (w : World), S b w → gAny P ops S n Lq f b listed a → wpAny P .any ops Q (f + g) listed a w
  | 0, b, listed, a, w, hS, h => by rw [Nat.zero_add]; exact hL b listed a w hS h
  | f + 1, b, listed, a, w, hS, h => by
    rw [show f + 1 + g = (f + g) + 1 by omega]
    refine ⟨fun h0 => absurd h0 h.1, fun i hi => ?_⟩
    rcases h.2 i hi with ⟨_, oi, v, ho, hh, hK⟩ | ⟨rfl, rfl, oA, ho, ⟨hgd, hm⟩, hK⟩
    · unfold wpOp
      simp only [ho]
      rcases hh b with ⟨hw, hr⟩ | ⟨hw, rfl⟩
      · rw [if_pos hw]
        left
        unfold Oper.wp
        rcases hr w hS with hr | ⟨f', args, hr, hc⟩
        · rw [hr]
          exact wpAny_of_g hL f _ _ _ w hS hK
        · rw [hr]
          exact hc.mono fun e w' ⟨he, hS'⟩ => by subst he; exact wpAny_of_g hL f _ _ _ w' hS' hK
      · rw [if_neg (by simp [hw])]
        exact wpAny_of_g hL f _ _ _ w hS hK
    · unfold wpOp
      simp only [ho]
      have hw : Region.wanted oA (yielded ops a.tmps) = true := by simp [Region.wanted, hgd]
      rw [if_pos hw]
      left
      unfold Oper.wp
      obtain ⟨v, w', hr, hS'⟩ := hm a w hS
      rw [hr]
      exact wpAny_of_g hL f _ _ _ w' hS' (hK v)

theorem g_first {n i : Nat} {oi : Oper} {v : Value} {Lq : Option Value → Array Bool → Act → Prop} (hA : aheadB ops (n + 1) = true) (hH : headB ops (n + 1) = true) (hi : ops[i]? = some oi) (hin : i < n)
    (hsel : ∀ (j : Nat) (o : Oper) cs b, ops[j]? = some o → o.op ≠ .select cs b)
    (hend : ∀ b listed a, Lq b listed a → ∀ j ∈ Region.ready .any ops listed, n + 1 ≤ j) :
    ∀ (f : Nat) (b : Option Value) (listed : Array Bool) (a : Act), Closed ops listed → i ∈ Region.ready .any ops listed → HeldG P ops S oi v a →
      gAny P ops S n Lq f b (listed.setIfInBounds i true) (a.put oi.dst v) → gAny P ops S n Lq (f + 1) b listed a := by
  intro f
  induction f with
  | zero =>
    intro b listed a hc hr hy H
    refine ⟨fun h => (by rw [h] at hr; cases hr), fun j hj => ?_⟩
    have hjn := ahead_of hA hc (show i < n + 1 by omega) (getD_both (mem_ready.1 hr).1) hj
    by_cases hji : j = i
    · subst hji; exact .inl ⟨hin, oi, v, hi, hy, H⟩
    · exact absurd (hend _ _ _ H j (ready_mono hj hji)) (by omega)
  | succ f ih =>
    intro b listed a hc hr hy H
    have hiu := (mem_ready.1 hr).1
    refine ⟨fun h => (by rw [h] at hr; cases hr), fun j hj => ?_⟩
    have hjn := ahead_of hA hc (show i < n + 1 by omega) (getD_both hiu) hj
    by_cases hji : j = i
    · subst hji; exact .inl ⟨hin, oi, v, hi, hy, H⟩
    · obtain ⟨hju, oj, hoj, _⟩ := mem_ready.1 hj
      have hap : oi.apart ops oj = true := by
        rcases headB_apart hH (show i < n + 1 by omega) hjn hji hi hoj with h | h | h
        · exact h
        · have := hc.ready hj h
          rw [getD_both hiu] at this; cases this
        · have := hc.ready hr h
          rw [getD_both hju] at this; cases this
      rcases H.2 j (ready_mono hj hji) with ⟨hjn', oj', u, hoj', hhj, hK⟩ | ⟨rfl, rfl, oA, hoA, hm, hK⟩
      · rw [hoj] at hoj'
        cases hoj'
        refine .inl ⟨hjn', oj, u, hoj, fun b => (hhj b).unput hap (fun cs b => hsel j oj cs b hoj), ih b (listed.setIfInBounds j true) (a.put oj.dst u) (hc.set hj) (ready_mono hr (Ne.symm hji)) (fun b => (hy b).put hap fun cs b => hsel i oi cs b hi) ?_⟩
        rw [Array.setIfInBounds_comm _ _ hji, Act.put_comm a u v (fun d hd hd' => (Oper.apart_spec hap).2.1 d hd' hd)]
        exact hK
      · rw [hoj] at hoA
        cases hoA
        refine .inr ⟨rfl, rfl, oj, hoj, hm, fun u => ih (some u) (listed.setIfInBounds j true) (a.put oj.dst u) (hc.set hj) (ready_mono hr (Ne.symm hji)) (fun b => (hy b).put hap fun cs b => hsel i oi cs b hi) ?_⟩
        rw [Array.setIfInBounds_comm _ _ hji, Act.put_comm a u v (fun d hd hd' => (Oper.apart_spec hap).2.1 d hd' hd)]
        exact hK u

/-- The operations in the order of the text; the last one makes memory. -/
def wpHeldG (P : Program) (ops : Array Oper) (S : Option Value → World → Prop) (R : Value → Act → Prop) (oA : Oper) : List Oper → Act → Prop
  | [], a => ∀ v, R v (a.put oA.dst v)
  | o :: rest, a => ∃ v, HeldG P ops S o v a ∧ wpHeldG P ops S R oA rest (a.put o.dst v)

theorem g_lex {n : Nat} {Lq : Value → Act → Prop} {oA : Oper} (hA : aheadB ops (n + 1) = true) (hH : headB ops (n + 1) = true) (hsel : ∀ (j : Nat) (o : Oper) cs b, ops[j]? = some o → o.op ≠ .select cs b) (hoA : ops[n]? = some oA) (hm : MakesAt P ops S oA) :
    ∀ (l : List Oper) (k : Nat) (listed : Array Bool) (a : Act), (∀ j, j < l.length → l[j]? = ops[k + j]?) → k + l.length = n → UpTo ops k listed →
      wpHeldG P ops S Lq oA l a → gAny P ops S n (fun b listed' a' => UpTo ops (n + 1) listed' ∧ ∃ v, b = some v ∧ Lq v a') (l.length + 1) none listed a
  | [], k, listed, a, _, hk, hu, h => by
    obtain rfl : k = n := by simpa using hk
    obtain ⟨hr, hu'⟩ := hu.next hH (show k < k + 1 by omega) hoA
    refine ⟨fun h => (by rw [h] at hr; cases hr), fun j hj => ?_⟩
    have hjn := ahead_of hA hu.1 (show k < k + 1 by omega) (getD_both (mem_ready.1 hr).1) hj
    have hjk : j = k := by
      obtain ⟨hj0, oj, hoj, _⟩ := mem_ready.1 hj
      rw [hu.un (Array.getElem?_eq_some_iff.1 hoj).1] at hj0
      simp at hj0
      omega
    subst hjk
    exact .inr ⟨rfl, rfl, oA, hoA, hm, fun v => ⟨hu', v, rfl, h v⟩⟩
  | o :: l, k, listed, a, hl, hk, hu, h => by
    have h0 : ops[k]? = some o := by simpa using (hl 0 (by simp)).symm
    have hkn : k < n := by simp only [List.length_cons] at hk; omega
    obtain ⟨hr, hu'⟩ := hu.next hH (show k < n + 1 by omega) h0
    obtain ⟨v, hy, hK⟩ := h
    refine g_first hA hH h0 hkn hsel (fun b listed' a' hL j hj => ?_) (l.length + 1) none listed a hu.1 hr hy
      (g_lex hA hH hsel hoA hm l (k + 1) _ _ (fun j hj => by have := hl (j + 1) (by simp; omega); simpa [Nat.add_assoc, Nat.add_comm 1 j] using this) (by simp only [List.length_cons] at hk; omega) hu' hK)
    obtain ⟨hj0, oj, hoj, _⟩ := mem_ready.1 hj
    rw [hL.1.un (Array.getElem?_eq_some_iff.1 hoj).1] at hj0
    simpa using hj0

/-- **The first n find the same whatever has come up, number n makes memory; the others are walked in the order L.** -/
theorem wp_region_held_make {id : Nat} {a : Act} {w : World} {l : List Oper} (n : Nat) (L : List Nat) (S : Option Value → World → Prop) (hm : P.follows .mixedOrders = true) (hB : stillLineB P l.toArray (n + 1) L = true) (hS : S none w.drew)
    {oA : Oper} (hoA : l[n]? = some oA) (hmk : MakesAt P l.toArray S oA)
    (h : wpHeldG P l.toArray S (fun v a' => ∀ w', S (some v) w' → wpList P l.toArray (Shaped P l.toArray Q) (picks l L) a' w') oA (l.take n) a) : (Code.region id l.toArray true).wp P Q a w := by
  unfold stillLineB at hB
  simp only [Bool.and_eq_true, List.all_eq_true, decide_eq_true_eq, List.mem_range, Bool.or_eq_true, List.contains_iff_mem] at hB
  obtain ⟨⟨⟨⟨⟨⟨⟨hsel, hn⟩, hA⟩, hH⟩, hself⟩, hall⟩, hpairs⟩, hlen⟩ := hB
  have hn' : n + 1 ≤ l.length := by simpa using hn
  have htl : (l.take n).length = n := by simp; omega
  have hlt : ∀ k ∈ L, k < l.length := fun k hk => by
    have := (hself k hk).1
    unfold selfOk at this
    split at this
    · rename_i o ho; simpa using (Array.getElem?_eq_some_iff.1 ho).1
    · cases this
  have hu : UpTo l.toArray 0 (Array.replicate l.toArray.size false) := by
    refine ⟨fun i o _ hl => ?_, by simp, fun j hj => ?_⟩
    · rw [getD_replicate_false] at hl; cases hl
    · rw [getD_replicate_false]; simp
  have H := g_lex (P := P) (S := S) hA hH (Region.noSelect_spec hsel) (by simpa using hoA) hmk (l.take n) 0 _ a (fun j hj => by
    have hj' : j < n := by rw [htl] at hj; exact hj
    simp [hj']) (by simpa using htl) hu h
  refine Code.wp_mono (Q := Strict Q) (fun e a w hq => by cases e <;> first | exact hq | exact hq.elim) (wp_region_any hm ?_)
  have := wpAny_of_g (Q := Strict Q) (g := l.toArray.size - (n + 1)) (fun b listed a' w' hS' hL => by
    obtain ⟨hL1, v, rfl, hL2⟩ := hL
    refine wpAny_of_order hsel (l.toArray.size - (n + 1)) listed L a' _ (fun k => ?_) hL1.2.1 hL1.1 hlen (fun k hk => (hself k hk).1) hpairs (wpOps_picks L _ _ hlt (hL2 w' hS'))
    constructor
    · intro hk
      have h1 := hlt k hk
      refine ⟨by simpa using h1, ?_⟩
      rw [hL1.un (by simpa using h1)]
      simpa using (hself k hk).2
    · rintro ⟨hk, hk0⟩
      rw [hL1.un hk] at hk0
      rcases hall k hk with h1 | h1
      · simp [h1] at hk0
      · exact h1) _ _ _ _ _ hS H
  rw [htl, show n + 1 + (l.toArray.size - (n + 1)) = l.toArray.size by simp at hn ⊢; omega] at this
  exact this

theorem g_skip {R : Value → Act → Prop} {oA : Oper} {a : Act} : (∀ v, R v (a.put oA.dst v)) → wpHeldG P ops S R oA [] a := id
theorem g_read {R : Value → Act → Prop} {oA o : Oper} {rest : List Oper} {a : Act} (v : Value) (hw : Region.wanted o (yielded ops a.tmps) = true) (hr : ∀ b w, S b w → (execOp a.eval o).run P w = .ok (.value v) w) (h : wpHeldG P ops S R oA rest (a.put o.dst v)) : wpHeldG P ops S R oA (o :: rest) a :=
  ⟨v, fun b => .inl ⟨hw, fun w hS => .inl (hr b w hS)⟩, h⟩
theorem g_call {R : Value → Act → Prop} {oA o : Oper} {rest : List Oper} {a : Act} (v : Value) (f : FuncId) (args : Array Value) (hw : Region.wanted o (yielded ops a.tmps) = true) (hr : ∀ w, (execOp a.eval o).run P w = .ok (.enter f args) w)
    (hc : ∀ b w, S b w → Calls P f args w (fun e w' => e = .returned v ∧ S b w')) (h : wpHeldG P ops S R oA rest (a.put o.dst v)) : wpHeldG P ops S R oA (o :: rest) a :=
  ⟨v, fun b => .inl ⟨hw, fun w hS => .inr ⟨f, args, hr w, hc b w hS⟩⟩, h⟩
/-- What holds, and beside it the block that is made. -/
def MadeS (w0 : World) (A : HP) (c : Array Value) (t : TypeId) : Option Value → World → Prop
  | none, w => At w0 A w
  | some v, w => ∃ g, v = .pointer (some ⟨g, 0, none⟩) ∧ At w0 (cel g c t * A) w
theorem MadeS.at {w0 : World} {A : HP} {c : Array Value} {t : TypeId} {b : Option Value} {w : World} (h : MadeS w0 A c t b w) : At w0 A w := by
  cases b with
  | none => exact h
  | some v => obtain ⟨g, _, h⟩ := h; exact h.r
theorem makes_alloc' {w0 : World} {A : HP} {t : TypeId} {o : Oper} (hg : o.guard = none) (ho : o.op = .alloc t) {c : Array Value} (hr : ∀ w, (zeroValue t).run P w = .ok (.agg c) w) : MakesAt P ops (MadeS w0 A c t) o := by
  refine ⟨hg, fun a w hS => ⟨_, _, ?_, w.heap.size, rfl, At.alloc (o := .cells c t) hS⟩⟩
  unfold execOp
  simp only [ho, Instr.alloc, newVar, newRow, Sem.run_bind, hr, Result.andThen_ok, Value.cells]
  rfl
/-- A contract that leaves all there is. -/
theorem MadeS.call {w0 : World} {A : HP} {c : Array Value} {t : TypeId} {f : FuncId} {args : Array Value} {v : Value} (h : ∀ (X : HP) (w : World), At w0 (X * A) w → Calls P f args w fun e w' => e = .returned v ∧ At w0 (X * A) w') (b : Option Value) (w : World) (hS : MadeS w0 A c t b w) :
    Calls P f args w fun e w' => e = .returned v ∧ MadeS w0 A c t b w' := by
  cases b with
  | none =>
    have := h 1 w (hS.cast (HP.one_mul A).symm)
    exact this.mono fun e w' ⟨he, h1⟩ => ⟨he, h1.cast (HP.one_mul A)⟩
  | some u =>
    obtain ⟨g, hu, hS⟩ := hS
    exact (h (cel g c t) w hS).mono fun e w' ⟨he, h1⟩ => ⟨he, g, hu, h1⟩
end

end Go.Proofs.Ytmlifjfgelfbbaa
