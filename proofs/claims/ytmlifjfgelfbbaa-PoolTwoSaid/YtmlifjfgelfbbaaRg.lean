/-
  A statement whose operations may run in several orders: in one order is enough, where the others can't be told from it. Laws of the model's alone; no program of Go's is spoken of.
-/
import Derived.WalkKit
import Derived.OrdersHeld
namespace Go.Proofs.Ytmlifjfgelfbbaa
open Go Go.RowKit

/-! ### What an operation leaves of the world -/
/-- The old blocks are as they were. -/
def Ext (w w2 : World) : Prop := ∀ (k : Nat) (o : Obj), w.heap[k]? = some o → w2.heap[k]? = some o
theorem Ext.refl (w : World) : Ext w w := fun _ _ h => h
theorem Ext.trans {a b c : World} (h : Ext a b) (k : Ext b c) : Ext a c := fun i o e => k i o (h i o e)

section
variable {α β : Type} (P : Program)

/-- It yields the same in every world and leaves it; or it halts in every world. -/
def Calm (s : Sem α) : Prop := (∃ x, ∀ w, s.run P w = .ok x w) ∨ (∀ w, ∃ h w', s.run P w = .halt h w')
/-- It leaves the world, and yields the same where the blocks that are there are as they are; or it halts. -/
def Reads (s : Sem α) : Prop := ∀ w, (∃ x, s.run P w = .ok x w ∧ ∀ w2, Ext w w2 → s.run P w2 = .ok x w2) ∨ (∃ h w', s.run P w = .halt h w')
/-- It lays new blocks alone. -/
def Lays (s : Sem α) : Prop := ∀ w x w', s.run P w = .ok x w' → Ext w w'

variable {P}
theorem Calm.reads {s : Sem α} (h : Calm P s) : Reads P s := fun w => by
  rcases h with ⟨x, hx⟩ | hh
  · exact .inl ⟨x, hx w, fun w2 _ => hx w2⟩
  · exact .inr (hh w)
theorem Reads.lays {s : Sem α} (h : Reads P s) : Lays P s := fun w x w' e => by
  rcases h w with ⟨y, hy, _⟩ | ⟨g, w2, hg⟩
  · rw [hy] at e; cases e; exact Ext.refl w
  · rw [hg] at e; cases e

theorem Calm.pure (a : α) : Calm P (Pure.pure a : Sem α) := .inl ⟨a, fun _ => rfl⟩
theorem Calm.halt (h : Halt) : Calm P (Sem.halt h : Sem α) := .inr fun w => ⟨h, w, rfl⟩
theorem Calm.stuck (s : String) : Calm P (Go.stuck s : Sem α) := Calm.halt _
theorem Calm.unsupported (u : Unsupported) : Calm P (Go.unsupported u : Sem α) := Calm.halt _
theorem Calm.goPanic (v : Value) : Calm P (Go.goPanic v : Sem α) := Calm.halt _
theorem Calm.bind {s : Sem α} {f : α → Sem β} (h : Calm P s) (hf : ∀ x, Calm P (f x)) : Calm P (s >>= f) := by
  rcases h with ⟨x, hx⟩ | hh
  · rcases hf x with ⟨y, hy⟩ | hh
    · exact .inl ⟨y, fun w => by rw [Sem.run_bind, hx w]; exact hy w⟩
    · exact .inr fun w => by obtain ⟨g, w', e⟩ := hh w; exact ⟨g, w', by rw [Sem.run_bind, hx w]; exact e⟩
  · exact .inr fun w => by obtain ⟨g, w', e⟩ := hh w; exact ⟨g, w', by rw [Sem.run_bind, e]; rfl⟩
theorem Calm.program : Calm P Go.program := .inl ⟨P, fun _ => rfl⟩
theorem Reads.bind {s : Sem α} {f : α → Sem β} (h : Reads P s) (hf : ∀ x, Reads P (f x)) : Reads P (s >>= f) := fun w => by
  rcases h w with ⟨x, hx, hx2⟩ | ⟨g, w', e⟩
  · rcases hf x w with ⟨y, hy, hy2⟩ | ⟨g, w', e⟩
    · exact .inl ⟨y, by rw [Sem.run_bind, hx]; exact hy, fun w2 he => by rw [Sem.run_bind, hx2 w2 he]; exact hy2 w2 he⟩
    · exact .inr ⟨g, w', by rw [Sem.run_bind, hx]; exact e⟩
  · exact .inr ⟨g, w', by rw [Sem.run_bind, e]; rfl⟩
theorem Lays.bind {s : Sem α} {f : α → Sem β} (h : Lays P s) (hf : ∀ x, Lays P (f x)) : Lays P (s >>= f) := fun w x w' e => by
  rw [Sem.run_bind] at e
  cases hs : s.run P w with
  | ok y w1 =>
    rw [hs] at e
    exact (h w y w1 hs).trans (hf y w1 x w' e)
  | halt g w1 => rw [hs] at e; cases e
theorem Calm.lays {s : Sem α} (h : Calm P s) : Lays P s := h.reads.lays

theorem Lays.newObj (o : Obj) : Lays P (newObj o) := fun w x w' e => by
  have e' : (Result.ok w.heap.size { w with heap := w.heap.push o } : Result Nat) = .ok x w' := e
  cases e'
  intro k y hk
  show (w.heap.push o)[k]? = some y
  rw [Array.getElem?_push, if_neg (by have := (Array.getElem?_eq_some_iff.1 hk).1; omega)]
  exact hk
theorem Lays.choose (q : Question) : Lays P (choose q) := fun w x w' e => by
  simp only [Go.choose, Sem.run] at e
  split at e
  · cases e; exact Ext.refl w
  · cases e; exact fun _ _ h => h

theorem Ext.cell {w w2 : World} (h : Ext w w2) {a : Addr} {v : Value} (hv : w.cell? a = some v) : w2.cell? a = some v := by
  have hlt := World.block_lt_of_cell? w a hv
  have hb : w.heap[a.block]? = some w.heap[a.block] := Array.getElem?_eq_getElem hlt
  rw [World.cell?_of_block (w := w) ((h _ _ hb).trans hb.symm)]
  exact hv
theorem Ext.none {w w2 : World} (h : Ext w w2) {a : Addr} {o : Obj} (hb : w.heap[a.block]? = some o) : w2.cell? a = w.cell? a :=
  World.cell?_of_block ((h _ _ hb).trans hb.symm)

theorem seen_ext {w w2 : World} (h : Ext w w2) {at_ : Addr} {u : TypeId} {k : Addr} {at1 : Bool} {r} (e : w.seen P at_ u k at1 = .ok r) : w2.seen P at_ u k at1 = .ok r := by
  unfold World.seen at e ⊢
  cases hb : w.heap[at_.block]? with
  | none =>
    rw [hb] at e
    exfalso
    revert e
    simp only [bind, Except.bind]
    repeat' split
    all_goals (try simp_all)
  | some o =>
    rw [h _ _ hb]
    rw [hb] at e
    exact e
theorem viewLoad_ext {w w2 : World} (h : Ext w w2) {at_ : Addr} {u : TypeId} {k : Addr} {at1 : Bool} {r} (e : w.viewLoad P at_ u k at1 = .ok r) : w2.viewLoad P at_ u k at1 = .ok r := by
  unfold World.viewLoad at e ⊢
  cases hs : w.seen P at_ u k at1 with
  | error x => rw [hs] at e; simp [bind, Except.bind] at e
  | ok x => rw [seen_ext h hs]; rw [hs] at e; exact e

theorem Reads.load (a : Addr) (m : Mode) : Reads P (Go.load a m) := fun w => by
  rw [run_load]
  cases hc : w.cell? a with
  | some v => exact .inl ⟨v, rfl, fun w2 he => by rw [run_load, he.cell hc]⟩
  | none =>
    simp only []
    cases hf : w.farLoad P a (m == .atomic) with
    | error x => exact .inr ⟨x, w, rfl⟩
    | ok x =>
      refine .inl ⟨x.1, rfl, fun w2 he => ?_⟩
      unfold World.farLoad at hf
      split at hf
      · rename_i at_ u hb
        rw [run_load, he.none hb, hc]
        simp only []
        have : w2.farLoad P a (m == .atomic) = .ok x := by
          unfold World.farLoad
          rw [he _ _ hb]
          simp only []
          cases hv : w.viewLoad P at_ u a (m == .atomic) with
          | error y => rw [hv] at hf; cases hf
          | ok y => rw [viewLoad_ext he hv]; rw [hv] at hf; exact hf
        rw [this]
      · cases hf

theorem Calm.ite {c : Prop} [Decidable c] {x y : Sem α} (hx : Calm P x) (hy : Calm P y) : Calm P (if c then x else y) := by split <;> assumption
theorem Reads.ite {c : Prop} [Decidable c] {x y : Sem α} (hx : Reads P x) (hy : Reads P y) : Reads P (if c then x else y) := by split <;> assumption
theorem Lays.mapM {γ : Type} (xs : Array γ) {f : γ → Sem β} (hf : ∀ x, Lays P (f x)) : Lays P (xs.mapM f) := by
  rw [Array.mapM_eq_mapM_toList]
  have hl : ∀ l : List γ, Lays P (l.mapM f) := by
    intro l
    induction l with
    | nil => exact (Calm.pure _).lays
    | cons x l ih => rw [List.mapM_cons]; exact (hf x).bind fun _ => ih.bind fun _ => (Calm.pure _).lays
  intro w x w' e
  rw [Sem.run_map] at e
  cases hs : (xs.toList.mapM f).run P w with
  | ok y w1 => rw [hs] at e; cases e; exact hl _ w y _ hs
  | halt g w1 => rw [hs] at e; cases e
theorem Lays.ite {c : Prop} [Decidable c] {x y : Sem α} (hx : Lays P x) (hy : Lays P y) : Lays P (if c then x else y) := by split <;> assumption

/-- It halts, whatever the world. -/
def Dies (P : Program) (s : Sem α) : Prop := ∀ w, ∃ h w', s.run P w = .halt h w'
theorem Dies.calm {s : Sem α} (h : Dies P s) : Calm P s := .inr h
theorem Dies.bind_r {s : Sem α} {f : α → Sem β} (hf : ∀ x, Dies P (f x)) : Dies P (s >>= f) := fun w => by
  rw [Sem.run_bind]
  cases hs : s.run P w with
  | ok y w1 => exact hf y w1
  | halt g w1 => exact ⟨g, w1, rfl⟩
theorem Dies.halt (h : Halt) : Dies P (Sem.halt h : Sem α) := fun w => ⟨h, w, rfl⟩
theorem Dies.runtimePanic (e : RuntimeError) : Dies P (Go.runtimePanic e : Sem α) := by
  unfold Go.runtimePanic
  refine Dies.bind_r fun p => ?_
  cases e <;> first | exact Dies.halt _ | exact Dies.bind_r fun _ => Dies.bind_r fun _ => Dies.halt _
theorem Dies.boundsPanic (k : IntKind) (x y : Int) (c : BoundsCode) : Dies P (Go.boundsPanic k x y c : Sem α) := by
  unfold Go.boundsPanic
  dsimp only
  split <;> exact Dies.bind_r fun _ => Dies.runtimePanic _

theorem Calm.typeInfo (t : TypeId) : Calm P (Go.typeInfo t) := by
  unfold Go.typeInfo
  refine Calm.program.bind fun p => ?_
  split
  · exact Calm.pure _
  · exact Calm.stuck _
theorem Calm.underlying (t : TypeId) : Calm P (Go.underlying t) := by
  unfold Go.underlying
  refine Calm.program.bind fun p => ?_
  split
  · exact Calm.pure _
  · exact Calm.stuck _
theorem Calm.sizeOf (t : TypeId) : Calm P (Go.sizeOf t) := (Calm.typeInfo t).bind fun _ => Calm.pure _
theorem Calm.zeroValue (t : TypeId) : Calm P (Go.zeroValue t) := by
  unfold Go.zeroValue
  refine (Calm.typeInfo t).bind fun i => ?_
  split
  · exact Calm.pure _
  · exact Calm.unsupported _
theorem Calm.isAgg (t : TypeId) : Calm P (Go.isAgg t) := by
  unfold Go.isAgg
  refine (Calm.underlying t).bind fun d => ?_
  split <;> exact Calm.pure _
theorem Calm.asIntOf (v : Value) : Calm P (Go.asIntOf v) := by
  unfold Go.asIntOf
  split
  · exact Calm.pure _
  · exact Calm.unsupported _
  · exact Calm.stuck _
theorem Calm.asBool (v : Value) : Calm P (Go.asBool v) := by
  unfold Go.asBool
  split
  · exact Calm.pure _
  · exact Calm.stuck _
theorem Calm.asAgg (v : Value) : Calm P (Go.asAgg v) := by
  unfold Go.asAgg
  split
  · exact Calm.pure _
  · exact Calm.stuck _
theorem Calm.sureAddr (v : Value) : Calm P (Instr.sureAddr v) := by
  unfold Instr.sureAddr
  split
  · exact Calm.pure _
  · exact Calm.stuck _
theorem Calm.asAddr (v : Value) : Calm P (Go.asAddr v) := by
  unfold Go.asAddr
  split
  · exact Calm.pure _
  · exact (Dies.runtimePanic _).calm
  · exact Calm.stuck _
theorem Calm.part (t : TypeId) (cs : Array Value) (off : Nat) : Calm P (Go.part t cs off) := by
  unfold Go.part
  refine (Calm.isAgg t).bind fun b => ?_
  split
  · exact (Calm.sizeOf t).bind fun _ => Calm.pure _
  · split
    · exact Calm.pure _
    · exact Calm.stuck _

theorem Reads.loadCellsFrom (a : Addr) : ∀ (n i : Nat) (acc : Array Value), Reads P (Go.loadCellsFrom a i n acc)
  | 0, _, _ => (Calm.pure _).reads
  | n + 1, i, acc => (Reads.load _ _).bind fun v => Reads.loadCellsFrom a n (i + 1) (acc.push v)
theorem Reads.loadVar (t : TypeId) (a : Addr) : Reads P (Go.loadVar t a) := by
  unfold Go.loadVar
  refine (Calm.isAgg t).reads.bind fun b => ?_
  split
  · exact ((Calm.sizeOf t).reads.bind fun n => (Reads.loadCellsFrom a n 0 #[]).bind fun _ => (Calm.pure _).reads)
  · exact Reads.load _ _

theorem Calm.sliceBound (x : Value) (y : Nat) (c : BoundsCode) : Calm P (Instr.sliceBound x y c) := by
  unfold Instr.sliceBound
  refine (Calm.asIntOf x).bind fun ⟨k, i⟩ => ?_
  simp only []
  split
  · exact Calm.pure _
  · exact (Dies.boundsPanic _ _ _ _).calm
theorem Calm.sliceBounds (b : Bool) (len cap : Nat) (lo hi mx : Option Value) : Calm P (Instr.sliceBounds b len cap lo hi mx) := by
  unfold Instr.sliceBounds
  dsimp only
  repeat' (first | exact Calm.pure _ | exact Calm.stuck _ | exact Calm.sliceBound _ _ _ | split | refine Calm.bind ?_ fun _ => ?_)
theorem Calm.slice (t : TypeId) (x : Value) (lo hi mx : Option Value) : Calm P (Instr.slice t x lo hi mx) := by
  unfold Instr.slice
  refine (Calm.underlying t).bind fun d => ?_
  repeat' (first | exact Calm.pure _ | exact Calm.stuck _ | exact Calm.sliceBounds _ _ _ _ _ _ | exact Calm.sizeOf _ | exact Calm.asAddr _ | exact Calm.underlying _ | split | refine Calm.bind ?_ fun _ => ?_ | refine Calm.ite ?_ ?_ | dsimp only)
theorem Calm.sliceAt (t : TypeId) (x : Value) (lo hi mx : Option Value) : Calm P (Instr.sliceAt t x lo hi mx) := by
  unfold Instr.sliceAt
  refine (Calm.underlying t).bind fun d => ?_
  split
  · exact (Calm.sureAddr _).bind fun a => (Calm.sliceBounds _ _ _ _ _ _).bind fun ⟨l, h, _⟩ => (Calm.sizeOf _).bind fun _ => Calm.pure _
  · exact Calm.slice _ _ _ _ _
theorem Calm.indexAt (t : TypeId) (x ix : Value) : Calm P (Instr.indexAt t x ix) := by
  unfold Instr.indexAt
  refine (Calm.asIntOf ix).bind fun ⟨k, i⟩ => (Calm.underlying t).bind fun d => ?_
  dsimp only
  repeat' (first | exact Calm.pure _ | exact Calm.stuck _ | exact Calm.unsupported _ | exact (Dies.boundsPanic _ _ _ _).calm | exact Calm.sureAddr _ | exact Calm.sizeOf _ | exact Calm.underlying _ | split | refine Calm.bind ?_ fun _ => ?_ | refine Calm.ite ?_ ?_ | dsimp only)
theorem Calm.index (t : TypeId) (x ix : Value) : Calm P (Instr.index t x ix) := by
  unfold Instr.index
  refine (Calm.asIntOf ix).bind fun ⟨k, i⟩ => (Calm.underlying t).bind fun d => ?_
  repeat' (first | exact Calm.pure _ | exact Calm.stuck _ | exact (Dies.boundsPanic _ _ _ _).calm | exact Calm.part _ _ _ | exact Calm.sizeOf _ | exact Calm.underlying _ | split | refine Calm.bind ?_ fun _ => ?_ | refine Calm.ite ?_ ?_ | dsimp only)
theorem Calm.field (t : TypeId) (x : Value) (f : Nat) : Calm P (Instr.field t x f) := by
  unfold Instr.field
  refine (Calm.underlying t).bind fun d => ?_
  split
  · split
    · exact (Calm.asAgg _).bind fun _ => Calm.part _ _ _
    · exact Calm.stuck _
  · exact Calm.stuck _
theorem Calm.extract (x : Value) (i : Nat) : Calm P (Instr.extract x i) := by
  unfold Instr.extract
  split
  · split
    · exact Calm.pure _
    · exact Calm.stuck _
  · exact Calm.stuck _
theorem Calm.makeInterface (t : TypeId) (x : Value) : Calm P (Instr.makeInterface t x) := by
  unfold Instr.makeInterface
  refine (Calm.underlying t).bind fun d => ?_
  split
  · exact Calm.stuck _
  · exact Calm.pure _
theorem Calm.intArith (op : BinOp) (k : IntKind) (x y : Int) : Calm P (Op.intArith op k x y) := by
  unfold Op.intArith
  split <;> first | exact Calm.pure _ | exact Calm.stuck _
theorem Calm.intDiv (op : BinOp) (k : IntKind) (x y : Int) : Calm P (Op.intDiv op k x y) := by
  unfold Op.intDiv
  split
  · exact (Dies.runtimePanic _).calm
  · split <;> first | exact Calm.pure _ | exact Calm.stuck _
theorem Calm.intBits (op : BinOp) (k : IntKind) (x y : Int) : Calm P (Op.intBits op k x y) := by
  unfold Op.intBits
  simp only []
  split <;> first | exact Calm.pure _ | exact Calm.stuck _
theorem Calm.intCmp (op : BinOp) (x y : Int) : Calm P (Op.intCmp op x y) := by
  unfold Op.intCmp
  split <;> first | exact Calm.pure _ | exact Calm.stuck _
theorem Calm.shift (op : BinOp) (k : IntKind) (x : Int) (k' : IntKind) (y : Int) : Calm P (Op.shift op k x k' y) := by
  unfold Op.shift
  split
  · exact (Dies.runtimePanic _).calm
  · simp only []
    split <;> first | exact Calm.pure _ | exact Calm.stuck _
theorem Calm.stringOp (op : BinOp) (x y : ByteArray) : Calm P (Op.stringOp op x y) := by
  unfold Op.stringOp
  simp only []
  split <;> first | exact Calm.pure _ | exact Calm.stuck _ | exact Calm.ite (Calm.unsupported _) (Calm.pure _)
theorem Calm.unary (op : UnOp) (x : Value) : Calm P (Op.unary op x) := by
  unfold Op.unary
  split <;> first | exact Calm.pure _ | exact Calm.stuck _ | exact Calm.unsupported _ | exact Calm.intArith _ _ _ _ | exact Calm.intBits _ _ _ _

/-- Cells without inner parts that are compared by what they are. -/
def scal : Value → Bool
  | .int _ _ | .string _ | .bool _ => true
  | _ => false
def flat : Value → Bool
  | .agg cs => cs.all scal
  | v => scal v

def CalmG (P : Program) (G : α → Prop) (s : Sem α) : Prop := (∃ x, G x ∧ ∀ w, s.run P w = .ok x w) ∨ (∀ w, ∃ h w', s.run P w = .halt h w')
theorem CalmG.bind {G : α → Prop} {s : Sem α} {f : α → Sem β} (h : CalmG P G s) (hf : ∀ x, G x → Calm P (f x)) : Calm P (s >>= f) := by
  rcases h with ⟨x, hg, hx⟩ | hh
  · rcases hf x hg with ⟨y, hy⟩ | hh
    · exact .inl ⟨y, fun w => by rw [Sem.run_bind, hx w]; exact hy w⟩
    · exact .inr fun w => by obtain ⟨g, w', e⟩ := hh w; exact ⟨g, w', by rw [Sem.run_bind, hx w]; exact e⟩
  · exact .inr fun w => by obtain ⟨g, w', e⟩ := hh w; exact ⟨g, w', by rw [Sem.run_bind, e]; rfl⟩
theorem Calm.bindG {G : β → Prop} {s : Sem α} {f : α → Sem β} (h : Calm P s) (hf : ∀ x, CalmG P G (f x)) : CalmG P G (s >>= f) := by
  rcases h with ⟨x, hx⟩ | hh
  · rcases hf x with ⟨y, hg, hy⟩ | hh
    · exact .inl ⟨y, hg, fun w => by rw [Sem.run_bind, hx w]; exact hy w⟩
    · exact .inr fun w => by obtain ⟨g, w', e⟩ := hh w; exact ⟨g, w', by rw [Sem.run_bind, hx w]; exact e⟩
  · exact .inr fun w => by obtain ⟨g, w', e⟩ := hh w; exact ⟨g, w', by rw [Sem.run_bind, e]; rfl⟩
theorem CalmG.pure {G : α → Prop} {x : α} (h : G x) : CalmG P G (Pure.pure x : Sem α) := .inl ⟨x, h, fun _ => rfl⟩

theorem scal_flat {v : Value} (h : scal v = true) : flat v = true := by
  cases v <;> first | exact h | (simp [scal] at h)

theorem part_flat {cs : Array Value} (h : cs.all scal = true) (t : TypeId) (off : Nat) : CalmG P (fun v => flat v = true) (part t cs off) := by
  unfold part
  refine Calm.bindG ?_ fun b => ?_
  · unfold isAgg
    refine (Calm.underlying t).bind fun d => ?_
    cases d <;> exact Calm.pure _
  · cases b with
    | true =>
      refine Calm.bindG ?_ fun n => ?_
      · unfold sizeOf
        refine Calm.bind ?_ fun _ => Calm.pure _
        unfold typeInfo
        refine Calm.program.bind fun p => ?_
        cases p.info? t <;> first | exact Calm.pure _ | exact Calm.stuck _
      · refine CalmG.pure ?_
        simp only [flat, Array.all_eq_true_iff_forall_mem] at h ⊢
        intro x hx
        exact h x (by
          obtain ⟨i, hi, rfl⟩ := Array.mem_iff_getElem.1 hx
          simp)
    | false =>
      cases hc : cs[off]? with
      | none => exact .inr fun w => ⟨_, w, rfl⟩
      | some v =>
        refine CalmG.pure (scal_flat ?_)
        simp only [Array.all_eq_true_iff_forall_mem] at h
        exact h v (Array.mem_of_getElem? hc)

theorem Calm.forList {l : List α} {f : α → β → Sem (ForInStep β)} (h : ∀ a s, Calm P (f a s)) : ∀ (s : β), Calm P (forIn l s f) := by
  induction l with
  | nil => exact fun s => Calm.pure _
  | cons a l ih =>
    intro s
    rw [List.forIn_cons]
    refine (h a s).bind fun r => ?_
    cases r with
    | done b => exact Calm.pure _
    | yield b => exact ih b
theorem Calm.forArray {l : Array α} {f : α → β → Sem (ForInStep β)} (h : ∀ a s, Calm P (f a s)) (s : β) : Calm P (forIn l s f) := by
  rw [← Array.forIn_toList]
  exact Calm.forList h s
theorem Calm.forRange {r : Std.Legacy.Range} {f : Nat → β → Sem (ForInStep β)} (h : ∀ a s, Calm P (f a s)) (s : β) : Calm P (forIn r s f) := by
  rw [Std.Legacy.Range.forIn_eq_forIn_range']
  exact Calm.forList h s
theorem equalIn_flat : ∀ (d : Nat) (t : TypeId) (x y : Value), flat x = true → flat y = true → Calm P (Op.equalIn d t x y) := by
  intro d
  induction d with
  | zero => exact fun _ _ _ _ _ => Calm.unsupported _
  | succ d ih =>
    intro t x y hx hy
    unfold Op.equalIn
    refine (Calm.underlying t).bind fun u => ?_
    cases x <;> first | (simp [flat, scal] at hx; done) | skip
    all_goals cases y <;> first | (simp [flat, scal] at hy; done) | skip
    all_goals cases u <;> first | exact Calm.pure _ | exact Calm.stuck _ | exact Calm.ite (Calm.pure _) (Calm.stuck _) | skip
    case agg.agg.array =>
      refine (Calm.sizeOf _).bind fun n => (Calm.forRange (fun i s => ?_) _).bind fun s => ?_
      · refine (part_flat (by simpa [flat] using hx) _ _).bind fun v hv => (part_flat (by simpa [flat] using hy) _ _).bind fun v' hv' => (ih _ _ _ hv hv').bind fun b => ?_
        split <;> exact Calm.pure _
      · dsimp only
        split <;> exact Calm.pure _
    case agg.agg.struct =>
      refine Calm.program.bind fun p => ?_
      refine Calm.ite ((Calm.unsupported _).bind fun _ => ?_) ?_
      all_goals
        refine (Calm.forArray (fun i s => ?_) _).bind fun s => ?_
        · split
          · refine (part_flat (by simpa [flat] using hx) _ _).bind fun v hv => (part_flat (by simpa [flat] using hy) _ _).bind fun v' hv' => (ih _ _ _ hv hv').bind fun b => ?_
            split <;> exact Calm.pure _
          · exact Calm.pure _
        · dsimp only
          split <;> exact Calm.pure _

theorem eqGuardIn_flat : ∀ (d : Nat) (t : TypeId) (x y : Value), flat x = true → flat y = true → Calm P (Op.eqGuardIn d t x y) := by
  intro d
  induction d with
  | zero => exact fun _ _ _ _ _ => Calm.unsupported _
  | succ d ih =>
    intro t x y hx hy
    unfold Op.eqGuardIn
    refine (Calm.underlying t).bind fun u => ?_
    cases x <;> first | (simp [flat, scal] at hx; done) | skip
    all_goals cases y <;> first | (simp [flat, scal] at hy; done) | skip
    all_goals cases u <;> first | exact Calm.pure _ | exact Calm.stuck _ | exact Calm.ite (Calm.pure _) (Calm.stuck _) | skip
    case agg.agg.array =>
      refine (Calm.sizeOf _).bind fun n => (Calm.forRange (fun i s => ?_) _).bind fun s => ?_
      · refine (part_flat (by simpa [flat] using hx) _ _).bind fun v hv => (part_flat (by simpa [flat] using hy) _ _).bind fun v' hv' => (ih _ _ _ hv hv').bind fun b => ?_
        split <;> exact Calm.pure _
      · dsimp only
        split <;> exact Calm.pure _
    case agg.agg.struct =>
      refine (Calm.forArray (fun i s => ?_) _).bind fun s => ?_
      · split
        · refine (part_flat (by simpa [flat] using hx) _ _).bind fun v hv => (part_flat (by simpa [flat] using hy) _ _).bind fun v' hv' => (ih _ _ _ hv hv').bind fun b => ?_
          split <;> exact Calm.pure _
        · exact Calm.pure _
      · dsimp only
        split <;> exact Calm.pure _

/-- Operands whose joining is calm. -/
def okVals (op : BinOp) (x y : Value) : Bool :=
  match x, y with
  | .int _ _, .int _ _ => true
  | .string _, .string _ => true
  | .bool _, .bool _ => true
  | .pointer none, .pointer _ => (op matches .eql) || (op matches .neq)
  | .pointer _, .pointer none => (op matches .eql) || (op matches .neq)
  | .agg a, .agg b => ((op matches .eql) || (op matches .neq)) && (a.all scal && b.all scal)
  | _, _ => false

theorem Calm.binOp_int (op : BinOp) (t : TypeId) (k k' : IntKind) (a b : Int) : Calm P (binOp op t (.int k a) (.int k' b)) := by
  cases op <;> simp only [binOp] <;> first
    | exact Calm.shift _ _ _ _ _
    | (split <;> first | exact Calm.stuck _ | exact Calm.intArith _ _ _ _ | exact Calm.intDiv _ _ _ _ | exact Calm.intBits _ _ _ _ | exact Calm.intCmp _ _ _)
theorem Calm.equal_bool (t : TypeId) (a b : Bool) : Calm P (Op.equal t (.bool a) (.bool b)) := by
  show Calm P (Op.equalIn (9999 + 1) t (.bool a) (.bool b))
  unfold Op.equalIn
  refine (Calm.underlying t).bind fun d => ?_
  cases d <;> first | exact Calm.pure _ | exact Calm.stuck _
theorem Calm.equal_nil_l (t : TypeId) (b : Option Addr) : Calm P (Op.equal t (.pointer none) (.pointer b)) := by
  show Calm P (Op.equalIn (9999 + 1) t (.pointer none) (.pointer b))
  unfold Op.equalIn
  refine (Calm.underlying t).bind fun d => ?_
  cases d <;> cases b <;> first | exact Calm.pure _ | exact Calm.stuck _ | exact Calm.unsupported _
theorem Calm.equal_nil_r (t : TypeId) (b : Option Addr) : Calm P (Op.equal t (.pointer b) (.pointer none)) := by
  show Calm P (Op.equalIn (9999 + 1) t (.pointer b) (.pointer none))
  unfold Op.equalIn
  refine (Calm.underlying t).bind fun d => ?_
  cases d <;> cases b <;> first | exact Calm.pure _ | exact Calm.stuck _ | exact Calm.unsupported _

theorem Calm.binOp {op : BinOp} {t : TypeId} {x y : Value} (h : okVals op x y = true) : Calm P (Go.binOp op t x y) := by
  unfold okVals at h
  split at h
  · exact Calm.binOp_int _ _ _ _ _ _
  · cases op <;> simp only [Go.binOp] <;> exact Calm.stringOp _ _ _
  · cases op <;> simp only [Go.binOp] <;> first | exact Calm.stuck _ | exact (Calm.equal_bool _ _ _).bind fun _ => Calm.pure _
  · cases op <;> first | (simp at h; done) | (simp only [Go.binOp]; exact (Calm.equal_nil_l _ _).bind fun _ => Calm.pure _)
  · cases op <;> first | (simp at h; done) | (simp only [Go.binOp]; exact (Calm.equal_nil_r _ _).bind fun _ => Calm.pure _)
  · simp only [Bool.and_eq_true] at h
    obtain ⟨ho, ha, hb⟩ := h
    have e : Calm P (Op.equal t (.agg _) (.agg _)) := equalIn_flat 10000 t _ _ ha hb
    cases op <;> first | (simp at ho; done) | (simp only [Go.binOp]; exact e.bind fun _ => Calm.pure _)
  · cases h
theorem Calm.eqGuard {op : BinOp} {t : TypeId} {x y : Operand} {a b : Value} (h : okVals op a b = true) : Calm P (Go.eqGuard op t x y a b) := by
  unfold Go.eqGuard
  refine Calm.ite (Calm.pure _) ?_
  split
  · simp [okVals] at h
  · simp only [okVals, Bool.and_eq_true] at h
    refine Calm.program.bind fun p => Calm.program.bind fun q => Calm.ite (Calm.pure _) ?_
    refine (eqGuardIn_flat 10000 t (.agg _) (.agg _) h.2.1 h.2.2).bind fun b => ?_
    cases b
    · exact Calm.pure _
    · exact Calm.unsupported _
  · exact Calm.pure _
end

/-! ### The kinds of operations: 0 calm, 1 reads, 2 lays, 3 all else -/
def lenKind (P : Program) (ats : Array TypeId) : Nat :=
  match (ats[0]?).bind P.underlying with
  | some .string | some (.array ..) | some (.pointer _) | some (.slice _) => 0
  | _ => 3
def fieldKind (P : Program) (s : TypeId) (f : Nat) : Nat :=
  match P.underlying s with
  | some (.struct fs) => match fs[f]? with
    | some x => if ((P.info? x.type).map (·.size)) = some 0 then 3 else 0
    | none => 0
  | _ => 0
def kindOf (P : Program) (o : Oper) : Nat :=
  match o.op with
  | .move _ | .assign _ | .pick .. | .indexAddr .. | .extract .. | .field .. | .index .. | .makeInterface .. | .unOp .. | .nilCheck _ | .binOp .. | .slice .. => 0
  | .convert _ d _ => match P.underlying d with
    | some (.int _) => 0
    | _ => 3
  | .fieldAddr s _ f => fieldKind P s f
  | .call c => match c.callee with
    | .builtin .len => lenKind P c.argTypes
    | _ => 3
  | .load .. => 1
  | .alloc _ | .box .. | .buildSlice .. | .build .. | .makeMap .. => 2
  | _ => 3

/-- The operands' shapes that an operation's kind wants. -/
def shapeOk (_P : Program) (ρ : Operand → Value) (o : Oper) : Bool :=
  match o.op with
  | .binOp op _ x y _ => okVals op (ρ x) (ρ y)
  | .nilCheck x => match ρ x with
    | .pointer _ => true
    | _ => false
  | .convert _ _ x => match ρ x with
    | .int _ _ => true
    | _ => false
  | _ => true

section
variable {P : Program}
theorem Calm.value {s : Sem Value} (h : Calm P s) : Calm P (s >>= fun x => Pure.pure (Next.value x) : Sem Next) := h.bind fun _ => Calm.pure _
theorem Reads.value {s : Sem Value} (h : Reads P s) : Reads P (s >>= fun x => Pure.pure (Next.value x) : Sem Next) := h.bind fun _ => (Calm.pure _).reads
theorem Lays.value {s : Sem Value} (h : Lays P s) : Lays P (s >>= fun x => Pure.pure (Next.value x) : Sem Next) := h.bind fun _ => (Calm.pure _).lays
theorem Calm.underlying_bind {α : Type} {t : TypeId} {d : TypeDesc} (hu : P.underlying t = some d) {f : TypeDesc → Sem α} (hf : Calm P (f d)) : Calm P (Go.underlying t >>= f) := by
  have hr : ∀ w, (Go.underlying t >>= f).run P w = (f d).run P w := fun w => by
    rw [Sem.run_bind, run_underlying hu]; rfl
  rcases hf with ⟨y, hy⟩ | hh
  · exact .inl ⟨y, fun w => by rw [hr]; exact hy w⟩
  · exact .inr fun w => by rw [hr]; exact hh w

theorem Calm.len {ats : Array TypeId} (hk : lenKind P ats = 0) (ty : TypeId) (args : Array Value) : Calm P (Builtin.len_ ats ty args) := by
  unfold lenKind at hk
  unfold Builtin.len_
  split
  · rename_i t x e
    simp only [Prod.mk.injEq] at e
    rw [e.1] at hk
    simp only [Option.bind_some] at hk
    cases hu : P.underlying t with
    | none => rw [hu] at hk; simp at hk
    | some d =>
      rw [hu] at hk
      refine Calm.underlying_bind hu ?_
      cases d <;> first
        | (simp at hk; done)
        | (cases x <;> first
            | exact Calm.pure _
            | exact Calm.stuck _
            | (refine (Calm.underlying _).bind fun d' => ?_
               split
               · exact Calm.pure _
               · exact Calm.stuck _))
  · exact Calm.stuck _

theorem Calm.convert {src dst : TypeId} {k k' : IntKind} {n : Int} (hu : P.underlying dst = some (.int k)) : Calm P (Go.convert src dst (.int k' n)) := by
  unfold Go.convert
  refine (Calm.underlying _).bind fun d => Calm.underlying_bind hu ?_
  cases d <;> exact Calm.pure _

theorem Calm.fieldAt {s f : Nat} (hk : fieldKind P s f = 0) (x : Value) : Calm P (Instr.fieldAt s x f) := by
  unfold fieldKind at hk
  unfold Instr.fieldAt
  cases hu : P.underlying s with
  | none =>
    refine .inr fun w => ⟨.stuck "no such type", w, ?_⟩
    simp [Go.underlying, Go.program, Sem.run, hu, Go.stuck]
  | some d =>
    rw [hu] at hk
    refine Calm.underlying_bind hu ?_
    cases d <;> first
      | exact Calm.stuck _
      | (rename_i fs
         dsimp only at hk ⊢
         cases hf : fs[f]? with
         | none => exact Calm.stuck _
         | some y =>
           rw [hf] at hk
           dsimp only at hk ⊢
           refine (Calm.sureAddr _).bind fun a => Calm.bind ?_ fun _ => Calm.pure _
           unfold fieldPlace
           unfold Go.sizeOf Go.typeInfo
           cases hi : P.info? y.type with
           | none => exact .inr fun w => ⟨.stuck "no such type", w, by simp [Go.program, Sem.run, hi, Go.stuck]⟩
           | some i =>
             rw [hi] at hk
             have hz : i.size ≠ 0 := by
               intro e
               simp [e] at hk
             exact .inl ⟨_, fun w => by simp [Go.program, Sem.run, hi, hz]; rfl⟩)

theorem Lays.newRow (e : TypeId) (c : Array Value) : Lays P (Go.newRow e c) := (Lays.newObj _).bind fun _ => (Calm.pure _).lays
theorem Lays.newVar (e : TypeId) (v : Value) : Lays P (Go.newVar e v) := Lays.newRow _ _

/-- What kind 0 says. -/
theorem calm_of {o : Oper} {ρ : Operand → Value} (hk : kindOf P o = 0) (hs : shapeOk P ρ o = true) : Calm P (execOp ρ o) := by
  obtain ⟨dst, op, ty, pos, after, guard⟩ := o
  cases op <;> simp only [kindOf] at hk <;> simp only [shapeOk] at hs <;> simp only [execOp] <;> first
    | (exact absurd hk (by decide))
    | exact Calm.pure _
    | exact ((Calm.asBool _).bind fun _ => Calm.pure _)
    | exact (Calm.indexAt _ _ _).value
    | exact (Calm.extract _ _).value
    | exact (Calm.field _ _ _).value
    | exact (Calm.index _ _ _).value
    | exact (Calm.makeInterface _ _).value
    | exact (Calm.unary _ _).value
    | exact (Calm.sliceAt _ _ _ _ _).value
    | exact (Calm.fieldAt hk _).value
    | exact ((Calm.eqGuard hs).bind fun _ => Calm.binOp hs).value
    | skip
  · split <;> first | exact (Dies.runtimePanic _).calm | exact Calm.pure _ | (simp_all; done)
  · split at hs
    · rename_i e
      rw [e]
      split at hk
      · rename_i hu
        exact (Calm.convert hu).value
      · cases hk
    · cases hs
  · rename_i c
    split at hk
    · rename_i e
      simp only [resolve, e]
      exact (Calm.len hk _ _).value
    · cases hk
theorem reads_of {o : Oper} {ρ : Operand → Value} (hk : kindOf P o ≤ 1) (hs : shapeOk P ρ o = true) : Reads P (execOp ρ o) := by
  by_cases h0 : kindOf P o = 0
  · exact (calm_of h0 hs).reads
  · have h1 : kindOf P o = 1 := by omega
    obtain ⟨dst, op, ty, pos, after, guard⟩ := o
    cases op <;> simp only [kindOf] at h1 <;> first
      | (exact absurd h1 (by decide))
      | skip
    · exact (((Calm.sureAddr _).reads.bind fun _ => Reads.loadVar _ _)).value
    · split at h1 <;> exact absurd h1 (by decide)
    · simp only [fieldKind] at h1
      split at h1
      · split at h1
        · split at h1 <;> cases h1
        · cases h1
      · cases h1
    · split at h1
      · simp only [lenKind] at h1
        split at h1 <;> cases h1
      · cases h1
theorem lays_of {o : Oper} {ρ : Operand → Value} (hk : kindOf P o ≤ 2) (hs : shapeOk P ρ o = true) : Lays P (execOp ρ o) := by
  by_cases h0 : kindOf P o ≤ 1
  · exact (reads_of h0 hs).lays
  · have h1 : kindOf P o = 2 := by omega
    obtain ⟨dst, op, ty, pos, after, guard⟩ := o
    cases op <;> simp only [kindOf] at h1 <;> first
      | (exact absurd h1 (by decide))
      | skip
    all_goals simp only [execOp]
    · exact Lays.value (by unfold Instr.alloc; exact (Calm.zeroValue _).lays.bind fun z => ((Lays.newVar _ _).bind fun _ => (Calm.pure _).lays))
    · exact Lays.value ((Lays.newVar _ _).bind fun _ => (Calm.pure _).lays)
    · refine Lays.value ?_
      unfold Instr.build
      repeat' (first | exact (Calm.pure _).lays | exact (Calm.stuck _).lays | exact (Calm.zeroValue _).lays | exact (Calm.underlying _).lays | exact (Calm.sizeOf _).lays | exact Lays.mapM _ fun _ => (Calm.sizeOf _).lays.bind fun _ => (Calm.pure _).lays | split | refine Lays.bind ?_ fun _ => ?_ | refine Lays.ite ?_ ?_ | dsimp only)
    · refine Lays.value ?_
      unfold Instr.buildSlice
      repeat' (first | exact (Calm.pure _).lays | exact (Calm.stuck _).lays | exact (Calm.unsupported _).lays | exact (Calm.zeroValue _).lays | exact (Calm.underlying _).lays | exact (Calm.sizeOf _).lays | exact Lays.newRow _ _ | split | refine Lays.bind ?_ fun _ => ?_ | refine Lays.ite ?_ ?_ | dsimp only)
    · split at h1 <;> exact absurd h1 (by decide)
    · rename_i t r
      refine Lays.value ?_
      unfold Instr.makeMap
      dsimp only
      repeat' (first | exact (Calm.pure _).lays | exact (Calm.stuck _).lays | exact (Calm.asIntOf _).lays | exact (Calm.underlying _).lays | exact Lays.newObj _ | split | refine Lays.bind ?_ fun _ => ?_ | dsimp only | unfold asInt)
    · simp only [fieldKind] at h1
      split at h1
      · split at h1
        · split at h1 <;> cases h1
        · cases h1
      · cases h1
    · split at h1
      · simp only [lenKind] at h1
        split at h1 <;> cases h1
      · cases h1
end

/-! ### Which operation waits for which -/
/-- The operations for which one waits, as bits of a number, one behind the other. -/
def maskOf (acc : List Nat) (o : Oper) : Nat :=
  o.after.toList.foldl (fun s e => if Region.binds .any e then s ||| 2 ^ e.on ||| acc.getD e.on 0 else s) 0
def masks (ops : List Oper) : List Nat := ops.foldl (fun acc o => acc ++ [maskOf acc o]) []

/-- i waits for j, through others or not. -/
inductive Waits (ops : Array Oper) : Nat → Nat → Prop
  | step {i : Nat} {o : Oper} {e : Edge} : ops[i]? = some o → e ∈ o.after → Region.binds .any e = true → Waits ops i e.on
  | trans {i j : Nat} {o : Oper} {e : Edge} : ops[i]? = some o → e ∈ o.after → Region.binds .any e = true → Waits ops e.on j → Waits ops i j

theorem maskOf_bit {acc : List Nat} {o : Oper} {j : Nat} (h : (maskOf acc o).testBit j = true) :
    ∃ e ∈ o.after, Region.binds .any e = true ∧ (e.on = j ∨ (acc.getD e.on 0).testBit j = true) := by
  unfold maskOf at h
  have key : ∀ (l : List Edge) (s : Nat), (l.foldl (fun s e => if Region.binds .any e then s ||| 2 ^ e.on ||| acc.getD e.on 0 else s) s).testBit j = true →
      s.testBit j = true ∨ ∃ e ∈ l, Region.binds .any e = true ∧ (e.on = j ∨ (acc.getD e.on 0).testBit j = true) := by
    intro l
    induction l with
    | nil => intro s h; exact .inl h
    | cons x l ih =>
      intro s h
      simp only [List.foldl_cons] at h
      rcases ih _ h with h | ⟨e, he, hb⟩
      · by_cases hx : Region.binds .any x = true
        · rw [if_pos hx] at h
          simp only [Nat.testBit_or, Bool.or_eq_true, Nat.testBit_two_pow, decide_eq_true_eq] at h
          rcases h with (h | h) | h
          · exact .inl h
          · exact .inr ⟨x, List.mem_cons_self, hx, .inl h⟩
          · exact .inr ⟨x, List.mem_cons_self, hx, .inr h⟩
        · rw [if_neg hx] at h; exact .inl h
      · exact .inr ⟨e, List.mem_cons_of_mem _ he, hb⟩
  rcases key _ _ h with h | ⟨e, he, hb⟩
  · simp at h
  · exact ⟨e, by simpa using he, hb⟩

theorem masks_waits (ops : Array Oper) (i j : Nat) (h : ((masks ops.toList).getD i 0).testBit j = true) : Waits ops i j := by
  have key : ∀ (suf pre : List Oper) (acc : List Nat), ops.toList = pre ++ suf → acc.length = pre.length →
      (∀ i j, (acc.getD i 0).testBit j = true → Waits ops i j) → ∀ i j, ((suf.foldl (fun acc o => acc ++ [maskOf acc o]) acc).getD i 0).testBit j = true → Waits ops i j := by
    intro suf
    induction suf with
    | nil => intro pre acc _ _ hg i j h; exact hg i j h
    | cons o suf ih =>
      intro pre acc hp hl hg
      refine ih (pre ++ [o]) (acc ++ [maskOf acc o]) (by simp [hp]) (by simp [hl]) ?_
      intro i j hb
      by_cases hi : i < acc.length
      · refine hg i j ?_
        rw [List.getD_eq_getElem?_getD, List.getElem?_append_left hi] at hb
        rw [List.getD_eq_getElem?_getD]; exact hb
      · by_cases he : i = acc.length
        · subst he
          have hb' : (maskOf acc o).testBit j = true := by simpa using hb
          obtain ⟨e, hem, hbi, hr⟩ := maskOf_bit hb'
          have ho : ops[acc.length]? = some o := by
            rw [← Array.getElem?_toList, hp, hl]; simp
          rcases hr with rfl | hr
          · exact .step ho hem hbi
          · exact .trans ho hem hbi (hg _ _ hr)
        · exfalso
          rw [List.getD_eq_getElem?_getD, List.getElem?_eq_none (by simp; omega)] at hb
          simp at hb
  exact key ops.toList [] [] rfl rfl (by intro i j h; simp at h) i j h

/-- What has come up is closed: whatever it waited for has come up too. -/
def Closed (ops : Array Oper) (listed : Array Bool) : Prop :=
  ∀ (i : Nat) (o : Oper), ops[i]? = some o → listed.getD i false = true → ∀ e ∈ o.after, Region.binds .any e = true → listed.getD e.on false = true
theorem Closed.waits {ops : Array Oper} {listed : Array Bool} (h : Closed ops listed) {i j : Nat} (hw : Waits ops i j) (hi : listed.getD i false = true) : listed.getD j false = true := by
  induction hw with
  | step ho he hb => exact h _ _ ho hi _ he hb
  | trans ho he hb _ ih => exact ih (h _ _ ho hi _ he hb)
theorem Closed.ready {ops : Array Oper} {listed : Array Bool} (h : Closed ops listed) {i j : Nat} (hr : i ∈ Region.ready .any ops listed) (hw : Waits ops i j) : listed.getD j false = true := by
  obtain ⟨_, o, ho, hall⟩ := mem_ready.1 hr
  cases hw with
  | step ho' he hb => rw [ho] at ho'; cases ho'; exact hall _ he hb
  | trans ho' he hb hw' => rw [ho] at ho'; cases ho'; exact h.waits hw' (hall _ he hb)
/-! ### In one order is enough -/
def needShape (o : Oper) : Bool :=
  match o.op with
  | .binOp .. | .nilCheck _ | .convert .. => true
  | _ => false
def shapes (P : Program) (ops : Array Oper) (a : Act) : Bool :=
  ops.all fun o => !Region.wanted o (yielded ops a.tmps) || shapeOk P a.eval o
def dstIn (ops : Array Oper) (d : Option Tmp) (o : Oper) : Bool :=
  match d with
  | some t => (o.looksAt ops).contains t
  | none => false
/-- j stands ahead of i in the one order: it may, and they may change places where i need not wait. -/
def pairOk (P : Program) (ops : Array Oper) (ms : List Nat) (j i : Nat) : Bool :=
  match ops[j]?, ops[i]? with
  | some oj, some oi =>
    j != i && !(oj.after.any fun e => Region.binds .any e && e.on == i) && !(needShape oj && dstIn ops oi.dst oj) &&
    ((ms.getD i 0).testBit j || (oj.apart ops oi && (kindOf P oj == 0 || (kindOf P oj == 1 && decide (kindOf P oi ≤ 2)))))
  | _, _ => false
def pairsOk (f : Nat → Nat → Bool) : List Nat → Bool
  | [] => true
  | j :: l => l.all (f j) && pairsOk f l
def selfOk (ops : Array Oper) (j : Nat) : Bool :=
  match ops[j]? with
  | some o => !(needShape o && dstIn ops o.dst o) && o.after.all fun e => !Region.binds .any e || (e.on != j && decide (e.on < ops.size))
  | none => false
def okOrder (P : Program) (ops : Array Oper) (L : List Nat) : Bool :=
  let ms := masks ops.toList
  L.all (selfOk ops) && (List.range ops.size).all (L.contains ·) && Region.noSelect ops && pairsOk (pairOk P ops ms) L && decide (L.length ≤ ops.size)

def Shaped (P : Program) (ops : Array Oper) (Q : Exit → Act → World → Prop) : Exit → Act → World → Prop
  | .normal, a, w => shapes P ops a = true ∧ Q .normal a w
  | _, _, _ => False
def Strict (Q : Exit → Act → World → Prop) : Exit → Act → World → Prop
  | .normal, a, w => Q .normal a w
  | _, _, _ => False

section
variable {P : Program} {ops : Array Oper} {Q : Exit → Act → World → Prop}

theorem pairsOk_append {f : Nat → Nat → Bool} {l m : List Nat} (h : pairsOk f (l ++ m) = true) : pairsOk f l = true ∧ pairsOk f m = true ∧ ∀ j ∈ l, ∀ i ∈ m, f j i = true := by
  induction l with
  | nil => exact ⟨rfl, h, by simp⟩
  | cons x l ih =>
    simp only [List.cons_append, pairsOk, Bool.and_eq_true, List.all_eq_true, List.mem_append] at h
    obtain ⟨h1, h2, h3⟩ := ih h.2
    refine ⟨by simp only [pairsOk, Bool.and_eq_true, List.all_eq_true]; exact ⟨fun i hi => h.1 i (.inl hi), h1⟩, h2, ?_⟩
    intro j hj i hi
    rcases List.mem_cons.1 hj with rfl | hj
    · exact h.1 i (.inr hi)
    · exact h3 j hj i hi
theorem pairsOk_erase {f : Nat → Nat → Bool} {l m : List Nat} {i : Nat} (h : pairsOk f (l ++ i :: m) = true) : pairsOk f (l ++ m) = true := by
  induction l with
  | nil => simp only [List.nil_append, pairsOk, Bool.and_eq_true] at h ⊢; exact h.2
  | cons x l ih =>
    simp only [List.cons_append, pairsOk, Bool.and_eq_true, List.all_eq_true, List.mem_append, List.mem_cons] at h ⊢
    exact ⟨fun k hk => h.1 k (hk.imp id fun h => .inr h), ih h.2⟩

/-- An operation that is carried out to its end comes to a state. -/
theorem wpOp_some {i : Nat} {K : Act → World → Prop} {a : Act} {w : World} (h : wpOp P ops (Shaped P ops Q) i K a w) :
    ∃ a' w', K a' w' ∧ ∀ t, (∀ o, ops[i]? = some o → o.dst ≠ some t) → a'.tmps[t]? = a.tmps[t]? := by
  unfold wpOp at h
  cases ho : ops[i]? with
  | none => rw [ho] at h; exact ⟨a, w, h, fun _ _ => rfl⟩
  | some o =>
    rw [ho] at h
    simp only [] at h
    have hput : ∀ v t, (∀ o', some o = some o' → o'.dst ≠ some t) → (a.put o.dst v).tmps[t]? = a.tmps[t]? := by
      intro v t ht
      cases hd : o.dst with
      | none => rfl
      | some d =>
        have hne : d ≠ t := fun e => ht o rfl (by rw [hd, e])
        simp [Act.put, Array.getElem?_setIfInBounds_ne hne]
    split at h
    · rcases h with h | ⟨_, _, _, hx⟩
      · unfold Oper.wp at h
        cases hr : (execOp a.eval o).run P w with
        | ok n w' =>
          rw [hr] at h
          cases n <;> simp only [Oper.upon] at h
          case value v => exact ⟨_, _, h, hput v⟩
          case skip => exact ⟨_, _, h, hput undef⟩
          case defer d =>
            refine ⟨_, _, h, fun t ht => ?_⟩
            cases hd : o.dst with
            | none => rfl
            | some dd =>
              have hne : dd ≠ t := fun e => ht o rfl (by rw [hd, e])
              simp [Act.put, Array.getElem?_setIfInBounds_ne hne]
          case enter f args =>
            obtain ⟨e, w2, fr, hR, _⟩ := h []
            cases e with
            | returned v => exact ⟨_, _, hR, hput v⟩
            | panicked c => exact hR.elim
            | outgrown => obtain ⟨_, _, hx⟩ := hR; exact hx.elim
          case row r args =>
            obtain ⟨v, w2, hR, _⟩ := h (default : Frame) []
            exact ⟨_, _, hR, hput v⟩
        | halt g w' => rw [hr] at h; cases g <;> exact h.elim
      · exact hx.elim
    · exact ⟨_, _, h, hput undef⟩

theorem wpOps_some : ∀ (l : List Nat) (a : Act) (w : World), wpOps P ops (Shaped P ops Q) l a w →
    ∃ a', shapes P ops a' = true ∧ ∀ t, (∀ i ∈ l, ∀ o, ops[i]? = some o → o.dst ≠ some t) → a'.tmps[t]? = a.tmps[t]?
  | [], a, w, h => ⟨a, h.1, fun _ _ => rfl⟩
  | i :: l, a, w, h => by
    rw [wpOps_cons] at h
    obtain ⟨a1, w1, h1, ht1⟩ := wpOp_some h
    obtain ⟨a2, h2, ht2⟩ := wpOps_some l a1 w1 h1
    exact ⟨a2, h2, fun t ht => (ht2 t fun j hj => ht j (List.mem_cons_of_mem _ hj)).trans (ht1 t (ht i List.mem_cons_self))⟩

theorem eval_same {a a' : Act} {x : Operand} (h : ∀ t, x = .tmp t → a'.tmps[t]? = a.tmps[t]?) : a'.eval x = a.eval x := by
  cases x with
  | tmp t =>
    have := h t rfl
    simp only [Act.eval, Array.getD_eq_getD_getElem?, this]
  | _ => rfl
theorem shapeOk_same {o : Oper} {a a' : Act} (h : ∀ t ∈ o.looksAt ops, a'.tmps[t]? = a.tmps[t]?) : shapeOk P a'.eval o = shapeOk P a.eval o := by
  have he : ∀ x ∈ o.op.operands, a'.eval x = a.eval x := fun x hx => eval_same fun t e => h t (by
    subst e
    exact List.mem_append_left _ (List.mem_filterMap.2 ⟨.tmp t, by simpa using hx, rfl⟩))
  unfold shapeOk
  split
  · rename_i e; rw [e] at he; rw [he _ (by simp [Op.operands]), he _ (by simp [Op.operands])]
  · rename_i e; rw [e] at he; rw [he _ (by simp [Op.operands])]
  · rename_i e; rw [e] at he; rw [he _ (by simp [Op.operands])]
  · rfl
theorem wanted_same {o : Oper} {a a' : Act} (h : ∀ t ∈ o.looksAt ops, a'.tmps[t]? = a.tmps[t]?) : Region.wanted o (yielded ops a'.tmps) = Region.wanted o (yielded ops a.tmps) := by
  unfold Region.wanted
  cases hg : o.guard with
  | none => rfl
  | some gw =>
    obtain ⟨g, want⟩ := gw
    have hy : yielded ops a'.tmps g = yielded ops a.tmps g := by
      unfold yielded
      cases ht : (ops[g]?).bind (·.dst) with
      | none => rfl
      | some t =>
        simp only [Option.bind_some]
        rw [h t (by simp [Oper.looksAt, hg, ht])]
    simp only [hy]

/-- What the first of them finds is of the shape that its kind wants. -/
theorem shape_at {j : Nat} {rest : List Nat} {a : Act} {w : World} {oj : Oper} (hj : ops[j]? = some oj) (h : wpOps P ops (Shaped P ops Q) (j :: rest) a w)
    (hs : ∀ i ∈ j :: rest, ∀ o, ops[i]? = some o → needShape oj = true → dstIn ops o.dst oj = false) (hw : Region.wanted oj (yielded ops a.tmps) = true) : shapeOk P a.eval oj = true := by
  by_cases hn : needShape oj = true
  · obtain ⟨a', h1, h2⟩ := wpOps_some _ _ _ h
    have hsame : ∀ t ∈ oj.looksAt ops, a'.tmps[t]? = a.tmps[t]? := fun t ht => h2 t fun i hi o ho e => by
      have := hs i hi o ho hn
      rw [e] at this
      simp [dstIn, ht] at this
    have := Array.all_eq_true_iff_forall_mem.1 h1 oj (Array.mem_of_getElem? hj)
    rw [wanted_same hsame, hw, shapeOk_same hsame] at this
    simpa using this
  · unfold needShape at hn
    unfold shapeOk
    split <;> simp_all

theorem wpOp_imp {i : Nat} {K K' : Act → World → Prop} {a : Act} {w : World} (hK : ∀ a w, K a w → K' a w) (h : wpOp P ops (Shaped P ops Q) i K a w) : wpOp P ops (Strict Q) i K' a w := by
  unfold wpOp at *
  split
  · exact hK _ _ (by simpa [*] using h)
  · rename_i o ho
    simp only [ho] at h
    split
    · rename_i hw
      simp only [hw, if_true] at h
      rcases h with h | ⟨_, _, _, hx⟩
      · refine .inl ?_
        unfold Oper.wp at *
        generalize (execOp a.eval o).run P w = r at *
        cases r with
        | ok n w' =>
          cases n <;> simp only [Oper.upon] at h ⊢ <;>
            first
              | exact hK _ _ h
              | exact Calls.mono h (fun e w'' he => by cases e <;> first | exact hK _ _ he | exact he.elim | (obtain ⟨_, _, hx⟩ := he; exact hx.elim))
              | exact Rows.mono h (fun _ _ he => hK _ _ he)
        | halt x w' => cases x <;> exact h.elim
      · exact hx.elim
    · rename_i hw; simp only [hw] at h; exact hK _ _ h

/-- Behind an operation that lays blocks at most, the old blocks are as they were. -/
theorem wpOp_ext {i : Nat} {oi : Oper} {K : Act → World → Prop} {a : Act} {w : World} (hi : ops[i]? = some oi) (hl : Region.wanted oi (yielded ops a.tmps) = true → Lays P (execOp a.eval oi))
    (hv : Region.wanted oi (yielded ops a.tmps) = true → ∀ w n w', (execOp a.eval oi).run P w = .ok n w' → ∃ v, n = .value v)
    (h : wpOp P ops (Shaped P ops Q) i K a w) : wpOp P ops (Shaped P ops Q) i (fun a' w' => Ext w w' ∧ K a' w') a w := by
  unfold wpOp at *
  simp only [hi] at h ⊢
  split
  · rename_i hw
    simp only [hw, if_true] at h
    rcases h with h | ⟨_, _, _, hx⟩
    · refine .inl ?_
      have hL := hl hw w
      unfold Oper.wp at *
      cases hrun : (execOp a.eval oi).run P w with
      | ok n w' =>
        rw [hrun] at h
        have hE := hL _ _ hrun
        obtain ⟨v, rfl⟩ := hv hw _ _ _ hrun
        exact ⟨hE, h⟩
      | halt x w' => rw [hrun] at h; cases x <;> exact h.elim
    · exact hx.elim
  · rename_i hw; simp only [hw] at h; exact ⟨Ext.refl w, h⟩
end

section
variable {P : Program} {ops : Array Oper} {Q : Exit → Act → World → Prop}

theorem value_bind {s : Sem Value} {w w' : World} {n : Next} (h : (s >>= fun x => Pure.pure (Next.value x) : Sem Next).run P w = .ok n w') : ∃ v, n = .value v := by
  rw [Sem.run_bind] at h
  cases hs : s.run P w with
  | ok y w1 => rw [hs] at h; cases h; exact ⟨_, rfl⟩
  | halt g w1 => rw [hs] at h; cases h
theorem value_of {o : Oper} {ρ : Operand → Value} {w w' : World} {n : Next} (hk : kindOf P o ≤ 2) (hs : shapeOk P ρ o = true) (h : (execOp ρ o).run P w = .ok n w') : ∃ v, n = .value v := by
  obtain ⟨dst, op, ty, pos, after, guard⟩ := o
  cases op <;> simp only [kindOf] at hk <;> simp only [execOp] at h <;> first
    | (exact absurd hk (by decide))
    | exact value_bind h
    | (cases h; exact ⟨_, rfl⟩)
    | skip
  · rename_i c x y
    rw [Sem.run_bind] at h
    cases hb : (asBool (ρ c)).run P w with
    | ok y w1 => rw [hb] at h; cases h; exact ⟨_, rfl⟩
    | halt g w1 => rw [hb] at h; cases h
  · rename_i x
    simp only [shapeOk] at hs
    split at hs
    · rename_i e
      rw [e] at h
      split at h
      · obtain ⟨g, w1, e⟩ := Dies.runtimePanic (P := P) (α := Next) .nilDeref w; rw [e] at h; cases h
      · rename_i e; cases e
      · rename_i e; cases e
      · rename_i e; cases e
      · cases h; exact ⟨_, rfl⟩
    · cases hs
  · rename_i c
    split at hk
    · rename_i e
      simp only [resolve, e] at h
      exact value_bind h
    · exact absurd hk (by decide)

/-- Two that stand one behind the other change places, where the later one need not wait. -/
theorem swap_ops {j i : Nat} {oj oi : Oper} (hj : ops[j]? = some oj) (hi : ops[i]? = some oi) (hsel : Region.noSelect ops = true)
    (hap : oj.apart ops oi = true) (hk : kindOf P oj = 0 ∨ (kindOf P oj = 1 ∧ kindOf P oi ≤ 2)) {K : Act → World → Prop} {a : Act} {w : World}
    (hs : Region.wanted oj (yielded ops a.tmps) = true → shapeOk P a.eval oj = true)
    (hsi : kindOf P oi ≤ 2 → Region.wanted oi (yielded ops a.tmps) = true → shapeOk P a.eval oi = true)
    (h : wpOp P ops (Shaped P ops Q) j (wpOp P ops (Shaped P ops Q) i K) a w) : wpOp P ops (Shaped P ops Q) i (wpOp P ops (Shaped P ops Q) j K) a w := by
  have nsel := Region.noSelect_spec hsel
  -- what j yields
  obtain ⟨v, hY, h1⟩ : ∃ v, YieldsIf P ops (fun w2 => kindOf P oj = 0 ∨ Ext w w2) oj v a ∧ wpOp P ops (Shaped P ops Q) i K (a.put oj.dst v) w := by
    unfold wpOp at h
    simp only [hj] at h
    split at h
    · rename_i hw
      rcases h with h | ⟨_, _, _, hx⟩
      · unfold Oper.wp at h
        have hshape := hs hw
        rcases hk with h0 | ⟨h1, _⟩
        · rcases calm_of h0 hshape with ⟨x, hx⟩ | hh
          · rw [hx w] at h
            obtain ⟨v, rfl⟩ := value_of (by omega) hshape (hx w)
            exact ⟨v, .inl ⟨hw, fun w2 _ => hx w2⟩, h⟩
          · obtain ⟨g, w', e⟩ := hh w
            rw [e] at h; cases g <;> exact h.elim
        · rcases reads_of (by omega) hshape w with ⟨x, hx, hx2⟩ | ⟨g, w', e⟩
          · rw [hx] at h
            obtain ⟨v, rfl⟩ := value_of (by omega) hshape hx
            refine ⟨v, .inl ⟨hw, fun w2 hS => ?_⟩, h⟩
            rcases hS with h0 | hE
            · omega
            · exact hx2 w2 hE
          · rw [e] at h; cases g <;> exact h.elim
      · exact hx.elim
    · rename_i hw
      exact ⟨undef, .inr ⟨by simpa using hw, rfl⟩, h⟩
  have h2 := wpOp_putIf hi hap (fun cs b => nsel j oj cs b hj) (fun cs b => nsel i oi cs b hi) (fun _ _ _ hx => hx) hY h1
  have h3 : wpOp P ops (Shaped P ops Q) i (fun a' w' => (kindOf P oj = 0 ∨ Ext w w') ∧ (YieldsIf P ops (fun w2 => kindOf P oj = 0 ∨ Ext w w2) oj v a' ∧ K (a'.put oj.dst v) w')) a w := by
    rcases hk with h0 | ⟨_, hk2⟩
    · exact wpOp_mono (fun a' w' hh => ⟨.inl h0, hh⟩) h2
    · exact wpOp_mono (fun a' w' hh => ⟨.inr hh.1, hh.2⟩) (wpOp_ext hi (fun hw => lays_of hk2 (hsi hk2 hw)) (fun hw w n w' e => value_of hk2 (hsi hk2 hw) e) h2)
  exact wpOp_mono (fun a' w' ⟨hS, hY', hK⟩ => hY'.wpOp hj hS hK) h3

theorem dstIn_of_apart {oj oi : Oper} (h : oj.apart ops oi = true) : dstIn ops oj.dst oi = false ∧ dstIn ops oi.dst oj = false := by
  obtain ⟨h1, _, h3⟩ := Oper.apart_spec h
  constructor
  · unfold dstIn
    split
    · rename_i t e; simpa using h1 t e
    · rfl
  · unfold dstIn
    split
    · rename_i t e; simpa using h3 t e
    · rfl

/-- What is ready comes first. -/
theorem toFront {i : Nat} {oi : Oper} {post : List Nat} (hi : ops[i]? = some oi) (hsel : Region.noSelect ops = true)
    (hiself : needShape oi = true → dstIn ops oi.dst oi = false) (hipost : ∀ k ∈ post, ∀ o, ops[k]? = some o → needShape oi = true → dstIn ops o.dst oi = false) :
    ∀ (pre : List Nat) (a : Act) (w : World),
      (∀ j ∈ pre, ∃ oj, ops[j]? = some oj ∧ oj.apart ops oi = true ∧ (kindOf P oj = 0 ∨ (kindOf P oj = 1 ∧ kindOf P oi ≤ 2)) ∧ (needShape oj = true → dstIn ops oj.dst oj = false)) →
      pairsOk (fun j k => match ops[j]?, ops[k]? with
        | some oj, some ok => !(needShape oj && dstIn ops ok.dst oj)
        | _, _ => false) (pre ++ i :: post) = true →
      wpOps P ops (Shaped P ops Q) (pre ++ i :: post) a w → wpOp P ops (Shaped P ops Q) i (wpOps P ops (Shaped P ops Q) (pre ++ post)) a w := by
  intro pre
  induction pre with
  | nil => intro a w _ _ h; rw [List.nil_append, wpOps_cons] at h; exact h
  | cons j pre ih =>
    intro a w hpre hpairs h
    obtain ⟨oj, hj, hap, hk, hself⟩ := hpre j List.mem_cons_self
    have hpre' := fun k hk => hpre k (List.mem_cons_of_mem _ hk)
    have hj2 : ∀ k ∈ pre ++ i :: post, ∀ o, ops[k]? = some o → needShape oj = true → dstIn ops o.dst oj = false := by
      intro k hkm o ho hn
      simp only [List.cons_append, pairsOk, Bool.and_eq_true, List.all_eq_true] at hpairs
      have := hpairs.1 k hkm
      simp only [hj, ho, hn, Bool.true_and, Bool.not_eq_true'] at this
      exact this
    have hsj : Region.wanted oj (yielded ops a.tmps) = true → shapeOk P a.eval oj = true := fun hw =>
      shape_at hj h (fun k hkm o ho hn => by
        rcases List.mem_cons.1 hkm with rfl | hkm
        · rw [hj] at ho; cases ho; exact hself hn
        · exact hj2 k hkm o ho hn) hw
    have hsi : Region.wanted oi (yielded ops a.tmps) = true → shapeOk P a.eval oi = true := fun hw => by
      by_cases hn : needShape oi = true
      · obtain ⟨a', h1, h2⟩ := wpOps_some _ _ _ h
        have hsame : ∀ t ∈ oi.looksAt ops, a'.tmps[t]? = a.tmps[t]? := fun t ht => h2 t fun k hkm o ho e => by
          have hd : dstIn ops o.dst oi = false := by
            rcases List.mem_append.1 (show k ∈ (j :: pre) ++ i :: post from hkm) with hk1 | hk1
            · obtain ⟨ok, hok, hapk, _⟩ := hpre k hk1
              rw [ho] at hok; cases hok
              exact (dstIn_of_apart hapk).1
            · rcases List.mem_cons.1 hk1 with rfl | hk2
              · rw [hi] at ho; cases ho; exact hiself hn
              · exact hipost k hk2 o ho hn
          rw [e] at hd
          simp [dstIn, ht] at hd
        have := Array.all_eq_true_iff_forall_mem.1 h1 oi (Array.mem_of_getElem? hi)
        rw [wanted_same hsame, hw, shapeOk_same hsame] at this
        simpa using this
      · unfold needShape at hn
        unfold shapeOk
        split <;> simp_all
    rw [List.cons_append, wpOps_cons] at h
    simp only [List.cons_append, pairsOk, Bool.and_eq_true] at hpairs
    have h1 := wpOp_mono (fun a' w' h' => ih a' w' hpre' hpairs.2 h') h
    have h2 := swap_ops hj hi hsel hap hk hsj (fun _ => hsi) h1
    refine wpOp_mono (fun a' w' h' => ?_) h2
    rw [List.cons_append, wpOps_cons]
    exact h'

theorem pairsOk_imp {f g : Nat → Nat → Bool} (h : ∀ j i, f j i = true → g j i = true) : ∀ {l : List Nat}, pairsOk f l = true → pairsOk g l = true
  | [], _ => rfl
  | j :: l, hl => by
    simp only [pairsOk, Bool.and_eq_true, List.all_eq_true] at hl ⊢
    exact ⟨fun i hi => h _ _ (hl.1 i hi), pairsOk_imp h hl.2⟩

theorem pairOk_spec {ms : List Nat} {j i : Nat} (h : pairOk P ops ms j i = true) : ∃ oj oi, ops[j]? = some oj ∧ ops[i]? = some oi ∧ j ≠ i ∧
    (∀ e ∈ oj.after, Region.binds .any e = true → e.on ≠ i) ∧ (needShape oj = true → dstIn ops oi.dst oj = false) ∧
    ((ms.getD i 0).testBit j = true ∨ (oj.apart ops oi = true ∧ (kindOf P oj = 0 ∨ (kindOf P oj = 1 ∧ kindOf P oi ≤ 2)))) := by
  unfold pairOk at h
  cases hj : ops[j]? with
  | none => rw [hj] at h; cases h
  | some oj =>
    cases hi : ops[i]? with
    | none => rw [hj, hi] at h; cases h
    | some oi =>
      rw [hj, hi] at h
      simp only [Bool.and_eq_true, Bool.or_eq_true, Bool.not_eq_true', bne_iff_ne, ne_eq, beq_iff_eq, decide_eq_true_eq] at h
      obtain ⟨⟨⟨h1, h2⟩, h3⟩, h4⟩ := h
      refine ⟨oj, oi, rfl, rfl, h1, ?_, ?_, h4⟩
      · intro e he hb heq
        have : oj.after.any (fun e => Region.binds .any e && e.on == i) = true := Array.any_eq_true'.2 ⟨e, he, by simp [hb, heq]⟩
        rw [this] at h2; cases h2
      · intro hn
        rw [hn] at h3
        simpa using h3

theorem wpAny_of_order (hsel : Region.noSelect ops = true) : ∀ (fuel : Nat) (listed : Array Bool) (rem : List Nat) (a : Act) (w : World),
    (∀ k, k ∈ rem ↔ (k < ops.size ∧ listed.getD k true = false)) → listed.size = ops.size → Closed ops listed → rem.length ≤ fuel →
    (∀ k ∈ rem, selfOk ops k = true) → pairsOk (pairOk P ops (masks ops.toList)) rem = true →
    wpOps P ops (Shaped P ops Q) rem a w → wpAny P .any ops (Strict Q) fuel listed a w := by
  intro fuel
  induction fuel with
  | zero =>
    intro listed rem a w hrem hsz hcl hlen hself hpairs h
    obtain rfl : rem = [] := List.eq_nil_of_length_eq_zero (by omega)
    refine ⟨?_, h.2⟩
    refine List.eq_nil_iff_forall_not_mem.2 fun i hi => ?_
    obtain ⟨h0, o, ho, _⟩ := mem_ready.1 hi
    have := (hrem i).2 ⟨(Array.getElem?_eq_some_iff.1 ho).1, h0⟩
    simp at this
  | succ fuel ih =>
    intro listed rem a w hrem hsz hcl hlen hself hpairs h
    have hunl : ∀ k, k < ops.size → listed.getD k true = listed.getD k false := fun k hk => by
      have hk' : k < listed.size := by omega
      simp [hk']
    refine ⟨fun hnil => ?_, fun i hi => ?_⟩
    · cases rem with
      | nil => exact h.2
      | cons r rest =>
        exfalso
        obtain ⟨hr, hr0⟩ := (hrem r).1 List.mem_cons_self
        have ho : ops[r]? = some ops[r] := Array.getElem?_eq_getElem hr
        have hs := hself r List.mem_cons_self
        unfold selfOk at hs
        rw [ho] at hs
        simp only [Bool.and_eq_true, Array.all_eq_true_iff_forall_mem, Bool.or_eq_true, Bool.not_eq_true', bne_iff_ne, ne_eq, decide_eq_true_eq] at hs
        have : r ∈ Region.ready .any ops listed := by
          refine mem_ready.2 ⟨hr0, ops[r], ho, fun e he hb => ?_⟩
          rcases hs.2 e he with hb' | ⟨hne, hlt⟩
          · rw [hb] at hb'; cases hb'
          · cases hl : listed.getD e.on false with
            | true => rfl
            | false =>
              have hmem : e.on ∈ r :: rest := (hrem e.on).2 ⟨hlt, by rw [hunl _ hlt]; exact hl⟩
              rcases List.mem_cons.1 hmem with heq | hmem
              · exact absurd heq hne
              · simp only [pairsOk, Bool.and_eq_true, List.all_eq_true] at hpairs
                obtain ⟨oj, oi, hoj, hoi, _, hno, _⟩ := pairOk_spec (hpairs.1 _ hmem)
                rw [ho] at hoj; cases hoj
                exact absurd rfl (hno e he hb)
        rw [hnil] at this
        cases this
    · obtain ⟨hi0, oi, ho, hall⟩ := mem_ready.1 hi
      have hisz : i < ops.size := (Array.getElem?_eq_some_iff.1 ho).1
      have himem : i ∈ rem := (hrem i).2 ⟨hisz, hi0⟩
      obtain ⟨pre, post, rfl⟩ := List.append_of_mem himem
      obtain ⟨_, hp2, hp3⟩ := pairsOk_append hpairs
      have hp2' := hp2
      simp only [pairsOk, Bool.and_eq_true, List.all_eq_true] at hp2'
      have selfof : ∀ k ∈ pre ++ i :: post, ∀ o, ops[k]? = some o → needShape o = true → dstIn ops o.dst o = false := fun k hk o hok hn => by
        have hs := hself k hk
        unfold selfOk at hs
        rw [hok] at hs
        simp only [Bool.and_eq_true] at hs
        have := hs.1
        rw [hn] at this
        simpa using this
      have hfront := toFront (P := P) (Q := Q) ho hsel (fun hn => selfof i himem oi ho hn)
        (fun k hk o hok hn => by
          obtain ⟨oj, oi', hoj, hoi, _, _, hd, _⟩ := pairOk_spec (hp2'.1 k hk)
          rw [ho] at hoj; cases hoj
          rw [hok] at hoi; cases hoi
          exact hd hn) pre a w
        (fun j hj => by
          obtain ⟨oj, oi', hoj, hoi, _, _, _, hor⟩ := pairOk_spec (hp3 j hj i List.mem_cons_self)
          rw [ho] at hoi; cases hoi
          refine ⟨oj, hoj, ?_⟩
          rcases hor with hw | ⟨hap, hk⟩
          · exfalso
            have hjl := hcl.ready hi (masks_waits ops i j hw)
            have hj0 := ((hrem j).1 (List.mem_append_left _ hj))
            rw [hunl j hj0.1, hjl] at hj0
            cases hj0.2
          · exact ⟨hap, hk, fun hn => selfof j (List.mem_append_left _ hj) oj hoj hn⟩)
        (pairsOk_imp (fun j k hjk => by
          obtain ⟨oj, ok, hoj, hok, _, _, hd, _⟩ := pairOk_spec hjk
          simp only [hoj, hok]
          cases hn : needShape oj with
          | false => rfl
          | true => simp [hd hn]) hpairs) h
      refine wpOp_imp (fun a' w' h' => ?_) hfront
      refine ih (listed.setIfInBounds i true) (pre ++ post) a' w' ?_ (by simpa using hsz) ?_ (by simp at hlen ⊢; omega) ?_ (pairsOk_erase hpairs) h'
      · intro k
        have hne : k ∈ pre ++ post → k ≠ i := fun hk => by
          rcases List.mem_append.1 hk with hk | hk
          · obtain ⟨_, _, _, _, hne, _⟩ := pairOk_spec (hp3 k hk i List.mem_cons_self); exact hne
          · obtain ⟨_, _, _, _, hne, _⟩ := pairOk_spec (hp2'.1 k hk); exact fun e => hne e.symm
        constructor
        · intro hk
          have := (hrem k).1 (by
            rcases List.mem_append.1 hk with hk | hk
            · exact List.mem_append_left _ hk
            · exact List.mem_append_right _ (List.mem_cons_of_mem _ hk))
          exact ⟨this.1, by rw [getD_set_ne true (Ne.symm (hne hk))]; exact this.2⟩
        · rintro ⟨hk1, hk2⟩
          have hki : i ≠ k := by
            rintro rfl
            have : i < listed.size := by omega
            simp [this] at hk2
          rw [getD_set_ne true hki] at hk2
          have := (hrem k).2 ⟨hk1, hk2⟩
          rcases List.mem_append.1 this with hk | hk
          · exact List.mem_append_left _ hk
          · rcases List.mem_cons.1 hk with hk | hk
            · exact absurd hk.symm hki
            · exact List.mem_append_right _ hk
      · intro k o hk hkl e he hb
        by_cases hik : i = k
        · subst hik
          rw [ho] at hk; cases hk
          exact getD_set_true (hall e he hb)
        · rw [getD_set_ne false hik] at hkl
          exact getD_set_true (hcl k o hk hkl e he hb)
      · intro k hk
        refine hself k ?_
        rcases List.mem_append.1 hk with hk | hk
        · exact List.mem_append_left _ hk
        · exact List.mem_append_right _ (List.mem_cons_of_mem _ hk)

/-- One such order: what reads alone as early as may be. -/
def lineGo (P : Program) (ops : Array Oper) : Nat → Array Bool → List Nat
  | 0, _ => []
  | n + 1, listed =>
    let r := Region.ready .any ops listed
    match r.find? (fun i => decide (kindOf P (ops.getD i default) ≤ 1)) with
    | some i => i :: lineGo P ops n (listed.setIfInBounds i true)
    | none => match r with
      | [] => []
      | i :: _ => i :: lineGo P ops n (listed.setIfInBounds i true)
def lineOf (P : Program) (ops : Array Oper) : List Nat := lineGo P ops ops.size (Array.replicate ops.size false)

/-- **A region that draws its order: walked in one order.** -/
theorem wp_region_order {id : Nat} {a : Act} {w : World} (L : List Nat) (hm : P.follows .mixedOrders = true) (hL : okOrder P ops L = true)
    (h : wpOps P ops (Shaped P ops Q) L a w.drew) : (Code.region id ops true).wp P Q a w := by
  unfold okOrder at hL
  simp only [Bool.and_eq_true, List.all_eq_true, List.mem_range, List.contains_iff_mem, decide_eq_true_eq] at hL
  obtain ⟨⟨⟨⟨hself, hall⟩, hsel⟩, hpairs⟩, hlen⟩ := hL
  have hlt : ∀ k ∈ L, k < ops.size := fun k hk => by
    have := hself k hk
    unfold selfOk at this
    split at this
    · rename_i o ho; exact (Array.getElem?_eq_some_iff.1 ho).1
    · cases this
  refine Code.wp_mono (Q := Strict Q) (fun e a w hq => by cases e <;> first | exact hq | exact hq.elim) (wp_region_any hm ?_)
  refine wpAny_of_order hsel ops.size (Array.replicate ops.size false) L a _ ?_ (by simp) ?_ hlen hself hpairs h
  · intro k
    constructor
    · intro hk; exact ⟨hlt k hk, by simp [hlt k hk]⟩
    · rintro ⟨hk, _⟩; exact hall k hk
  · intro i o _ hl
    by_cases hi : i < ops.size <;> simp [hi] at hl

/-- The operations as they stand in an order. -/
def picks (l : List Oper) : List Nat → List Oper
  | [] => []
  | i :: L => l.getD i default :: picks l L
theorem picks_nil (l : List Oper) : picks l [] = [] := rfl
theorem picks_cons (l : List Oper) (i : Nat) (L : List Nat) : picks l (i :: L) = l.getD i default :: picks l L := rfl
theorem getD_zero (o : Oper) (l : List Oper) : (o :: l).getD 0 default = o := rfl
theorem getD_succ (o : Oper) (l : List Oper) (n : Nat) : (o :: l).getD (n + 1) default = l.getD n default := rfl

/-- The same, for the walk. -/
theorem wp_region_line {id : Nat} {a : Act} {w : World} {l : List Oper} (L : List Nat) (hm : P.follows .mixedOrders = true) (hL : okOrder P l.toArray L = true)
    (h : wpList P l.toArray (Shaped P l.toArray Q) (picks l L) a w.drew) : (Code.region id l.toArray true).wp P Q a w := by
  have hlt : ∀ k ∈ L, k < l.length := fun k hk => by
    have hL' := hL
    unfold okOrder at hL'
    simp only [Bool.and_eq_true, List.all_eq_true] at hL'
    have := hL'.1.1.1.1 k hk
    unfold selfOk at this
    split at this
    · rename_i o ho; simpa using (Array.getElem?_eq_some_iff.1 ho).1
    · cases this
  refine wp_region_order L hm hL ?_
  have key : ∀ (M : List Nat) (a : Act) (w : World), (∀ k ∈ M, k < l.length) → wpList P l.toArray (Shaped P l.toArray Q) (picks l M) a w → wpOps P l.toArray (Shaped P l.toArray Q) M a w := by
    intro M
    induction M with
    | nil => intro a w _ h; exact h
    | cons i M ih =>
      intro a w hM h
      have hi := hM i List.mem_cons_self
      have hM' := fun k hk => hM k (List.mem_cons_of_mem _ hk)
      have ho : l.toArray[i]? = some (l.getD i default) := by simp [List.getD_eq_getElem?_getD, hi]
      rw [picks_cons] at h
      rw [wpOps_cons]
      unfold wpOp
      simp only [ho]
      unfold wpList at h
      split
      · rename_i hw
        rw [if_pos hw] at h
        exact h.imp (Oper.wp_mono fun a w h => ih a w hM' h) (fun h => h)
      · rename_i hw
        rw [if_neg hw] at h
        exact ih _ _ hM' h
  exact key L a _ hlt h
end

end Go.Proofs.Ytmlifjfgelfbbaa
