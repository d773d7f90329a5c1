/-
  Maps from numbers to truths, in terms of blocks. No program of Go's is spoken of.
-/
import Derived.Maps.OwnSet
import Derived.Maps.OwnOps
import Derived.Maps.RangeWalk
import Derived.Test.YtgkibjjcdcpkfaaSl
namespace Go.Proofs.Ytgkibjjcdcpkfaa
open Go Go.RowKit Go.Maps

section
variable {w0 w w' : World} {A R : HP} {P : Program} {k e : TypeId} {b n n' : Nat} {D D' : DataW Unit}

theorem At.grown (h : At w0 A w) (hg : w.grownBy w' none) : At w0 A w' := by
  obtain ⟨x, hx, hs⟩ := h.heap
  refine ⟨hg.os.trans h.os, hg.tape.trans h.tape, hg.output.trans h.output, x, hx, fun k o e => ?_⟩
  have hw := hs k o e
  exact (hg.block k (Array.getElem?_eq_some_iff.1 hw).1 (by simp)).trans hw

/-- Block b is a map of at most n entries that reads as D. -/
def mp (P : Program) (k e : TypeId) (b n : Nat) (D : DataW Unit) : HP :=
  hex fun o => fact (∀ w : World, w.heap[b]? = some o → w.ownsMap P k (plainElem P e) b n D) * pt b o

theorem At.mp_of {o : Obj} (h : At w0 (pt b o * R) w) (ho : w.ownsMap P k (plainElem P e) b n D) : At w0 (mp P k e b n D * R) w := by
  refine At.mkex o (At.assoc' (At.mkfact ?_ h))
  intro w2 h2
  obtain ⟨es, clock, hb, rest⟩ := ho
  rw [h.blk] at hb
  cases hb
  exact ⟨es, clock, h2, rest⟩
theorem At.mp_own (h : At w0 (mp P k e b n D * R) w) : w.ownsMap P k (plainElem P e) b n D := by
  obtain ⟨o, h⟩ := h.exl
  obtain ⟨hp, h'⟩ := h.assoc.factl
  exact hp w h'.blk
theorem At.mp_grown (h : At w0 (mp P k e b n D * R) w) (hg : w.grownBy w' (some b)) (ho : w'.ownsMap P k (plainElem P e) b n' D') : At w0 (mp P k e b n' D' * R) w' := by
  obtain ⟨o, h⟩ := h.exl
  obtain ⟨_, h'⟩ := h.assoc.factl
  obtain ⟨es, clock, hb, rest⟩ := ho
  refine At.mp_of (At.upd h' hg.os hg.tape hg.output hb fun i x hi hx => ?_) ⟨es, clock, hb, rest⟩
  exact (hg.block i (Array.getElem?_eq_some_iff.1 hx).1 (by simpa using hi)).trans hx
theorem At.mp_mono (h : At w0 (mp P k e b n D * R) w) (hn : n ≤ n') : At w0 (mp P k e b n' D * R) w := by
  obtain ⟨o, h1⟩ := h.exl
  obtain ⟨_, h2⟩ := h1.assoc.factl
  exact At.mp_of h2 (h.mp_own.mono hn)
theorem At.mp_new (h : At w0 A w) (P : Program) (k e : TypeId) : At w0 (mp P k e w.heap.size 0 (.map []) * A) (w.alloc (.map #[] 0)) :=
  At.mp_of (h.alloc _) (World.ownsMap_made w P k (plainElem P e))
end

theorem plainElem_bool_inv {P : Program} {e : TypeId} (he : P.underlying e = some .bool) {v : Value} {z : DataW Unit × List MemPlace} (h : plainElem P e v = some z) : ∃ x, v = .bool x ∧ z = (.lit (.bool x), []) := by
  unfold plainElem at h
  rw [he] at h
  cases v <;> simp at h
  exact ⟨_, rfl, h.symm⟩

theorem own_lookup_bool {P : Program} {w : World} {k e t : TypeId} {b n : Nat} {D : DataW Unit} (h : w.ownsMap P k (plainElem P e) b n D) (K : Keyed P k) (ht : P.underlying t = some (.map k e)) (he : P.underlying e = some .bool)
    (hz : (zeroValue e).run P w = .ok (.bool false) w) {key : Value} {kl : Lit} (hkey : keyOf P k key = some kl) :
    ∃ x, (Instr.lookup t (.map (some b)) key false).run P w = .ok (.bool x) w ∧ D.atKey kl (.lit (.bool false)) = .lit (.bool x) := by
  obtain ⟨v, ps, hrun, hv⟩ := h.lookup K ht hz (plainElem_bool he false) hkey
  obtain ⟨x, rfl, hx⟩ := plainElem_bool_inv he hv
  simp only [Prod.mk.injEq] at hx
  exact ⟨x, hrun, hx.1⟩

/-- The map that has just these keys, each with the truth. -/
def setD (l : List Int) : DataW Unit := l.foldl (fun D s => D.put (.int .i64 s) (.lit (.bool true))) (.map [])
theorem setD_snoc (l : List Int) (s : Int) : setD (l ++ [s]) = (setD l).put (.int .i64 s) (.lit (.bool true)) := by simp [setD]
theorem setD_map (l : List Int) : IsMap (setD l) := by
  unfold setD
  have : ∀ (l : List Int) (D : DataW Unit), IsMap D → IsMap (l.foldl (fun D s => D.put (.int .i64 s) (.lit (.bool true))) D) := by
    intro l
    induction l with
    | nil => exact fun D h => h
    | cons a l ih => exact fun D h => ih _ (h.put _ _)
  exact this l _ isMap_empty
theorem setD_true (l : List Int) (kl : Lit) (zd : DataW Unit) : (setD l).atKey kl zd = zd ∨ (setD l).atKey kl zd = .lit (.bool true) := by
  unfold setD
  have : ∀ (l : List Int) (D : DataW Unit), IsMap D → (∀ kl zd, D.atKey kl zd = zd ∨ D.atKey kl zd = .lit (.bool true)) →
      ∀ kl zd, (l.foldl (fun D s => D.put (.int .i64 s) (.lit (.bool true))) D).atKey kl zd = zd ∨ (l.foldl (fun D s => D.put (.int .i64 s) (.lit (.bool true))) D).atKey kl zd = .lit (.bool true) := by
    intro l
    induction l with
    | nil => exact fun D _ h => h
    | cons a l ih =>
      intro D hm h
      refine ih _ (hm.put _ _) fun kl zd => ?_
      by_cases hk : kl = .int .i64 a
      · subst hk
        exact .inr (atKey_put_same hm (show WideAt.IsKeyLit (.int .i64 a) from trivial) _ _)
      · rw [atKey_put_other hk]
        exact h kl zd
  exact this l _ isMap_empty (fun _ _ => .inl rfl) kl zd

/-- What a round of a range over such a map begins with. -/
def Stepped (w w' : World) (P : Program) (k e : TypeId) (b r n : Nat) (l : List Int) (x : Int) (cnt cnt' : Nat) : Prop :=
  (∃ kl left, keyOf P k (.int .i64 x) = some kl ∧ (setD l).atKey kl (.lit (.bool false)) = .lit (.bool true) ∧ w'.ranges P k (plainElem P e) b r n (setD l) left cnt') ∧ cnt' < cnt ∧ w.grownBy w' (some r)

theorem wpList_next_set {P : Program} {w : World} {ops : Array Oper} {rest : List Oper} {o : Oper} {a : Act} {Q : Exit → Act → World → Prop} (hg : o.guard = none) (it : Operand) (hop : o.op = Op.next it false) (k e : TypeId) (hk : P.underlying k = some (.int .i64)) (he : P.underlying e = some .bool)
    (b r n : Nat) (l : List Int) (left : Lit → Bool) (cnt : Nat) (hit : a.eval it = .pointer (some ⟨r, 0, none⟩)) (h : w.ranges P k (plainElem P e) b r n (setD l) left cnt)
    (hDone : wpList P ops Q rest (a.put o.dst (.tuple #[.bool false])) w)
    (hMore : ∀ (x : Int) (w' : World) (cnt' : Nat), Stepped w w' P k e b r n l x cnt cnt' →
      (Instr.entry (.pointer (some ⟨r, 0, none⟩))).run P w' = .ok (.tuple #[.int .i64 x, .bool true]) w' → wpList P ops Q rest (a.put o.dst (.tuple #[.bool true, .int .i64 x, .bool true])) w') :
    wpList P ops Q (o :: rest) a w := by
  refine wpList_next_ranges w hg it hop k (Maps.int_keyed hk) (plainElem P e) (fun x : Int => Value.int .i64 x) (fun x : Bool => Value.bool x)
    (fun key kl h => ?_) (fun v y h => ?_) b r n (setD l) left cnt hit h (fun _ _ => hDone) ?_
  · obtain ⟨x, hx, _⟩ := Maps.keyOf_int_inv hk h
    exact ⟨x, hx⟩
  · obtain ⟨x, hx, _⟩ := plainElem_bool_inv he h
    exact ⟨x, hx⟩
  · intro x c kl y w' cnt' hkey hlx hRv hat hrg1 hlt hg1 hs1 hen
    have h1 : y.1 = .lit (.bool true) := by
      rcases setD_true l kl (.lit (.bool true)) with e | e <;> rw [hat] at e <;> exact e
    obtain ⟨c', hc, hy⟩ := plainElem_bool_inv he hRv
    simp only [Value.bool.injEq] at hc
    subst hc
    rw [hy] at h1
    cases h1
    exact hMore x w' cnt' ⟨⟨kl, _, hkey, (hat _).trans (by rw [hy]), hrg1⟩, hlt, hg1⟩ hen

end Go.Proofs.Ytgkibjjcdcpkfaa
