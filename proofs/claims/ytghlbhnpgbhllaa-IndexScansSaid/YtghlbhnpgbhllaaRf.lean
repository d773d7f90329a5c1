/-
  A range over a function, in terms of blocks: the loop's record and its block of deferred calls are blocks like others. No program of Go's is spoken of.
-/
import Derived.RangeFuncNested
import Derived.OrdersIn
import Derived.RangeFuncCalls
import Derived.RangeFuncLeaves
import Derived.Test.YtghlbhnpgbhllaaSl
import Derived.Test.YtghlbhnpgbhllaaRg
namespace Go.Proofs.Ytghlbhnpgbhllaa
open Go Go.RowKit

theorem At.putObj {w0 w : World} {A : HP} {b : Nat} {o : Obj} (h : At w0 (pt b o * A) w) (o' : Obj) : At w0 (pt b o' * A) (w.putObj b o') :=
  h.upd rfl rfl rfl (World.putObj_heap_same h.lt) fun _ _ hk hx => (World.putObj_heap_other hk).trans hx

/-- What an iterator that hands out xs promises: T is what it reads when it is called. -/
def SeqAt {α : Type} (P : Program) (gf : FuncId) (ft lb : Array Value) (encs : α → Array Value) (w0 : World) (T : HP) (xs : List α) : Prop :=
  ∀ (n l : Nat) (J : List α → HP) (Jr B : HP) (W : World), (∃ C, At w0 (T * C) W) → At w0 (J [] * B) W →
    (∀ m pre x W1, pre ++ [x] <+: xs → At w0 (J pre * B) W1 → YieldAt Fence.wide m P l (encs x) W1 fun e W' =>
      (e = .returned (.bool true) ∧ At w0 (J (pre ++ [x]) * B) W') ∨ (e = .returned (.bool false) ∧ At w0 (Jr * B) W')) →
    CallsIn Fence.wide n P gf (ft ++ #[.func (.yield l) #[] #[]] ++ lb) W fun e W' => (∃ v, e = .returned v) ∧ (At w0 (J xs * B) W' ∨ At w0 (Jr * B) W')

/-- How a round may be left: it goes on, or the function is left. -/
def roundsPost (w0 : World) (Jn Jr B : HP) : Exit → Act → World → Prop
  | .normal, _, W' => At w0 (Jn * B) W'
  | .ret, _, W' => At w0 (Jr * B) W'
  | _, _, _ => False

theorem wp_rangeFunc_at {α : Type} {P : Program} {n : Nat} {g : Operand} {ps : Array Tmp} {assign body : Code} {Q : Exit → Act → World → Prop} {a : Act} {w w0 : World}
    {gf : Nat} {ft lb : Array Value} (hg : a.eval g = .func (.func gf) ft lb) (eg : ∀ args w, (callFunc gf args).run P w = .ok (.enter gf args) w)
    {encs : α → Array Value} {T : HP} {xs : List α} (hseq : SeqAt P gf ft lb encs w0 T xs) (hps : ∀ x, (encs x).size = ps.size)
    (J : List α → HP) (Jr R : HP) (hT : ∃ C, At w0 (T * C) w) (h0 : At w0 (J [] * R) w)
    (hround : ∀ (l : Nat) (pre : List α) (x : α) (B : HP) (W : World), pre ++ [x] <+: xs → At w0 (J pre * B) W →
      assign.wpIn (Fence.wide.inRound l) 9 P (Exit.then (fun a₁ W1 => ∃ A1 : HP, At w0 (A1 * B) W1 ∧
          ∀ B2 W2, At w0 (A1 * B2) W2 → body.wpIn (Fence.wide.inRound l) 9 P (roundsPost w0 (J (pre ++ [x])) Jr B2) a₁ W2) (fun _ _ _ => False))
        { tmps := (ps.zip (encs x)).foldl (fun t (p, v) => t.setIfInBounds p v) a.tmps, defers := [] } W)
    (hdone : ∀ (D : Nat) (W : World), At w0 (J xs * (pt D (.deferred (some [])) * R)) W → Q .normal { a with defers := { target := .collected D, args := #[] } :: a.defers } W)
    (hstop : ∀ (D : Nat) (W : World), At w0 (Jr * (pt D (.deferred (some [])) * R)) W → Code.ret.wpIn Fence.wide n P Q { a with defers := { target := .collected D, args := #[] } :: a.defers } W) :
    (Code.rangeFunc g ps assign body).wpIn Fence.wide n P Q a w := by
  refine wpIn_rangeFunc ?_
  intro fn hfn
  obtain ⟨rec, hrec⟩ : ∃ rec : LoopState → Option Code → Loop, rec = fun st pe => { state := st, pending := pe, fn, tmps := a.tmps, params := ps, assign, body, defers := w.heap.size } := ⟨_, rfl⟩
  obtain ⟨L, hL⟩ : ∃ L, w.heap.size + 1 = L := ⟨_, rfl⟩
  obtain ⟨D, hD⟩ : ∃ D, w.heap.size = D := ⟨_, rfl⟩
  have h1 : At w0 (J [] * (pt L (.loop (rec .ready none)) * (pt D (.deferred (some [])) * R))) ((w.alloc (.deferred (some []))).alloc (.loop (rec .ready none))) :=
    ((h0.alloc' hD (.deferred (some []))).alloc' (show _ = L by simp [hL]) (.loop (rec .ready none))).cast (by ac_rfl)
  have hT1 : ∃ C, At w0 (T * C) ((w.alloc (.deferred (some []))).alloc (.loop (rec .ready none))) := by
    obtain ⟨C, hC⟩ := hT
    exact ⟨_, ((hC.alloc (.deferred (some []))).alloc (.loop (rec .ready none))).cast (show _ = T * (pt _ _ * (pt _ _ * C)) by ac_rfl)⟩
  obtain ⟨W1, hW1⟩ : ∃ W1, (w.alloc (.deferred (some []))).alloc (.loop (rec .ready none)) = W1 := ⟨_, rfl⟩
  rw [hW1] at h1 hT1
  refine ⟨L, [{ target := .collected D, args := #[] }], W1, { target := .fn (.func gf) lb, args := ft ++ #[.func (.yield L) #[] #[]] }, W1, gf,
    ft ++ #[.func (.yield L) #[] #[]] ++ lb, W1, ?_, ?_, fun _ _ => trivial, ?_, fun h => by simp [Fence.wide] at h, ?_⟩
  · rw [← hW1, hrec, ← hL, ← hD]; exact run_enterLoop_outer _ _ _ _ _
  · simp only [resolve, hg]
    simp [go_sem]
  · simp [invoke, go_sem, eg]
  · refine (hseq (n - 1) L (fun pre => J pre * pt L (.loop (rec .ready none))) (Jr * pt L (.loop (rec .done (some .ret)))) (pt D (.deferred (some [])) * R) W1 hT1 (h1.cast (by ac_rfl)) ?_).mono ?_
    · intro m pre x W hpre h
      have hl := At.blk (h.cast (show _ = pt L (.loop (rec .ready none)) * (J pre * (pt D (.deferred (some [])) * R)) by ac_rfl))
      have hy := run_yield (P := P) (args := encs x) hl (by rw [hrec]; exact hps x)
      rw [hrec] at hy
      have hr := hround L pre x (pt L (.loop (rec .ready none)) * (pt D (.deferred (some [])) * R)) W hpre (h.cast (by ac_rfl))
      have hR : RoundIn Fence.wide 9 P L fn ((ps.zip (encs x)).foldl (fun t (p, v) => t.setIfInBounds p v) a.tmps) assign body W fun e W' =>
          (e = .returned (.bool true) ∧ At w0 (J (pre ++ [x]) * pt L (.loop (rec .ready none)) * (pt D (.deferred (some [])) * R)) W') ∨
          (e = .returned (.bool false) ∧ At w0 (Jr * pt L (.loop (rec .done (some .ret))) * (pt D (.deferred (some [])) * R)) W') := by
        refine roundIn_of_wpIn hfn (wpIn_mono hr ?_)
        intro e a₁ W2 hp
        cases e with
        | normal =>
          obtain ⟨A1, hA1, hb⟩ := hp
          have hA2 := hA1.pull2
          refine ⟨_, run_beginRound (At.blk hA2) (by rw [hrec]), ?_⟩
          have hb2 := hb _ _ ((At.putObj hA2 (.loop { rec .ready none with state := .busy })).cast (HP.mul_left_comm _ _ _))
          refine wpIn_mono hb2 ?_
          intro e a3 W3 hp3
          cases e with
          | normal =>
            have h3 : At w0 (J (pre ++ [x]) * (pt L (.loop { rec .ready none with state := .busy }) * (pt D (.deferred (some [])) * R))) W3 := hp3
            refine ⟨_, _, run_endRound none (At.blk h3.pull2), .inl ⟨rfl, ?_⟩⟩
            have h4 := At.putObj h3.pull2 (.loop { rec .ready none with state := .ready, pending := none })
            rw [hrec] at h4 ⊢
            exact h4.cast (by ac_rfl)
          | ret =>
            have h3 : At w0 (Jr * (pt L (.loop { rec .ready none with state := .busy }) * (pt D (.deferred (some [])) * R))) W3 := hp3
            refine ⟨_, _, run_endRound (some .ret) (At.blk h3.pull2), .inr ⟨rfl, ?_⟩⟩
            have h4 := At.putObj h3.pull2 (.loop { rec .ready none with state := .done, pending := some .ret })
            rw [hrec] at h4 ⊢
            exact h4.cast (by ac_rfl)
          | exit id => exact hp3.elim
          | goto t => exact hp3.elim
          | panic ch => exact hp3.elim
          | outgrown => exact hp3.elim
        | ret => exact hp.elim
        | exit id => exact hp.elim
        | goto t => exact hp.elim
        | panic ch => exact hp.elim
        | outgrown => exact hp.elim
      refine ⟨fn, _, assign, body, hy, hR.1, fun c cs _ => ?_⟩
      obtain ⟨e, w', hq, hs⟩ := hR.2 c cs (room_wide _)
      exact ⟨e, w', hq, hs⟩
    · rintro e W2 ⟨⟨v, rfl⟩, (h | h)⟩
      · have h2 := h.cast (show _ = pt L (.loop (rec .ready none)) * (J xs * (pt D (.deferred (some [])) * R)) by ac_rfl)
        refine ⟨none, _, by have := run_endLoop (P := P) (At.blk h2) (by rw [hrec]; simp); rw [hrec] at this; exact this, hdone D _ ?_⟩
        exact (At.putObj h2 _).r
      · have h2 := h.cast (show _ = pt L (.loop (rec .done (some .ret))) * (Jr * (pt D (.deferred (some [])) * R)) by ac_rfl)
        refine ⟨some .ret, _, by have := run_endLoop (P := P) (At.blk h2) (by rw [hrec]; simp); rw [hrec] at this; exact this, hstop D _ ?_⟩
        exact (At.putObj h2 _).r

/-! ### A region that draws its order, in a round -/
def noDefer (l : List Oper) : Bool := l.all fun o => match o.op with
  | .defer _ => false
  | _ => true

section
variable {P : Program} {ops : Array Oper} {Q : Exit → Act → World → Prop} {r n : Nat}

theorem noDefer_at {l : List Oper} (h : noDefer l = true) {i : Nat} {o : Oper} (ho : l.toArray[i]? = some o) : ∀ c, o.op ≠ .defer c := by
  intro c e
  unfold noDefer at h
  simp only [List.all_eq_true] at h
  have := h o (List.mem_of_getElem? (by simpa using ho))
  rw [e] at this
  cases this

theorem letsOut_strict (h : LetsOut (Strict Q)) : False := by
  obtain ⟨a, w, h⟩ := h
  exact h

theorem wpOp_in {i : Nat} {K : Act → World → Prop} {a : Act} {w : World} (hd : ∀ o, ops[i]? = some o → ∀ c, o.op ≠ .defer c) (h : wpOp P ops (Strict Q) i K a w) :
    wpOpIn (Fence.wide.inRound r) n P ops Q i K a w := by
  unfold wpOp at h
  unfold Go.wpOpIn
  cases ho : ops[i]? with
  | none => rw [ho] at h; exact h
  | some o =>
    rw [ho] at h
    simp only at h ⊢
    by_cases hw : Region.wanted o (yielded ops a.tmps) = true
    · rw [if_pos hw] at h ⊢
      rcases h with h | ⟨_, h⟩
      · refine ⟨fun _ _ => trivial, ?_⟩
        unfold Oper.wp at h
        rw [Oper.semAt_eq _ _ _ (hd o ho)]
        generalize (execOp a.eval o).run P w = x at h
        cases x with
        | ok x w' =>
          cases x with
          | value v => exact h
          | skip => exact h
          | defer d => exact h
          | enter f args =>
            refine ⟨fun h => by simp [Fence.wide] at h, ?_⟩
            refine (CallsIn.inRound r (callsIn_wide.2 h)).mono ?_
            intro e w' he
            cases e with
            | returned v => exact he
            | panicked ch => exact he.elim
            | outgrown => exact (letsOut_strict he).elim
          | row row args =>
            refine ⟨fun h => by simp [Fence.wide] at h, fun c cs _ => ?_⟩
            obtain ⟨v, w', hv, hs⟩ := h c cs
            exact ⟨v, w', hv, (stepsIn_wide (P := P)).2 hs⟩
          | _ => exact h.elim
        | halt x w' => cases x <;> exact h.elim
      · exact (letsOut_strict h).elim
    · rw [if_neg hw] at h ⊢
      exact ⟨fun _ _ => trivial, h⟩

theorem wpAny_in (hd : ∀ (i : Nat) (o : Oper), ops[i]? = some o → ∀ c, o.op ≠ .defer c) : ∀ (fuel : Nat) (listed : Array Bool) (a : Act) (w : World),
    wpAny P .any ops (Strict Q) fuel listed a w → wpAnyIn (Fence.wide.inRound r) n P .any ops Q fuel listed a w := by
  intro fuel
  induction fuel with
  | zero => exact fun listed a w h => h
  | succ fuel ih =>
    intro listed a w h
    exact ⟨h.1, fun i hi => wpOpIn_mono (fun a w h => ih _ a w h) (wpOp_in (hd i) (h.2 i hi))⟩

/-- **A region that draws its order, in a round: walked in one order.** -/
theorem wpIn_region_order {id : Nat} {a : Act} {w : World} (L : List Nat) (hm : P.follows .mixedOrders = true) (hL : okOrder P ops L = true) (hd : ∀ (i : Nat) (o : Oper), ops[i]? = some o → ∀ c, o.op ≠ .defer c)
    (h : wpOps P ops (Shaped P ops Q) L a w.drew) : (Code.region id ops true).wpIn (Fence.wide.inRound r) n P Q a w := by
  unfold okOrder at hL
  simp only [Bool.and_eq_true, List.all_eq_true, List.mem_range, List.contains_iff_mem, decide_eq_true_eq] at hL
  obtain ⟨⟨⟨⟨hself, hall⟩, hsel⟩, hpairs⟩, hlen⟩ := hL
  have hlt : ∀ k ∈ L, k < ops.size := fun k hk => by
    have := hself k hk
    unfold selfOk at this
    split at this
    · rename_i o ho; exact (Array.getElem?_eq_some_iff.1 ho).1
    · cases this
  refine wpIn_region_any hm (wpAny_in hd _ _ _ _ ?_)
  refine wpAny_of_order hsel ops.size (Array.replicate ops.size false) L a _ ?_ (by simp) ?_ hlen hself hpairs h
  · intro k
    constructor
    · intro hk; exact ⟨hlt k hk, by simp [hlt k hk]⟩
    · rintro ⟨hk, _⟩; exact hall k hk
  · intro i o _ hl
    by_cases hi : i < ops.size <;> simp [hi] at hl

theorem wpIn_region_line {id : Nat} {a : Act} {w : World} {l : List Oper} (L : List Nat) (hm : P.follows .mixedOrders = true) (hL : okOrder P l.toArray L = true) (hd : noDefer l = true)
    (h : wpList P l.toArray (Shaped P l.toArray Q) (picks l L) a w.drew) : (Code.region id l.toArray true).wpIn (Fence.wide.inRound r) n P Q a w := by
  have hlt : ∀ k ∈ L, k < l.length := fun k hk => by
    have hL' := hL
    unfold okOrder at hL'
    simp only [Bool.and_eq_true, List.all_eq_true] at hL'
    have := hL'.1.1.1.1 k hk
    unfold selfOk at this
    split at this
    · rename_i o ho; simpa using (Array.getElem?_eq_some_iff.1 ho).1
    · cases this
  refine wpIn_region_order L hm hL (fun i o ho => noDefer_at hd ho) ?_
  have key : ∀ (M : List Nat) (a : Act) (w : World), (∀ k ∈ M, k < l.length) → wpList P l.toArray (Shaped P l.toArray Q) (picks l M) a w → wpOps P l.toArray (Shaped P l.toArray Q) M a w := by
    intro M
    induction M with
    | nil => intro a w _ h; exact h
    | cons i M ih =>
      intro a w hM h
      have hi := hM i List.mem_cons_self
      have hM' := fun k hk => hM k (List.mem_cons_of_mem _ hk)
      have ho : l.toArray[i]? = some (l.getD i default) := by simp [List.getD_eq_getElem?_getD, hi]
      rw [picks_cons] at h
      rw [wpOps_cons]
      unfold wpOp
      simp only [ho]
      unfold wpList at h
      split
      · rename_i hw
        rw [if_pos hw] at h
        exact h.imp (Oper.wp_mono fun a w h => ih a w hM' h) (fun h => h)
      · rename_i hw
        rw [if_neg hw] at h
        exact ih _ _ hM' h
  exact key L a _ hlt h
end

end Go.Proofs.Ytghlbhnpgbhllaa
