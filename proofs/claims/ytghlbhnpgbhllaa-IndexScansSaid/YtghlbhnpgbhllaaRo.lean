/-
  A range over a function that reads blocks while it goes on; rounds may be left by return or by break. No program of Go's is spoken of.
-/
import Derived.Test.YtghlbhnpgbhllaaRf
namespace Go.Proofs.Ytghlbhnpgbhllaa
open Go Go.RowKit

/-- What an iterator that hands out xs promises; T: the blocks that it reads, from first to last. -/
def SeqOn {α : Type} (P : Program) (gf : FuncId) (ft lb : Array Value) (encs : α → Array Value) (w0 : World) (T : HP) (xs : List α) : Prop :=
  ∀ (n l : Nat) (J : List α → HP) (S B : HP) (W : World), At w0 (T * (J [] * B)) W →
    (∀ m pre x W1, pre ++ [x] <+: xs → At w0 (T * (J pre * B)) W1 → YieldAt Fence.wide m P l (encs x) W1 fun e W' =>
      (e = .returned (.bool true) ∧ At w0 (T * (J (pre ++ [x]) * B)) W') ∨ (e = .returned (.bool false) ∧ At w0 (S * B) W')) →
    CallsIn Fence.wide n P gf (ft ++ #[.func (.yield l) #[] #[]] ++ lb) W fun e W' => (∃ v, e = .returned v) ∧ (At w0 (T * (J xs * B)) W' ∨ At w0 (S * B) W')

/-- How a round is left that does not go on: by return, or by a jump out. -/
def pend : Option Nat → Code
  | none => .ret
  | some id => .exit id
def roundsX (w0 : World) (Jn : HP) (JX : Option Nat → HP) (B : HP) : Exit → Act → World → Prop
  | .normal, _, W' => At w0 (Jn * B) W'
  | .ret, _, W' => At w0 (JX none * B) W'
  | .exit id, _, W' => At w0 (JX (some id) * B) W'
  | _, _, _ => False

theorem wp_rangeFunc_on {α : Type} {P : Program} {n : Nat} {g : Operand} {ps : Array Tmp} {assign body : Code} {Q : Exit → Act → World → Prop} {a : Act} {w w0 : World}
    {gf : Nat} {ft lb : Array Value} (hg : a.eval g = .func (.func gf) ft lb) (eg : ∀ args w, (callFunc gf args).run P w = .ok (.enter gf args) w)
    {encs : α → Array Value} {T : HP} {xs : List α} (hseq : SeqOn P gf ft lb encs w0 T xs) (hps : ∀ x, (encs x).size = ps.size)
    (J : List α → HP) (JX : Option Nat → HP) (R : HP) (h0 : At w0 (T * (J [] * R)) w)
    (hround : ∀ (l : Nat) (pre : List α) (x : α) (B : HP) (W : World), pre ++ [x] <+: xs → At w0 (T * (J pre * B)) W →
      assign.wpIn (Fence.wide.inRound l) 9 P (Exit.then (fun a₁ W1 => ∃ A1 : HP, At w0 (A1 * B) W1 ∧
          ∀ B2 W2, At w0 (A1 * B2) W2 → body.wpIn (Fence.wide.inRound l) 9 P (roundsX w0 (T * J (pre ++ [x])) JX B2) a₁ W2) (fun _ _ _ => False))
        { tmps := (ps.zip (encs x)).foldl (fun t (p, v) => t.setIfInBounds p v) a.tmps, defers := [] } W)
    (hdone : ∀ (D : Nat) (W : World), At w0 (T * (J xs * (pt D (.deferred (some [])) * R))) W → Q .normal { a with defers := { target := .collected D, args := #[] } :: a.defers } W)
    (hstop : ∀ (o : Option Nat) (D : Nat) (W : World), At w0 (JX o * (pt D (.deferred (some [])) * R)) W → (pend o).wpIn Fence.wide n P Q { a with defers := { target := .collected D, args := #[] } :: a.defers } W) :
    (Code.rangeFunc g ps assign body).wpIn Fence.wide n P Q a w := by
  refine wpIn_rangeFunc ?_
  intro fn hfn
  obtain ⟨rec, hrec⟩ : ∃ rec : LoopState → Option Code → Loop, rec = fun st pe => { state := st, pending := pe, fn, tmps := a.tmps, params := ps, assign, body, defers := w.heap.size } := ⟨_, rfl⟩
  obtain ⟨L, hL⟩ : ∃ L, w.heap.size + 1 = L := ⟨_, rfl⟩
  obtain ⟨D, hD⟩ : ∃ D, w.heap.size = D := ⟨_, rfl⟩
  have h1 : At w0 (T * (J [] * pt L (.loop (rec .ready none)) * (pt D (.deferred (some [])) * R))) ((w.alloc (.deferred (some []))).alloc (.loop (rec .ready none))) :=
    ((h0.alloc' hD (.deferred (some []))).alloc' (show _ = L by simp [hL]) (.loop (rec .ready none))).cast (by ac_rfl)
  obtain ⟨W1, hW1⟩ : ∃ W1, (w.alloc (.deferred (some []))).alloc (.loop (rec .ready none)) = W1 := ⟨_, rfl⟩
  rw [hW1] at h1
  refine ⟨L, [{ target := .collected D, args := #[] }], W1, { target := .fn (.func gf) lb, args := ft ++ #[.func (.yield L) #[] #[]] }, W1, gf,
    ft ++ #[.func (.yield L) #[] #[]] ++ lb, W1, ?_, ?_, fun _ _ => trivial, ?_, fun h => by simp [Fence.wide] at h, ?_⟩
  · rw [← hW1, hrec, ← hL, ← hD]; exact run_enterLoop_outer _ _ _ _ _
  · simp only [resolve, hg]
    simp [go_sem]
  · simp [invoke, go_sem, eg]
  · refine (hseq (n - 1) L (fun pre => J pre * pt L (.loop (rec .ready none))) (hex fun o => JX o * pt L (.loop (rec .done (some (pend o))))) (pt D (.deferred (some [])) * R) W1 h1 ?_).mono ?_
    · intro m pre x W hpre h
      have hl := At.blk (h.cast (show _ = pt L (.loop (rec .ready none)) * (T * (J pre * (pt D (.deferred (some [])) * R))) by ac_rfl))
      have hy := run_yield (P := P) (args := encs x) hl (by rw [hrec]; exact hps x)
      rw [hrec] at hy
      have hr := hround L pre x (pt L (.loop (rec .ready none)) * (pt D (.deferred (some [])) * R)) W hpre (h.cast (by ac_rfl))
      have hR : RoundIn Fence.wide 9 P L fn ((ps.zip (encs x)).foldl (fun t (p, v) => t.setIfInBounds p v) a.tmps) assign body W fun e W' =>
          (e = .returned (.bool true) ∧ At w0 (T * (J (pre ++ [x]) * pt L (.loop (rec .ready none)) * (pt D (.deferred (some [])) * R))) W') ∨
          (e = .returned (.bool false) ∧ At w0 ((hex fun o => JX o * pt L (.loop (rec .done (some (pend o))))) * (pt D (.deferred (some [])) * R)) W') := by
        refine roundIn_of_wpIn hfn (wpIn_mono hr ?_)
        intro e a₁ W2 hp
        cases e with
        | normal =>
          obtain ⟨A1, hA1, hb⟩ := hp
          have hA2 := hA1.pull2
          refine ⟨_, run_beginRound (At.blk hA2) (by rw [hrec]), ?_⟩
          have hb2 := hb _ _ ((At.putObj hA2 (.loop { rec .ready none with state := .busy })).cast (HP.mul_left_comm _ _ _))
          refine wpIn_mono hb2 ?_
          intro e a3 W3 hp3
          cases e with
          | normal =>
            have h3 : At w0 ((T * J (pre ++ [x])) * (pt L (.loop { rec .ready none with state := .busy }) * (pt D (.deferred (some [])) * R))) W3 := hp3
            refine ⟨_, _, run_endRound none (At.blk h3.pull2), .inl ⟨rfl, ?_⟩⟩
            have h4 := At.putObj h3.pull2 (.loop { rec .ready none with state := .ready, pending := none })
            rw [hrec] at h4 ⊢
            exact h4.cast (by ac_rfl)
          | ret =>
            have h3 : At w0 (JX none * (pt L (.loop { rec .ready none with state := .busy }) * (pt D (.deferred (some [])) * R))) W3 := hp3
            refine ⟨_, _, run_endRound (some .ret) (At.blk h3.pull2), .inr ⟨rfl, ?_⟩⟩
            have h4 := At.putObj h3.pull2 (.loop { rec .ready none with state := .done, pending := some .ret })
            refine At.mkex none ?_
            rw [hrec] at h4 ⊢
            exact h4.cast (by rw [HP.mul_left_comm]; exact (HP.mul_assoc _ _ _).symm)
          | exit id =>
            have h3 : At w0 (JX (some id) * (pt L (.loop { rec .ready none with state := .busy }) * (pt D (.deferred (some [])) * R))) W3 := hp3
            refine ⟨_, _, run_endRound (some (.exit id)) (At.blk h3.pull2), .inr ⟨rfl, ?_⟩⟩
            have h4 := At.putObj h3.pull2 (.loop { rec .ready none with state := .done, pending := some (.exit id) })
            refine At.mkex (some id) ?_
            rw [hrec] at h4 ⊢
            exact h4.cast (by rw [HP.mul_left_comm]; exact (HP.mul_assoc _ _ _).symm)
          | goto t => exact hp3.elim
          | panic ch => exact hp3.elim
          | outgrown => exact hp3.elim
        | ret => exact hp.elim
        | exit id => exact hp.elim
        | goto t => exact hp.elim
        | panic ch => exact hp.elim
        | outgrown => exact hp.elim
      refine ⟨fn, _, assign, body, hy, hR.1, fun c cs _ => ?_⟩
      obtain ⟨e, w', hq, hs⟩ := hR.2 c cs (room_wide _)
      exact ⟨e, w', hq, hs⟩
    · rintro e W2 ⟨⟨v, rfl⟩, (h | h)⟩
      · have h2 := h.cast (show _ = pt L (.loop (rec .ready none)) * (T * (J xs * (pt D (.deferred (some [])) * R))) by ac_rfl)
        refine ⟨none, _, by have := run_endLoop (P := P) (At.blk h2) (by rw [hrec]; simp); rw [hrec] at this; exact this, hdone D _ ?_⟩
        exact (At.putObj h2 _).r
      · obtain ⟨o, h⟩ := h.exl
        have h2 := h.cast (show _ = pt L (.loop (rec .done (some (pend o)))) * (JX o * (pt D (.deferred (some [])) * R)) by ac_rfl)
        refine ⟨some (pend o), _, by have := run_endLoop (P := P) (At.blk h2) (by rw [hrec]; simp); rw [hrec] at this; exact this, hstop o D _ ?_⟩
        exact (At.putObj h2 _).r
end Go.Proofs.Ytghlbhnpgbhllaa
