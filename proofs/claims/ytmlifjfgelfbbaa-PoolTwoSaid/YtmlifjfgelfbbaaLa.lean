/-
  The package lane: zero, first, place, Len, Room: what they come to: contracts, no statement.
-/
import Derived.Test.YtmlifjfgelfbbaaDn
namespace Go.Proofs.Ytmlifjfgelfbbaa
open Go Go.RowKit

theorem Try.made64 (w : World) : (Instr.makeSlice 32 (.int .i64 64) (.int .i64 64)).run Try.prog w = .ok (.slice (some ⟨w.heap.size, 0, none⟩) 64 64) (w.alloc (.cells (bys (zbys 64)).toArray 5)) := by kernel_rfl

set_option maxRecDepth 100000 in
set_option maxHeartbeats 2000000 in
theorem laneZero_any (w0 w : World) (A : HP) (a : Option Addr) (c : Nat) (bs : List UInt8) (_hl : bs.length = 64) (hb : Rd w (.slice a 64 c) (bys bs)) (h : At w0 A w) :
    Calls Try.prog 62 #[.slice a 64 c] w fun e w' => e = .returned (.bool (decide (bs = zbys 64))) ∧ At w0 A w' := by
  have hmk := Try.made64
  have hcv : ∀ w : World, Rd w (.slice a 64 c) (bys bs) → _ := fun w h => run_txt (P := Try.prog) 32 5 9 Try.underlying32 Try.underlying5 Try.underlying9 h
  have hb' : Rd w.drew (.slice a 64 c) (bys bs) := hb
  have c1 := hcv w.drew hb'
  obtain ⟨zs, hzs⟩ : ∃ zs, bys (zbys 64) = zs := ⟨_, rfl⟩
  have hzr : Rd (w.drew.alloc (.cells zs.toArray 5)) (.slice (some ⟨w.heap.size, 0, none⟩) 64 64) (bys (zbys 64)) := by
    rw [hzs]
    exact Rd.new w.drew zs 5 rfl (by rw [← hzs, bys_len]; simp [zbys])
  rw [hzs] at hmk
  have c2 := hcv _ (hb'.alloc (.cells zs.toArray 5))
  have c3 := run_txt (P := Try.prog) 32 5 9 Try.underlying32 Try.underlying5 Try.underlying9 hzr
  have hd := (h.drew.alloc (.cells zs.toArray 5)).r
  change (_ : Sem Value).run _ (w.alloc (.cells zs.toArray 5)).drew = .ok _ (w.alloc (.cells zs.toArray 5)).drew at c2 c3
  unfold str at c1 c2 c3
  obtain ⟨X, hX⟩ : ∃ X : ByteArray, (⟨bs.toArray⟩ : ByteArray) = X := ⟨_, rfl⟩
  obtain ⟨Y, hY⟩ : ∃ Y : ByteArray, (⟨(zbys 64).toArray⟩ : ByteArray) = Y := ⟨_, rfl⟩
  rw [hX] at c1 c2
  rw [hY] at c3
  clear hcv hb hb' hzr hzs
  go_enter Try.func62, Try.ntmps62
  go_wp2_with fail
  go_region
  all_goals
    go_wp2_with fail
    go_ret
  subst hX hY
  refine ⟨?_, hd⟩
  simp only [ByteArray.toList_mk]
  show Ending.returned (.bool (bs == zbys 64)) = _
  congr 2
  rw [Bool.eq_iff_iff]
  simp

theorem laneFirst_any (w : World) (bank : Nat) (hb : bank ≤ 1) :
    Calls Try.prog 51 #[.int .i64 bank] w fun e w' => e = .returned (.int .i64 (2 + bank * 256 : Nat)) ∧ w = w' := by
  rcases show bank = 0 ∨ bank = 1 by omega with rfl | rfl
  all_goals
    go_enter Try.func51, Try.ntmps51
    go_wp2_with fail
    go_ret
    exact ⟨rfl, rfl⟩

/-- A lane: its generation, bank, bytes, and how many are sure. -/
structure Ln where
  gen : Nat
  bank : Nat
  b : List UInt8
  sure : Nat
structure Ln.Wf (L : Ln) : Prop where
  gen : L.gen < 4294967296
  bank : L.bank ≤ 1
  len : L.b.length ≤ 14336
  sure : L.sure ≤ L.b.length
def Ln.cells (L : Ln) (d r : Nat) (vb : Value) : Array Value := #[.pointer (some ⟨d, 0, none⟩), .int .i64 r, .int .u64 L.gen, .int .i64 L.bank, vb, .int .i64 L.sure]
/-- A lane in memory. -/
def lan (p d r : Nat) (L : Ln) : HP := hex fun vb : Value => fact L.Wf * (cel p (L.cells d r vb) 84 * row 5 1 vb L.b.length (bys L.b))
section
variable {w0 w : World} {R : HP} {p d r : Nat} {L : Ln}
theorem At.lan_open (h : At w0 (lan p d r L * R) w) : L.Wf ∧ ∃ a c, At w0 (cel p (L.cells d r (.slice a L.b.length c)) 84 * (row 5 1 (.slice a L.b.length c) L.b.length (bys L.b) * R)) w := by
  obtain ⟨vb, h⟩ := h.exl
  obtain ⟨h1, h3⟩ := h.assoc.factl
  have h4 := h3.assoc
  obtain ⟨a, c, rfl⟩ := h4.pull2.row_len
  exact ⟨h1, a, c, h4⟩
theorem At.lan_shut {vb : Value} (hL : L.Wf) (h : At w0 (cel p (L.cells d r vb) 84 * (row 5 1 vb L.b.length (bys L.b) * R)) w) : At w0 (lan p d r L * R) w := by
  refine At.mkex (F := fun vb : Value => fact L.Wf * (cel p (L.cells d r vb) 84 * row 5 1 vb L.b.length (bys L.b))) vb ?_
  exact (At.mkfact hL h).cast (by ac_rfl)
end

theorem shl20 (g : Nat) (hg : g < 4294967296) : (Go.IntKind.u64.wrap ((g : Int) * 2 ^ 20)) = ((g * 1048576 : Nat) : Int) := by
  have : (g : Int) * 2 ^ 20 = ((g * 1048576 : Nat) : Int) := by simp
  rw [this]
  exact wrap_u64 (by omega) (by omega)
def Ln.place (L : Ln) (k : Nat) : Nat := L.gen * 1048576 + k + 1
set_option maxRecDepth 100000 in
set_option maxHeartbeats 2000000 in
theorem lanePlace_any (w0 w : World) (R : HP) (p d r : Nat) (L : Ln) (k : Nat) (hk : k ≤ 1000000) (h : At w0 (lan p d r L * R) w) :
    Calls Try.prog 40 #[.pointer (some ⟨p, 0, none⟩), .int .i64 k] w fun e w' => e = .returned (.int .u64 (L.place k)) ∧ w = w' := by
  obtain ⟨hL, a, c, h1⟩ := h.lan_open
  have c2 : w.cell? ⟨p, 2, none⟩ = some (.int .u64 L.gen) := At.cell h1 rfl
  have hg := hL.gen
  unfold Ln.place
  clear h h1 hL
  generalize L.gen = g at *
  have hs := shl20 g hg
  have h1 := wrap_u64 (x := (k : Int)) (by omega) (by omega)
  have h2 := wrap_u64 (x := ((g * 1048576 : Nat) : Int) + (k : Int)) (by omega) (by omega)
  have h3 := wrap_u64 (x := ((g * 1048576 : Nat) : Int) + (k : Int) + 1) (by omega) (by omega)
  go_enter Try.func40, Try.ntmps40
  go_wp2_with fail
  go_ret
  exact ⟨by simp, rfl⟩
set_option maxRecDepth 100000 in
theorem laneRoom_any (w0 w : World) (R : HP) (p d r : Nat) (L : Ln) (h : At w0 (lan p d r L * R) w) :
    Calls Try.prog 39 #[.pointer (some ⟨p, 0, none⟩)] w fun e w' => e = .returned (.int .i64 (14336 - L.b.length : Nat)) ∧ w = w' := by
  obtain ⟨hL, a, c, h1⟩ := h.lan_open
  have c4 : w.cell? ⟨p, 4, none⟩ = some (.slice a L.b.length c) := At.cell h1 rfl
  have hl := hL.len
  clear h h1 hL
  generalize L.b.length = n at *
  have hw := IntWalk.i64_in (14336 - (n : Int)) (by omega)
  go_enter Try.func39, Try.ntmps39
  go_wp2_with fail
  go_ret
  exact ⟨by simp; omega, rfl⟩
end Go.Proofs.Ytmlifjfgelfbbaa
