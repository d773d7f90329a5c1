/-
  No cell of these rows narrows 'for every input' (looked for: loops, veiled, ifaces, maps, wideKeys, modest, calm, conditions, laid).
  DERIVED. THE GIVEN ROWS OF THIS SEAT. 9 by the template 'for every input the law returns true; each argument reads behind the call as it read before'; 0 by the template 'total and deterministic' (their statements: YtgkibjjcdcpkfaaTotals.lean).
  GIVEN WITH THE SEED: the statements are not yours to turn. If you find one false, say at which input.
  Laid BY PROGRAM, IN A SANDBOX (cutbox-rows.mjs): the forced cells as the released guide's own fill.sh prints them over the translation 1d8130ba7891806b… (all of the seat's roots in one cut). By AI agents, Wed Nov 11 2026. No macro, syntax, notation, axiom, sorry.
-/
import Derived.Test.YtgkibjjcdcpkfaaChecked
import GoSem.Claim
import GoSem.ClaimJoined
import GoSem.ClaimMapViews
import Derived.JoinedTies
import Derived.KernelRfl
namespace Go.Proofs.Ytgkibjjcdcpkfaa
/- THE CELL 'sum', in the pinned program and in every row, IS THE sha256 OF THE DUMP (.gsa) THAT YtgkibjjcdcpkfaaProg.lean LOADS. Nothing in Lean hashes anything: it is a label: what it is worth is what the hold of that sum in a sandbox is worth. -/
noncomputable def Try.pinned : Pinned := { name := "ytgkibjjcdcpkfaa", sum := "1d8130ba7891806b66b8c64de184e1fc62e82013c541862e31e9d02c1a25f268", checked := Try.checked }
namespace Rows
def none {H : Type} : Left H := { results := [], args := [] }

/-- 'tenementlaw07.LaneWipes': WHATEVER THE INPUT: true; the input reads as it did. -/
def laneWipesSpec : ChangeSpec := { name := "laneWipes", fn := fun _ => fun
  | [d1, d2, d3] => { results := [.lit (.bool true)], args := [d1, d2, d3] }
  | _ => none }
def laneWipesRow : OpenClaim := { program := "ytgkibjjcdcpkfaa", sum := "1d8130ba7891806b66b8c64de184e1fc62e82013c541862e31e9d02c1a25f268", func := "tenement/tenementlaw07.LaneWipes", spec := "laneWipes", apart := false }
def LaneWipesSaid : Prop := laneWipesRow.holds Try.pinned (OpenSpec.ofChange laneWipesSpec)

/-- ITS FALSE NEIGHBOUR: 'it returns false'. Refute it at one input. -/
def laneWipesWrong : ChangeSpec := { name := "laneWipes", fn := fun _ => fun
  | [d1, d2, d3] => { results := [.lit (.bool false)], args := [d1, d2, d3] }
  | _ => none }
def LaneWipesWrongFalsely : Prop := laneWipesRow.holds Try.pinned (OpenSpec.ofChange laneWipesWrong)

/-- 'tenementlaw07.LaneGens': WHATEVER THE INPUT: true; the input reads as it did. -/
def laneGensSpec : ChangeSpec := { name := "laneGens", fn := fun _ => fun
  | [d] => { results := [.lit (.bool true)], args := [d] }
  | _ => none }
def laneGensRow : OpenClaim := { program := "ytgkibjjcdcpkfaa", sum := "1d8130ba7891806b66b8c64de184e1fc62e82013c541862e31e9d02c1a25f268", func := "tenement/tenementlaw07.LaneGens", spec := "laneGens", apart := false }
def LaneGensSaid : Prop := laneGensRow.holds Try.pinned (OpenSpec.ofChange laneGensSpec)

/-- ITS FALSE NEIGHBOUR: 'it returns false'. Refute it at one input. -/
def laneGensWrong : ChangeSpec := { name := "laneGens", fn := fun _ => fun
  | [d] => { results := [.lit (.bool false)], args := [d] }
  | _ => none }
def LaneGensWrongFalsely : Prop := laneGensRow.holds Try.pinned (OpenSpec.ofChange laneGensWrong)

/-- 'tenementlaw07.LanePlaces': WHATEVER THE INPUT: true; the input reads as it did. -/
def lanePlacesSpec : ChangeSpec := { name := "lanePlaces", fn := fun _ => fun
  | [d1, d2] => { results := [.lit (.bool true)], args := [d1, d2] }
  | _ => none }
def lanePlacesRow : OpenClaim := { program := "ytgkibjjcdcpkfaa", sum := "1d8130ba7891806b66b8c64de184e1fc62e82013c541862e31e9d02c1a25f268", func := "tenement/tenementlaw07.LanePlaces", spec := "lanePlaces", apart := false }
def LanePlacesSaid : Prop := lanePlacesRow.holds Try.pinned (OpenSpec.ofChange lanePlacesSpec)

/-- ITS FALSE NEIGHBOUR: 'it returns false'. Refute it at one input. -/
def lanePlacesWrong : ChangeSpec := { name := "lanePlaces", fn := fun _ => fun
  | [d1, d2] => { results := [.lit (.bool false)], args := [d1, d2] }
  | _ => none }
def LanePlacesWrongFalsely : Prop := lanePlacesRow.holds Try.pinned (OpenSpec.ofChange lanePlacesWrong)

/-- 'tenementlaw07.LaneFull': WHATEVER THE INPUT: true; the input reads as it did. -/
def laneFullSpec : ChangeSpec := { name := "laneFull", fn := fun _ => fun
  | [d] => { results := [.lit (.bool true)], args := [d] }
  | _ => none }
def laneFullRow : OpenClaim := { program := "ytgkibjjcdcpkfaa", sum := "1d8130ba7891806b66b8c64de184e1fc62e82013c541862e31e9d02c1a25f268", func := "tenement/tenementlaw07.LaneFull", spec := "laneFull", apart := false }
def LaneFullSaid : Prop := laneFullRow.holds Try.pinned (OpenSpec.ofChange laneFullSpec)

/-- ITS FALSE NEIGHBOUR: 'it returns false'. Refute it at one input. -/
def laneFullWrong : ChangeSpec := { name := "laneFull", fn := fun _ => fun
  | [d] => { results := [.lit (.bool false)], args := [d] }
  | _ => none }
def LaneFullWrongFalsely : Prop := laneFullRow.holds Try.pinned (OpenSpec.ofChange laneFullWrong)

/-- 'tenementlaw07.LaneBanks': WHATEVER THE INPUT: true; the input reads as it did. -/
def laneBanksSpec : ChangeSpec := { name := "laneBanks", fn := fun _ => fun
  | [d1, d2, d3] => { results := [.lit (.bool true)], args := [d1, d2, d3] }
  | _ => none }
def laneBanksRow : OpenClaim := { program := "ytgkibjjcdcpkfaa", sum := "1d8130ba7891806b66b8c64de184e1fc62e82013c541862e31e9d02c1a25f268", func := "tenement/tenementlaw07.LaneBanks", spec := "laneBanks", apart := false }
def LaneBanksSaid : Prop := laneBanksRow.holds Try.pinned (OpenSpec.ofChange laneBanksSpec)

/-- ITS FALSE NEIGHBOUR: 'it returns false'. Refute it at one input. -/
def laneBanksWrong : ChangeSpec := { name := "laneBanks", fn := fun _ => fun
  | [d1, d2, d3] => { results := [.lit (.bool false)], args := [d1, d2, d3] }
  | _ => none }
def LaneBanksWrongFalsely : Prop := laneBanksRow.holds Try.pinned (OpenSpec.ofChange laneBanksWrong)

/-- 'tenementlaw07.LaneAgain': WHATEVER THE INPUT: true; the input reads as it did. -/
def laneAgainSpec : ChangeSpec := { name := "laneAgain", fn := fun _ => fun
  | [d1, d2] => { results := [.lit (.bool true)], args := [d1, d2] }
  | _ => none }
def laneAgainRow : OpenClaim := { program := "ytgkibjjcdcpkfaa", sum := "1d8130ba7891806b66b8c64de184e1fc62e82013c541862e31e9d02c1a25f268", func := "tenement/tenementlaw07.LaneAgain", spec := "laneAgain", apart := false }
def LaneAgainSaid : Prop := laneAgainRow.holds Try.pinned (OpenSpec.ofChange laneAgainSpec)

/-- ITS FALSE NEIGHBOUR: 'it returns false'. Refute it at one input. -/
def laneAgainWrong : ChangeSpec := { name := "laneAgain", fn := fun _ => fun
  | [d1, d2] => { results := [.lit (.bool false)], args := [d1, d2] }
  | _ => none }
def LaneAgainWrongFalsely : Prop := laneAgainRow.holds Try.pinned (OpenSpec.ofChange laneAgainWrong)

/-- 'tenementlaw07.LaneTwo': WHATEVER THE INPUT: true; the input reads as it did. -/
def laneTwoSpec : ChangeSpec := { name := "laneTwo", fn := fun _ => fun
  | [d1, d2] => { results := [.lit (.bool true)], args := [d1, d2] }
  | _ => none }
def laneTwoRow : OpenClaim := { program := "ytgkibjjcdcpkfaa", sum := "1d8130ba7891806b66b8c64de184e1fc62e82013c541862e31e9d02c1a25f268", func := "tenement/tenementlaw07.LaneTwo", spec := "laneTwo", apart := false }
def LaneTwoSaid : Prop := laneTwoRow.holds Try.pinned (OpenSpec.ofChange laneTwoSpec)

/-- ITS FALSE NEIGHBOUR: 'it returns false'. Refute it at one input. -/
def laneTwoWrong : ChangeSpec := { name := "laneTwo", fn := fun _ => fun
  | [d1, d2] => { results := [.lit (.bool false)], args := [d1, d2] }
  | _ => none }
def LaneTwoWrongFalsely : Prop := laneTwoRow.holds Try.pinned (OpenSpec.ofChange laneTwoWrong)

/-- 'tenementlaw07.LaneRuns': WHATEVER THE INPUT: true; the input reads as it did. -/
def laneRunsSpec : ChangeSpec := { name := "laneRuns", fn := fun _ => fun
  | [d] => { results := [.lit (.bool true)], args := [d] }
  | _ => none }
def laneRunsRow : OpenClaim := { program := "ytgkibjjcdcpkfaa", sum := "1d8130ba7891806b66b8c64de184e1fc62e82013c541862e31e9d02c1a25f268", func := "tenement/tenementlaw07.LaneRuns", spec := "laneRuns", apart := false }
def LaneRunsSaid : Prop := laneRunsRow.holds Try.pinned (OpenSpec.ofChange laneRunsSpec)

/-- ITS FALSE NEIGHBOUR: 'it returns false'. Refute it at one input. -/
def laneRunsWrong : ChangeSpec := { name := "laneRuns", fn := fun _ => fun
  | [d] => { results := [.lit (.bool false)], args := [d] }
  | _ => none }
def LaneRunsWrongFalsely : Prop := laneRunsRow.holds Try.pinned (OpenSpec.ofChange laneRunsWrong)

/-- 'tenementlaw07.LaneHoles': WHATEVER THE INPUT: true; the input reads as it did. -/
def laneHolesSpec : ChangeSpec := { name := "laneHoles", fn := fun _ => fun
  | [d1, d2, d3] => { results := [.lit (.bool true)], args := [d1, d2, d3] }
  | _ => none }
def laneHolesRow : OpenClaim := { program := "ytgkibjjcdcpkfaa", sum := "1d8130ba7891806b66b8c64de184e1fc62e82013c541862e31e9d02c1a25f268", func := "tenement/tenementlaw07.LaneHoles", spec := "laneHoles", apart := false }
def LaneHolesSaid : Prop := laneHolesRow.holds Try.pinned (OpenSpec.ofChange laneHolesSpec)

/-- ITS FALSE NEIGHBOUR: 'it returns false'. Refute it at one input. -/
def laneHolesWrong : ChangeSpec := { name := "laneHoles", fn := fun _ => fun
  | [d1, d2, d3] => { results := [.lit (.bool false)], args := [d1, d2, d3] }
  | _ => none }
def LaneHolesWrongFalsely : Prop := laneHolesRow.holds Try.pinned (OpenSpec.ofChange laneHolesWrong)

/- THE SECOND FORM. 'bulk': how many values and letters a reading holds, each counted each time it is reached (what is shared counts as often as it is met; a slice's spare places count too). A statement '..UptoSaid' is the law's where the arguments, and the package variables that the reading takes, are together of bulk at most 1048576: NARROWER than '..Said'. Prove '..Said' where nothing that the law and all that it calls make is longer than what came in: it says more and counts as full. Else prove '..UptoSaid'. A law counts once. -/
mutual
def uptoBulk {H : Type} : DataW H → Nat
  | .lit (.string bytes) => bytes.length + 1
  | .lit _ => 1
  | .nil => 1
  | .ptr d => uptoBulk d + 1
  | .slice elems spare => uptoBulkAll elems + uptoBulkAll spare + 1
  | .agg parts => uptoBulkAll parts + 1
  | .iface _ d => uptoBulk d + 1
  | .map entries => uptoBulkEntries entries + 1
  | .held _ => 1
def uptoBulkAll {H : Type} : List (DataW H) → Nat
  | [] => 0
  | d :: r => uptoBulk d + uptoBulkAll r
def uptoBulkEntries {H : Type} : List (Lit × DataW H) → Nat
  | [] => 0
  | x :: r => uptoBulkEntry x + uptoBulkEntries r
def uptoBulkEntry {H : Type} : Lit × DataW H → Nat
  | (.string bytes, d) => bytes.length + uptoBulk d + 1
  | (_, d) => uptoBulk d + 1
 end
def uptoSmall : (H : Type) → List (DataW H) → Bool := fun _ ds => decide (uptoBulkAll ds ≤ 1048576)
def OpenSpec.upto (s : _root_.Go.ChangeSpec) : _root_.Go.OpenSpec := { _root_.Go.OpenSpec.ofChange s with cond := some uptoSmall }

/-- 'tenementlaw07.LaneWipes', WHERE WHAT IT READS IS OF BULK AT MOST 1048576: true; the input reads as it did. -/
def laneWipesUptoRow : OpenClaim := { program := "ytgkibjjcdcpkfaa", sum := "1d8130ba7891806b66b8c64de184e1fc62e82013c541862e31e9d02c1a25f268", func := "tenement/tenementlaw07.LaneWipes", spec := "laneWipes", apart := false, narrowed := true }
def LaneWipesUptoSaid : Prop := laneWipesUptoRow.holds Try.pinned (OpenSpec.upto laneWipesSpec)

/-- 'tenementlaw07.LaneGens', WHERE WHAT IT READS IS OF BULK AT MOST 1048576: true; the input reads as it did. -/
def laneGensUptoRow : OpenClaim := { program := "ytgkibjjcdcpkfaa", sum := "1d8130ba7891806b66b8c64de184e1fc62e82013c541862e31e9d02c1a25f268", func := "tenement/tenementlaw07.LaneGens", spec := "laneGens", apart := false, narrowed := true }
def LaneGensUptoSaid : Prop := laneGensUptoRow.holds Try.pinned (OpenSpec.upto laneGensSpec)

/-- 'tenementlaw07.LanePlaces', WHERE WHAT IT READS IS OF BULK AT MOST 1048576: true; the input reads as it did. -/
def lanePlacesUptoRow : OpenClaim := { program := "ytgkibjjcdcpkfaa", sum := "1d8130ba7891806b66b8c64de184e1fc62e82013c541862e31e9d02c1a25f268", func := "tenement/tenementlaw07.LanePlaces", spec := "lanePlaces", apart := false, narrowed := true }
def LanePlacesUptoSaid : Prop := lanePlacesUptoRow.holds Try.pinned (OpenSpec.upto lanePlacesSpec)

/-- 'tenementlaw07.LaneFull', WHERE WHAT IT READS IS OF BULK AT MOST 1048576: true; the input reads as it did. -/
def laneFullUptoRow : OpenClaim := { program := "ytgkibjjcdcpkfaa", sum := "1d8130ba7891806b66b8c64de184e1fc62e82013c541862e31e9d02c1a25f268", func := "tenement/tenementlaw07.LaneFull", spec := "laneFull", apart := false, narrowed := true }
def LaneFullUptoSaid : Prop := laneFullUptoRow.holds Try.pinned (OpenSpec.upto laneFullSpec)

/-- 'tenementlaw07.LaneBanks', WHERE WHAT IT READS IS OF BULK AT MOST 1048576: true; the input reads as it did. -/
def laneBanksUptoRow : OpenClaim := { program := "ytgkibjjcdcpkfaa", sum := "1d8130ba7891806b66b8c64de184e1fc62e82013c541862e31e9d02c1a25f268", func := "tenement/tenementlaw07.LaneBanks", spec := "laneBanks", apart := false, narrowed := true }
def LaneBanksUptoSaid : Prop := laneBanksUptoRow.holds Try.pinned (OpenSpec.upto laneBanksSpec)

/-- 'tenementlaw07.LaneAgain', WHERE WHAT IT READS IS OF BULK AT MOST 1048576: true; the input reads as it did. -/
def laneAgainUptoRow : OpenClaim := { program := "ytgkibjjcdcpkfaa", sum := "1d8130ba7891806b66b8c64de184e1fc62e82013c541862e31e9d02c1a25f268", func := "tenement/tenementlaw07.LaneAgain", spec := "laneAgain", apart := false, narrowed := true }
def LaneAgainUptoSaid : Prop := laneAgainUptoRow.holds Try.pinned (OpenSpec.upto laneAgainSpec)

/-- 'tenementlaw07.LaneTwo', WHERE WHAT IT READS IS OF BULK AT MOST 1048576: true; the input reads as it did. -/
def laneTwoUptoRow : OpenClaim := { program := "ytgkibjjcdcpkfaa", sum := "1d8130ba7891806b66b8c64de184e1fc62e82013c541862e31e9d02c1a25f268", func := "tenement/tenementlaw07.LaneTwo", spec := "laneTwo", apart := false, narrowed := true }
def LaneTwoUptoSaid : Prop := laneTwoUptoRow.holds Try.pinned (OpenSpec.upto laneTwoSpec)

/-- 'tenementlaw07.LaneRuns', WHERE WHAT IT READS IS OF BULK AT MOST 1048576: true; the input reads as it did. -/
def laneRunsUptoRow : OpenClaim := { program := "ytgkibjjcdcpkfaa", sum := "1d8130ba7891806b66b8c64de184e1fc62e82013c541862e31e9d02c1a25f268", func := "tenement/tenementlaw07.LaneRuns", spec := "laneRuns", apart := false, narrowed := true }
def LaneRunsUptoSaid : Prop := laneRunsUptoRow.holds Try.pinned (OpenSpec.upto laneRunsSpec)

/-- 'tenementlaw07.LaneHoles', WHERE WHAT IT READS IS OF BULK AT MOST 1048576: true; the input reads as it did. -/
def laneHolesUptoRow : OpenClaim := { program := "ytgkibjjcdcpkfaa", sum := "1d8130ba7891806b66b8c64de184e1fc62e82013c541862e31e9d02c1a25f268", func := "tenement/tenementlaw07.LaneHoles", spec := "laneHoles", apart := false, narrowed := true }
def LaneHolesUptoSaid : Prop := laneHolesUptoRow.holds Try.pinned (OpenSpec.upto laneHolesSpec)

end Rows
end Go.Proofs.Ytgkibjjcdcpkfaa
