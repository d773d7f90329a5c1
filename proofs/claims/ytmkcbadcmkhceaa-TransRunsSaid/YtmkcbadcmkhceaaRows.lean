/-
  No cell of these rows narrows 'for every input' (looked for: loops, veiled, ifaces, maps, wideKeys, modest, calm, conditions, laid).
  DERIVED. THE GIVEN ROWS OF THIS SEAT. 6 by the template 'for every input the law returns true; each argument reads behind the call as it read before'; 0 by the template 'total and deterministic' (their statements: YtmkcbadcmkhceaaTotals.lean).
  GIVEN WITH THE SEED: the statements are not yours to turn. If you find one false, say at which input.
  Laid BY PROGRAM, IN A SANDBOX (cutbox-rows.mjs): the forced cells as the released guide's own fill.sh prints them over the translation 44e8148a4a1648c1… (all of the seat's roots in one cut). By AI agents, Wed Nov 11 2026. No macro, syntax, notation, axiom, sorry.
-/
import Derived.Test.YtmkcbadcmkhceaaChecked
import GoSem.Claim
import GoSem.ClaimJoined
import GoSem.ClaimMapViews
import Derived.JoinedTies
import Derived.KernelRfl
namespace Go.Proofs.Ytmkcbadcmkhceaa
/- THE CELL 'sum', in the pinned program and in every row, IS THE sha256 OF THE DUMP (.gsa) THAT YtmkcbadcmkhceaaProg.lean LOADS. Nothing in Lean hashes anything: it is a label: what it is worth is what the hold of that sum in a sandbox is worth. -/
noncomputable def Try.pinned : Pinned := { name := "ytmkcbadcmkhceaa", sum := "44e8148a4a1648c1bf5fd584df50457734b03462ddcd11296d992ff1e471924c", checked := Try.checked }
namespace Rows
def none {H : Type} : Left H := { results := [], args := [] }

/-- 'tenementlaw11.TransNumbers': WHATEVER THE INPUT: true; the input reads as it did. -/
def transNumbersSpec : ChangeSpec := { name := "transNumbers", fn := fun _ => fun
  | [d] => { results := [.lit (.bool true)], args := [d] }
  | _ => none }
def transNumbersRow : OpenClaim := { program := "ytmkcbadcmkhceaa", sum := "44e8148a4a1648c1bf5fd584df50457734b03462ddcd11296d992ff1e471924c", func := "tenement/tenementlaw11.TransNumbers", spec := "transNumbers", apart := false }
def TransNumbersSaid : Prop := transNumbersRow.holds Try.pinned (OpenSpec.ofChange transNumbersSpec)

/-- ITS FALSE NEIGHBOUR: 'it returns false'. Refute it at one input. -/
def transNumbersWrong : ChangeSpec := { name := "transNumbers", fn := fun _ => fun
  | [d] => { results := [.lit (.bool false)], args := [d] }
  | _ => none }
def TransNumbersWrongFalsely : Prop := transNumbersRow.holds Try.pinned (OpenSpec.ofChange transNumbersWrong)

/-- 'tenementlaw11.TransSaves': WHATEVER THE INPUT: true; the input reads as it did. -/
def transSavesSpec : ChangeSpec := { name := "transSaves", fn := fun _ => fun
  | [d1, d2] => { results := [.lit (.bool true)], args := [d1, d2] }
  | _ => none }
def transSavesRow : OpenClaim := { program := "ytmkcbadcmkhceaa", sum := "44e8148a4a1648c1bf5fd584df50457734b03462ddcd11296d992ff1e471924c", func := "tenement/tenementlaw11.TransSaves", spec := "transSaves", apart := false }
def TransSavesSaid : Prop := transSavesRow.holds Try.pinned (OpenSpec.ofChange transSavesSpec)

/-- ITS FALSE NEIGHBOUR: 'it returns false'. Refute it at one input. -/
def transSavesWrong : ChangeSpec := { name := "transSaves", fn := fun _ => fun
  | [d1, d2] => { results := [.lit (.bool false)], args := [d1, d2] }
  | _ => none }
def TransSavesWrongFalsely : Prop := transSavesRow.holds Try.pinned (OpenSpec.ofChange transSavesWrong)

/-- 'tenementlaw11.TransPops': WHATEVER THE INPUT: true; the input reads as it did. -/
def transPopsSpec : ChangeSpec := { name := "transPops", fn := fun _ => fun
  | [d] => { results := [.lit (.bool true)], args := [d] }
  | _ => none }
def transPopsRow : OpenClaim := { program := "ytmkcbadcmkhceaa", sum := "44e8148a4a1648c1bf5fd584df50457734b03462ddcd11296d992ff1e471924c", func := "tenement/tenementlaw11.TransPops", spec := "transPops", unfollowed := true, recurses := true, apart := false }
def TransPopsSaid : Prop := transPopsRow.holds Try.pinned (OpenSpec.ofChange transPopsSpec)

/-- ITS FALSE NEIGHBOUR: 'it returns false'. Refute it at one input. -/
def transPopsWrong : ChangeSpec := { name := "transPops", fn := fun _ => fun
  | [d] => { results := [.lit (.bool false)], args := [d] }
  | _ => none }
def TransPopsWrongFalsely : Prop := transPopsRow.holds Try.pinned (OpenSpec.ofChange transPopsWrong)

/-- 'tenementlaw11.TransKept': WHATEVER THE INPUT: true; the input reads as it did. -/
def transKeptSpec : ChangeSpec := { name := "transKept", fn := fun _ => fun
  | [d1, d2, d3] => { results := [.lit (.bool true)], args := [d1, d2, d3] }
  | _ => none }
def transKeptRow : OpenClaim := { program := "ytmkcbadcmkhceaa", sum := "44e8148a4a1648c1bf5fd584df50457734b03462ddcd11296d992ff1e471924c", func := "tenement/tenementlaw11.TransKept", spec := "transKept", unfollowed := true, recurses := true, apart := false }
def TransKeptSaid : Prop := transKeptRow.holds Try.pinned (OpenSpec.ofChange transKeptSpec)

/-- ITS FALSE NEIGHBOUR: 'it returns false'. Refute it at one input. -/
def transKeptWrong : ChangeSpec := { name := "transKept", fn := fun _ => fun
  | [d1, d2, d3] => { results := [.lit (.bool false)], args := [d1, d2, d3] }
  | _ => none }
def TransKeptWrongFalsely : Prop := transKeptRow.holds Try.pinned (OpenSpec.ofChange transKeptWrong)

/-- 'tenementlaw11.TransApart': WHATEVER THE INPUT: true; the input reads as it did. -/
def transApartSpec : ChangeSpec := { name := "transApart", fn := fun _ => fun
  | [d1, d2] => { results := [.lit (.bool true)], args := [d1, d2] }
  | _ => none }
def transApartRow : OpenClaim := { program := "ytmkcbadcmkhceaa", sum := "44e8148a4a1648c1bf5fd584df50457734b03462ddcd11296d992ff1e471924c", func := "tenement/tenementlaw11.TransApart", spec := "transApart", unfollowed := true, recurses := true, apart := false }
def TransApartSaid : Prop := transApartRow.holds Try.pinned (OpenSpec.ofChange transApartSpec)

/-- ITS FALSE NEIGHBOUR: 'it returns false'. Refute it at one input. -/
def transApartWrong : ChangeSpec := { name := "transApart", fn := fun _ => fun
  | [d1, d2] => { results := [.lit (.bool false)], args := [d1, d2] }
  | _ => none }
def TransApartWrongFalsely : Prop := transApartRow.holds Try.pinned (OpenSpec.ofChange transApartWrong)

/-- 'tenementlaw11.TransRuns': WHATEVER THE INPUT: true; the input reads as it did. -/
def transRunsSpec : ChangeSpec := { name := "transRuns", fn := fun _ => fun
  | [d] => { results := [.lit (.bool true)], args := [d] }
  | _ => none }
def transRunsRow : OpenClaim := { program := "ytmkcbadcmkhceaa", sum := "44e8148a4a1648c1bf5fd584df50457734b03462ddcd11296d992ff1e471924c", func := "tenement/tenementlaw11.TransRuns", spec := "transRuns", unfollowed := true, recurses := true, apart := false }
def TransRunsSaid : Prop := transRunsRow.holds Try.pinned (OpenSpec.ofChange transRunsSpec)

/-- ITS FALSE NEIGHBOUR: 'it returns false'. Refute it at one input. -/
def transRunsWrong : ChangeSpec := { name := "transRuns", fn := fun _ => fun
  | [d] => { results := [.lit (.bool false)], args := [d] }
  | _ => none }
def TransRunsWrongFalsely : Prop := transRunsRow.holds Try.pinned (OpenSpec.ofChange transRunsWrong)

/- THE SECOND FORM. 'bulk': how many values and letters a reading holds, each counted each time it is reached (what is shared counts as often as it is met; a slice's spare places count too). A statement '..UptoSaid' is the law's where the arguments, and the package variables that the reading takes, are together of bulk at most 1048576: NARROWER than '..Said'. Prove '..Said' where nothing that the law and all that it calls make is longer than what came in: it says more and counts as full. Else prove '..UptoSaid'. A law counts once. -/
mutual
def uptoBulk {H : Type} : DataW H → Nat
  | .lit (.string bytes) => bytes.length + 1
  | .lit _ => 1
  | .nil => 1
  | .ptr d => uptoBulk d + 1
  | .slice elems spare => uptoBulkAll elems + uptoBulkAll spare + 1
  | .agg parts => uptoBulkAll parts + 1
  | .iface _ d => uptoBulk d + 1
  | .map entries => uptoBulkEntries entries + 1
  | .held _ => 1
def uptoBulkAll {H : Type} : List (DataW H) → Nat
  | [] => 0
  | d :: r => uptoBulk d + uptoBulkAll r
def uptoBulkEntries {H : Type} : List (Lit × DataW H) → Nat
  | [] => 0
  | x :: r => uptoBulkEntry x + uptoBulkEntries r
def uptoBulkEntry {H : Type} : Lit × DataW H → Nat
  | (.string bytes, d) => bytes.length + uptoBulk d + 1
  | (_, d) => uptoBulk d + 1
 end
def uptoSmall : (H : Type) → List (DataW H) → Bool := fun _ ds => decide (uptoBulkAll ds ≤ 1048576)
def OpenSpec.upto (s : _root_.Go.ChangeSpec) : _root_.Go.OpenSpec := { _root_.Go.OpenSpec.ofChange s with cond := some uptoSmall }

/-- 'tenementlaw11.TransNumbers', WHERE WHAT IT READS IS OF BULK AT MOST 1048576: true; the input reads as it did. -/
def transNumbersUptoRow : OpenClaim := { program := "ytmkcbadcmkhceaa", sum := "44e8148a4a1648c1bf5fd584df50457734b03462ddcd11296d992ff1e471924c", func := "tenement/tenementlaw11.TransNumbers", spec := "transNumbers", apart := false, narrowed := true }
def TransNumbersUptoSaid : Prop := transNumbersUptoRow.holds Try.pinned (OpenSpec.upto transNumbersSpec)

/-- 'tenementlaw11.TransSaves', WHERE WHAT IT READS IS OF BULK AT MOST 1048576: true; the input reads as it did. -/
def transSavesUptoRow : OpenClaim := { program := "ytmkcbadcmkhceaa", sum := "44e8148a4a1648c1bf5fd584df50457734b03462ddcd11296d992ff1e471924c", func := "tenement/tenementlaw11.TransSaves", spec := "transSaves", apart := false, narrowed := true }
def TransSavesUptoSaid : Prop := transSavesUptoRow.holds Try.pinned (OpenSpec.upto transSavesSpec)

/-- 'tenementlaw11.TransPops', WHERE WHAT IT READS IS OF BULK AT MOST 1048576: true; the input reads as it did. -/
def transPopsUptoRow : OpenClaim := { program := "ytmkcbadcmkhceaa", sum := "44e8148a4a1648c1bf5fd584df50457734b03462ddcd11296d992ff1e471924c", func := "tenement/tenementlaw11.TransPops", spec := "transPops", unfollowed := true, recurses := true, apart := false, narrowed := true }
def TransPopsUptoSaid : Prop := transPopsUptoRow.holds Try.pinned (OpenSpec.upto transPopsSpec)

/-- 'tenementlaw11.TransKept', WHERE WHAT IT READS IS OF BULK AT MOST 1048576: true; the input reads as it did. -/
def transKeptUptoRow : OpenClaim := { program := "ytmkcbadcmkhceaa", sum := "44e8148a4a1648c1bf5fd584df50457734b03462ddcd11296d992ff1e471924c", func := "tenement/tenementlaw11.TransKept", spec := "transKept", unfollowed := true, recurses := true, apart := false, narrowed := true }
def TransKeptUptoSaid : Prop := transKeptUptoRow.holds Try.pinned (OpenSpec.upto transKeptSpec)

/-- 'tenementlaw11.TransApart', WHERE WHAT IT READS IS OF BULK AT MOST 1048576: true; the input reads as it did. -/
def transApartUptoRow : OpenClaim := { program := "ytmkcbadcmkhceaa", sum := "44e8148a4a1648c1bf5fd584df50457734b03462ddcd11296d992ff1e471924c", func := "tenement/tenementlaw11.TransApart", spec := "transApart", unfollowed := true, recurses := true, apart := false, narrowed := true }
def TransApartUptoSaid : Prop := transApartUptoRow.holds Try.pinned (OpenSpec.upto transApartSpec)

/-- 'tenementlaw11.TransRuns', WHERE WHAT IT READS IS OF BULK AT MOST 1048576: true; the input reads as it did. -/
def transRunsUptoRow : OpenClaim := { program := "ytmkcbadcmkhceaa", sum := "44e8148a4a1648c1bf5fd584df50457734b03462ddcd11296d992ff1e471924c", func := "tenement/tenementlaw11.TransRuns", spec := "transRuns", unfollowed := true, recurses := true, apart := false, narrowed := true }
def TransRunsUptoSaid : Prop := transRunsUptoRow.holds Try.pinned (OpenSpec.upto transRunsSpec)

end Rows
end Go.Proofs.Ytmkcbadcmkhceaa
