/-
  No cell of these rows narrows 'for every input' (looked for: loops, veiled, ifaces, maps, wideKeys, modest, calm, conditions, laid).
  DERIVED. THE GIVEN ROWS OF THIS SEAT. 7 by the template 'for every input the law returns true; each argument reads behind the call as it read before'; 0 by the template 'total and deterministic' (their statements: YtghlbhnpgbhllaaTotals.lean).
  GIVEN WITH THE SEED: the statements are not yours to turn. If you find one false, say at which input.
  Laid BY PROGRAM, IN A SANDBOX (cutbox-rows.mjs): the forced cells as the released guide's own fill.sh prints them over the translation f60b84c258353c80… (all of the seat's roots in one cut). By AI agents, Wed Nov 11 2026. No macro, syntax, notation, axiom, sorry.
-/
import Derived.Test.YtghlbhnpgbhllaaChecked
import GoSem.Claim
import GoSem.ClaimJoined
import GoSem.ClaimMapViews
import Derived.JoinedTies
import Derived.KernelRfl
namespace Go.Proofs.Ytghlbhnpgbhllaa
/- THE CELL 'sum', in the pinned program and in every row, IS THE sha256 OF THE DUMP (.gsa) THAT YtghlbhnpgbhllaaProg.lean LOADS. Nothing in Lean hashes anything: it is a label: what it is worth is what the hold of that sum in a sandbox is worth. -/
noncomputable def Try.pinned : Pinned := { name := "ytghlbhnpgbhllaa", sum := "f60b84c258353c807b414a4f32faa13ed758ce5b0bbcbd4f50b089523c80b999", checked := Try.checked }
namespace Rows
def none {H : Type} : Left H := { results := [], args := [] }

/-- 'tenementlaw09.IndexParts': WHATEVER THE INPUT: true; the input reads as it did. -/
def indexPartsSpec : ChangeSpec := { name := "indexParts", fn := fun _ => fun
  | [d1, d2, d3] => { results := [.lit (.bool true)], args := [d1, d2, d3] }
  | _ => none }
def indexPartsRow : OpenClaim := { program := "ytghlbhnpgbhllaa", sum := "f60b84c258353c807b414a4f32faa13ed758ce5b0bbcbd4f50b089523c80b999", func := "tenement/tenementlaw09.IndexParts", spec := "indexParts", inPlace := ["slices.overlaps[tenement/index.Item]"], unfollowed := true, recurses := true, apart := false }
def IndexPartsSaid : Prop := indexPartsRow.holds Try.pinned (OpenSpec.ofChange indexPartsSpec)

/-- ITS FALSE NEIGHBOUR: 'it returns false'. Refute it at one input. -/
def indexPartsWrong : ChangeSpec := { name := "indexParts", fn := fun _ => fun
  | [d1, d2, d3] => { results := [.lit (.bool false)], args := [d1, d2, d3] }
  | _ => none }
def IndexPartsWrongFalsely : Prop := indexPartsRow.holds Try.pinned (OpenSpec.ofChange indexPartsWrong)

/-- 'tenementlaw09.IndexOrder': WHATEVER THE INPUT: true; the input reads as it did. -/
def indexOrderSpec : ChangeSpec := { name := "indexOrder", fn := fun _ => fun
  | [d1, d2] => { results := [.lit (.bool true)], args := [d1, d2] }
  | _ => none }
def indexOrderRow : OpenClaim := { program := "ytghlbhnpgbhllaa", sum := "f60b84c258353c807b414a4f32faa13ed758ce5b0bbcbd4f50b089523c80b999", func := "tenement/tenementlaw09.IndexOrder", spec := "indexOrder", inPlace := ["slices.overlaps[tenement/index.Item]"], unfollowed := true, recurses := true, apart := false }
def IndexOrderSaid : Prop := indexOrderRow.holds Try.pinned (OpenSpec.ofChange indexOrderSpec)

/-- ITS FALSE NEIGHBOUR: 'it returns false'. Refute it at one input. -/
def indexOrderWrong : ChangeSpec := { name := "indexOrder", fn := fun _ => fun
  | [d1, d2] => { results := [.lit (.bool false)], args := [d1, d2] }
  | _ => none }
def IndexOrderWrongFalsely : Prop := indexOrderRow.holds Try.pinned (OpenSpec.ofChange indexOrderWrong)

/-- 'tenementlaw09.IndexStops': WHATEVER THE INPUT: true; the input reads as it did. -/
def indexStopsSpec : ChangeSpec := { name := "indexStops", fn := fun _ => fun
  | [d1, d2] => { results := [.lit (.bool true)], args := [d1, d2] }
  | _ => none }
def indexStopsRow : OpenClaim := { program := "ytghlbhnpgbhllaa", sum := "f60b84c258353c807b414a4f32faa13ed758ce5b0bbcbd4f50b089523c80b999", func := "tenement/tenementlaw09.IndexStops", spec := "indexStops", inPlace := ["slices.overlaps[tenement/index.Item]"], unfollowed := true, recurses := true, apart := false }
def IndexStopsSaid : Prop := indexStopsRow.holds Try.pinned (OpenSpec.ofChange indexStopsSpec)

/-- ITS FALSE NEIGHBOUR: 'it returns false'. Refute it at one input. -/
def indexStopsWrong : ChangeSpec := { name := "indexStops", fn := fun _ => fun
  | [d1, d2] => { results := [.lit (.bool false)], args := [d1, d2] }
  | _ => none }
def IndexStopsWrongFalsely : Prop := indexStopsRow.holds Try.pinned (OpenSpec.ofChange indexStopsWrong)

/-- 'tenementlaw09.IndexKeeps': WHATEVER THE INPUT: true; the input reads as it did. -/
def indexKeepsSpec : ChangeSpec := { name := "indexKeeps", fn := fun _ => fun
  | [d1, d2] => { results := [.lit (.bool true)], args := [d1, d2] }
  | _ => none }
def indexKeepsRow : OpenClaim := { program := "ytghlbhnpgbhllaa", sum := "f60b84c258353c807b414a4f32faa13ed758ce5b0bbcbd4f50b089523c80b999", func := "tenement/tenementlaw09.IndexKeeps", spec := "indexKeeps", inPlace := ["slices.overlaps[tenement/index.Item]"], unfollowed := true, recurses := true, apart := false }
def IndexKeepsSaid : Prop := indexKeepsRow.holds Try.pinned (OpenSpec.ofChange indexKeepsSpec)

/-- ITS FALSE NEIGHBOUR: 'it returns false'. Refute it at one input. -/
def indexKeepsWrong : ChangeSpec := { name := "indexKeeps", fn := fun _ => fun
  | [d1, d2] => { results := [.lit (.bool false)], args := [d1, d2] }
  | _ => none }
def IndexKeepsWrongFalsely : Prop := indexKeepsRow.holds Try.pinned (OpenSpec.ofChange indexKeepsWrong)

/-- 'tenementlaw09.IndexScans': WHATEVER THE INPUT: true; the input reads as it did. -/
def indexScansSpec : ChangeSpec := { name := "indexScans", fn := fun _ => fun
  | [d1, d2, d3] => { results := [.lit (.bool true)], args := [d1, d2, d3] }
  | _ => none }
def indexScansRow : OpenClaim := { program := "ytghlbhnpgbhllaa", sum := "f60b84c258353c807b414a4f32faa13ed758ce5b0bbcbd4f50b089523c80b999", func := "tenement/tenementlaw09.IndexScans", spec := "indexScans", inPlace := ["slices.overlaps[tenement/index.Item]"], unfollowed := true, recurses := true, apart := false }
def IndexScansSaid : Prop := indexScansRow.holds Try.pinned (OpenSpec.ofChange indexScansSpec)

/-- ITS FALSE NEIGHBOUR: 'it returns false'. Refute it at one input. -/
def indexScansWrong : ChangeSpec := { name := "indexScans", fn := fun _ => fun
  | [d1, d2, d3] => { results := [.lit (.bool false)], args := [d1, d2, d3] }
  | _ => none }
def IndexScansWrongFalsely : Prop := indexScansRow.holds Try.pinned (OpenSpec.ofChange indexScansWrong)

/-- 'tenementlaw09.IndexRuns': WHATEVER THE INPUT: true; the input reads as it did. -/
def indexRunsSpec : ChangeSpec := { name := "indexRuns", fn := fun _ => fun
  | [d] => { results := [.lit (.bool true)], args := [d] }
  | _ => none }
def indexRunsRow : OpenClaim := { program := "ytghlbhnpgbhllaa", sum := "f60b84c258353c807b414a4f32faa13ed758ce5b0bbcbd4f50b089523c80b999", func := "tenement/tenementlaw09.IndexRuns", spec := "indexRuns", inPlace := ["slices.overlaps[tenement/index.Item]"], unfollowed := true, recurses := true, apart := false }
def IndexRunsSaid : Prop := indexRunsRow.holds Try.pinned (OpenSpec.ofChange indexRunsSpec)

/-- ITS FALSE NEIGHBOUR: 'it returns false'. Refute it at one input. -/
def indexRunsWrong : ChangeSpec := { name := "indexRuns", fn := fun _ => fun
  | [d] => { results := [.lit (.bool false)], args := [d] }
  | _ => none }
def IndexRunsWrongFalsely : Prop := indexRunsRow.holds Try.pinned (OpenSpec.ofChange indexRunsWrong)

/-- 'tenementlaw09.IndexOnce': WHATEVER THE INPUT: true; the input reads as it did. -/
def indexOnceSpec : ChangeSpec := { name := "indexOnce", fn := fun _ => fun
  | [d1, d2] => { results := [.lit (.bool true)], args := [d1, d2] }
  | _ => none }
def indexOnceRow : OpenClaim := { program := "ytghlbhnpgbhllaa", sum := "f60b84c258353c807b414a4f32faa13ed758ce5b0bbcbd4f50b089523c80b999", func := "tenement/tenementlaw09.IndexOnce", spec := "indexOnce", inPlace := ["slices.overlaps[tenement/index.Item]"], unfollowed := true, recurses := true, apart := false }
def IndexOnceSaid : Prop := indexOnceRow.holds Try.pinned (OpenSpec.ofChange indexOnceSpec)

/-- ITS FALSE NEIGHBOUR: 'it returns false'. Refute it at one input. -/
def indexOnceWrong : ChangeSpec := { name := "indexOnce", fn := fun _ => fun
  | [d1, d2] => { results := [.lit (.bool false)], args := [d1, d2] }
  | _ => none }
def IndexOnceWrongFalsely : Prop := indexOnceRow.holds Try.pinned (OpenSpec.ofChange indexOnceWrong)

/- THE SECOND FORM. 'bulk': how many values and letters a reading holds, each counted each time it is reached (what is shared counts as often as it is met; a slice's spare places count too). A statement '..UptoSaid' is the law's where the arguments, and the package variables that the reading takes, are together of bulk at most 1048576: NARROWER than '..Said'. Prove '..Said' where nothing that the law and all that it calls make is longer than what came in: it says more and counts as full. Else prove '..UptoSaid'. A law counts once. -/
mutual
def uptoBulk {H : Type} : DataW H → Nat
  | .lit (.string bytes) => bytes.length + 1
  | .lit _ => 1
  | .nil => 1
  | .ptr d => uptoBulk d + 1
  | .slice elems spare => uptoBulkAll elems + uptoBulkAll spare + 1
  | .agg parts => uptoBulkAll parts + 1
  | .iface _ d => uptoBulk d + 1
  | .map entries => uptoBulkEntries entries + 1
  | .held _ => 1
def uptoBulkAll {H : Type} : List (DataW H) → Nat
  | [] => 0
  | d :: r => uptoBulk d + uptoBulkAll r
def uptoBulkEntries {H : Type} : List (Lit × DataW H) → Nat
  | [] => 0
  | x :: r => uptoBulkEntry x + uptoBulkEntries r
def uptoBulkEntry {H : Type} : Lit × DataW H → Nat
  | (.string bytes, d) => bytes.length + uptoBulk d + 1
  | (_, d) => uptoBulk d + 1
 end
def uptoSmall : (H : Type) → List (DataW H) → Bool := fun _ ds => decide (uptoBulkAll ds ≤ 1048576)
def OpenSpec.upto (s : _root_.Go.ChangeSpec) : _root_.Go.OpenSpec := { _root_.Go.OpenSpec.ofChange s with cond := some uptoSmall }

/-- 'tenementlaw09.IndexParts', WHERE WHAT IT READS IS OF BULK AT MOST 1048576: true; the input reads as it did. -/
def indexPartsUptoRow : OpenClaim := { program := "ytghlbhnpgbhllaa", sum := "f60b84c258353c807b414a4f32faa13ed758ce5b0bbcbd4f50b089523c80b999", func := "tenement/tenementlaw09.IndexParts", spec := "indexParts", inPlace := ["slices.overlaps[tenement/index.Item]"], unfollowed := true, recurses := true, apart := false, narrowed := true }
def IndexPartsUptoSaid : Prop := indexPartsUptoRow.holds Try.pinned (OpenSpec.upto indexPartsSpec)

/-- 'tenementlaw09.IndexOrder', WHERE WHAT IT READS IS OF BULK AT MOST 1048576: true; the input reads as it did. -/
def indexOrderUptoRow : OpenClaim := { program := "ytghlbhnpgbhllaa", sum := "f60b84c258353c807b414a4f32faa13ed758ce5b0bbcbd4f50b089523c80b999", func := "tenement/tenementlaw09.IndexOrder", spec := "indexOrder", inPlace := ["slices.overlaps[tenement/index.Item]"], unfollowed := true, recurses := true, apart := false, narrowed := true }
def IndexOrderUptoSaid : Prop := indexOrderUptoRow.holds Try.pinned (OpenSpec.upto indexOrderSpec)

/-- 'tenementlaw09.IndexStops', WHERE WHAT IT READS IS OF BULK AT MOST 1048576: true; the input reads as it did. -/
def indexStopsUptoRow : OpenClaim := { program := "ytghlbhnpgbhllaa", sum := "f60b84c258353c807b414a4f32faa13ed758ce5b0bbcbd4f50b089523c80b999", func := "tenement/tenementlaw09.IndexStops", spec := "indexStops", inPlace := ["slices.overlaps[tenement/index.Item]"], unfollowed := true, recurses := true, apart := false, narrowed := true }
def IndexStopsUptoSaid : Prop := indexStopsUptoRow.holds Try.pinned (OpenSpec.upto indexStopsSpec)

/-- 'tenementlaw09.IndexKeeps', WHERE WHAT IT READS IS OF BULK AT MOST 1048576: true; the input reads as it did. -/
def indexKeepsUptoRow : OpenClaim := { program := "ytghlbhnpgbhllaa", sum := "f60b84c258353c807b414a4f32faa13ed758ce5b0bbcbd4f50b089523c80b999", func := "tenement/tenementlaw09.IndexKeeps", spec := "indexKeeps", inPlace := ["slices.overlaps[tenement/index.Item]"], unfollowed := true, recurses := true, apart := false, narrowed := true }
def IndexKeepsUptoSaid : Prop := indexKeepsUptoRow.holds Try.pinned (OpenSpec.upto indexKeepsSpec)

/-- 'tenementlaw09.IndexScans', WHERE WHAT IT READS IS OF BULK AT MOST 1048576: true; the input reads as it did. -/
def indexScansUptoRow : OpenClaim := { program := "ytghlbhnpgbhllaa", sum := "f60b84c258353c807b414a4f32faa13ed758ce5b0bbcbd4f50b089523c80b999", func := "tenement/tenementlaw09.IndexScans", spec := "indexScans", inPlace := ["slices.overlaps[tenement/index.Item]"], unfollowed := true, recurses := true, apart := false, narrowed := true }
def IndexScansUptoSaid : Prop := indexScansUptoRow.holds Try.pinned (OpenSpec.upto indexScansSpec)

/-- 'tenementlaw09.IndexRuns', WHERE WHAT IT READS IS OF BULK AT MOST 1048576: true; the input reads as it did. -/
def indexRunsUptoRow : OpenClaim := { program := "ytghlbhnpgbhllaa", sum := "f60b84c258353c807b414a4f32faa13ed758ce5b0bbcbd4f50b089523c80b999", func := "tenement/tenementlaw09.IndexRuns", spec := "indexRuns", inPlace := ["slices.overlaps[tenement/index.Item]"], unfollowed := true, recurses := true, apart := false, narrowed := true }
def IndexRunsUptoSaid : Prop := indexRunsUptoRow.holds Try.pinned (OpenSpec.upto indexRunsSpec)

/-- 'tenementlaw09.IndexOnce', WHERE WHAT IT READS IS OF BULK AT MOST 1048576: true; the input reads as it did. -/
def indexOnceUptoRow : OpenClaim := { program := "ytghlbhnpgbhllaa", sum := "f60b84c258353c807b414a4f32faa13ed758ce5b0bbcbd4f50b089523c80b999", func := "tenement/tenementlaw09.IndexOnce", spec := "indexOnce", inPlace := ["slices.overlaps[tenement/index.Item]"], unfollowed := true, recurses := true, apart := false, narrowed := true }
def IndexOnceUptoSaid : Prop := indexOnceUptoRow.holds Try.pinned (OpenSpec.upto indexOnceSpec)

end Rows
end Go.Proofs.Ytghlbhnpgbhllaa
