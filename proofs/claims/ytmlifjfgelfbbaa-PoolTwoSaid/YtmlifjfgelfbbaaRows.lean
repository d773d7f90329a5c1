/-
  No cell of these rows narrows 'for every input' (looked for: loops, veiled, ifaces, maps, wideKeys, modest, calm, conditions, laid).
  DERIVED. THE GIVEN ROWS OF THIS SEAT. 5 by the template 'for every input the law returns true; each argument reads behind the call as it read before'; 0 by the template 'total and deterministic' (their statements: YtmlifjfgelfbbaaTotals.lean).
  GIVEN WITH THE SEED: the statements are not yours to turn. If you find one false, say at which input.
  Laid BY PROGRAM, IN A SANDBOX (cutbox-rows.mjs): the forced cells as the released guide's own fill.sh prints them over the translation 9a4df6fd44a8b400… (all of the seat's roots in one cut). By AI agents, Wed Nov 11 2026. No macro, syntax, notation, axiom, sorry.
-/
import Derived.Test.YtmlifjfgelfbbaaChecked
import GoSem.Claim
import GoSem.ClaimJoined
import GoSem.ClaimMapViews
import Derived.JoinedTies
import Derived.KernelRfl
namespace Go.Proofs.Ytmlifjfgelfbbaa
/- THE CELL 'sum', in the pinned program and in every row, IS THE sha256 OF THE DUMP (.gsa) THAT YtmlifjfgelfbbaaProg.lean LOADS. Nothing in Lean hashes anything: it is a label: what it is worth is what the hold of that sum in a sandbox is worth. -/
noncomputable def Try.pinned : Pinned := { name := "ytmlifjfgelfbbaa", sum := "9a4df6fd44a8b40057fab87c0b1e7e75e7fc6695b62b824f328d4bad57ebcc45", checked := Try.checked }
namespace Rows
def none {H : Type} : Left H := { results := [], args := [] }

/-- 'tenementlaw08.PoolTorn': WHATEVER THE INPUT: true; the input reads as it did. -/
def poolTornSpec : ChangeSpec := { name := "poolTorn", fn := fun _ => fun
  | [d1, d2, d3] => { results := [.lit (.bool true)], args := [d1, d2, d3] }
  | _ => none }
def poolTornRow : OpenClaim := { program := "ytmlifjfgelfbbaa", sum := "9a4df6fd44a8b40057fab87c0b1e7e75e7fc6695b62b824f328d4bad57ebcc45", func := "tenement/tenementlaw08.PoolTorn", spec := "poolTorn", apart := false }
def PoolTornSaid : Prop := poolTornRow.holds Try.pinned (OpenSpec.ofChange poolTornSpec)

/-- ITS FALSE NEIGHBOUR: 'it returns false'. Refute it at one input. -/
def poolTornWrong : ChangeSpec := { name := "poolTorn", fn := fun _ => fun
  | [d1, d2, d3] => { results := [.lit (.bool false)], args := [d1, d2, d3] }
  | _ => none }
def PoolTornWrongFalsely : Prop := poolTornRow.holds Try.pinned (OpenSpec.ofChange poolTornWrong)

/-- 'tenementlaw08.PoolSince': WHATEVER THE INPUT: true; the input reads as it did. -/
def poolSinceSpec : ChangeSpec := { name := "poolSince", fn := fun _ => fun
  | [d] => { results := [.lit (.bool true)], args := [d] }
  | _ => none }
def poolSinceRow : OpenClaim := { program := "ytmlifjfgelfbbaa", sum := "9a4df6fd44a8b40057fab87c0b1e7e75e7fc6695b62b824f328d4bad57ebcc45", func := "tenement/tenementlaw08.PoolSince", spec := "poolSince", apart := false }
def PoolSinceSaid : Prop := poolSinceRow.holds Try.pinned (OpenSpec.ofChange poolSinceSpec)

/-- ITS FALSE NEIGHBOUR: 'it returns false'. Refute it at one input. -/
def poolSinceWrong : ChangeSpec := { name := "poolSince", fn := fun _ => fun
  | [d] => { results := [.lit (.bool false)], args := [d] }
  | _ => none }
def PoolSinceWrongFalsely : Prop := poolSinceRow.holds Try.pinned (OpenSpec.ofChange poolSinceWrong)

/-- 'tenementlaw08.PoolKeeps': WHATEVER THE INPUT: true; the input reads as it did. -/
def poolKeepsSpec : ChangeSpec := { name := "poolKeeps", fn := fun _ => fun
  | [d1, d2, d3] => { results := [.lit (.bool true)], args := [d1, d2, d3] }
  | _ => none }
def poolKeepsRow : OpenClaim := { program := "ytmlifjfgelfbbaa", sum := "9a4df6fd44a8b40057fab87c0b1e7e75e7fc6695b62b824f328d4bad57ebcc45", func := "tenement/tenementlaw08.PoolKeeps", spec := "poolKeeps", apart := false }
def PoolKeepsSaid : Prop := poolKeepsRow.holds Try.pinned (OpenSpec.ofChange poolKeepsSpec)

/-- ITS FALSE NEIGHBOUR: 'it returns false'. Refute it at one input. -/
def poolKeepsWrong : ChangeSpec := { name := "poolKeeps", fn := fun _ => fun
  | [d1, d2, d3] => { results := [.lit (.bool false)], args := [d1, d2, d3] }
  | _ => none }
def PoolKeepsWrongFalsely : Prop := poolKeepsRow.holds Try.pinned (OpenSpec.ofChange poolKeepsWrong)

/-- 'tenementlaw08.PoolAhead': WHATEVER THE INPUT: true; the input reads as it did. -/
def poolAheadSpec : ChangeSpec := { name := "poolAhead", fn := fun _ => fun
  | [d1, d2] => { results := [.lit (.bool true)], args := [d1, d2] }
  | _ => none }
def poolAheadRow : OpenClaim := { program := "ytmlifjfgelfbbaa", sum := "9a4df6fd44a8b40057fab87c0b1e7e75e7fc6695b62b824f328d4bad57ebcc45", func := "tenement/tenementlaw08.PoolAhead", spec := "poolAhead", apart := false }
def PoolAheadSaid : Prop := poolAheadRow.holds Try.pinned (OpenSpec.ofChange poolAheadSpec)

/-- ITS FALSE NEIGHBOUR: 'it returns false'. Refute it at one input. -/
def poolAheadWrong : ChangeSpec := { name := "poolAhead", fn := fun _ => fun
  | [d1, d2] => { results := [.lit (.bool false)], args := [d1, d2] }
  | _ => none }
def PoolAheadWrongFalsely : Prop := poolAheadRow.holds Try.pinned (OpenSpec.ofChange poolAheadWrong)

/-- 'tenementlaw08.PoolTwo': WHATEVER THE INPUT: true; the input reads as it did. -/
def poolTwoSpec : ChangeSpec := { name := "poolTwo", fn := fun _ => fun
  | [d1, d2, d3] => { results := [.lit (.bool true)], args := [d1, d2, d3] }
  | _ => none }
def poolTwoRow : OpenClaim := { program := "ytmlifjfgelfbbaa", sum := "9a4df6fd44a8b40057fab87c0b1e7e75e7fc6695b62b824f328d4bad57ebcc45", func := "tenement/tenementlaw08.PoolTwo", spec := "poolTwo", unfollowed := true, recurses := true, apart := false }
def PoolTwoSaid : Prop := poolTwoRow.holds Try.pinned (OpenSpec.ofChange poolTwoSpec)

/-- ITS FALSE NEIGHBOUR: 'it returns false'. Refute it at one input. -/
def poolTwoWrong : ChangeSpec := { name := "poolTwo", fn := fun _ => fun
  | [d1, d2, d3] => { results := [.lit (.bool false)], args := [d1, d2, d3] }
  | _ => none }
def PoolTwoWrongFalsely : Prop := poolTwoRow.holds Try.pinned (OpenSpec.ofChange poolTwoWrong)

/- THE SECOND FORM. 'bulk': how many values and letters a reading holds, each counted each time it is reached (what is shared counts as often as it is met; a slice's spare places count too). A statement '..UptoSaid' is the law's where the arguments, and the package variables that the reading takes, are together of bulk at most 1048576: NARROWER than '..Said'. Prove '..Said' where nothing that the law and all that it calls make is longer than what came in: it says more and counts as full. Else prove '..UptoSaid'. A law counts once. -/
mutual
def uptoBulk {H : Type} : DataW H → Nat
  | .lit (.string bytes) => bytes.length + 1
  | .lit _ => 1
  | .nil => 1
  | .ptr d => uptoBulk d + 1
  | .slice elems spare => uptoBulkAll elems + uptoBulkAll spare + 1
  | .agg parts => uptoBulkAll parts + 1
  | .iface _ d => uptoBulk d + 1
  | .map entries => uptoBulkEntries entries + 1
  | .held _ => 1
def uptoBulkAll {H : Type} : List (DataW H) → Nat
  | [] => 0
  | d :: r => uptoBulk d + uptoBulkAll r
def uptoBulkEntries {H : Type} : List (Lit × DataW H) → Nat
  | [] => 0
  | x :: r => uptoBulkEntry x + uptoBulkEntries r
def uptoBulkEntry {H : Type} : Lit × DataW H → Nat
  | (.string bytes, d) => bytes.length + uptoBulk d + 1
  | (_, d) => uptoBulk d + 1
 end
def uptoSmall : (H : Type) → List (DataW H) → Bool := fun _ ds => decide (uptoBulkAll ds ≤ 1048576)
def OpenSpec.upto (s : _root_.Go.ChangeSpec) : _root_.Go.OpenSpec := { _root_.Go.OpenSpec.ofChange s with cond := some uptoSmall }

/-- 'tenementlaw08.PoolTorn', WHERE WHAT IT READS IS OF BULK AT MOST 1048576: true; the input reads as it did. -/
def poolTornUptoRow : OpenClaim := { program := "ytmlifjfgelfbbaa", sum := "9a4df6fd44a8b40057fab87c0b1e7e75e7fc6695b62b824f328d4bad57ebcc45", func := "tenement/tenementlaw08.PoolTorn", spec := "poolTorn", apart := false, narrowed := true }
def PoolTornUptoSaid : Prop := poolTornUptoRow.holds Try.pinned (OpenSpec.upto poolTornSpec)

/-- 'tenementlaw08.PoolSince', WHERE WHAT IT READS IS OF BULK AT MOST 1048576: true; the input reads as it did. -/
def poolSinceUptoRow : OpenClaim := { program := "ytmlifjfgelfbbaa", sum := "9a4df6fd44a8b40057fab87c0b1e7e75e7fc6695b62b824f328d4bad57ebcc45", func := "tenement/tenementlaw08.PoolSince", spec := "poolSince", apart := false, narrowed := true }
def PoolSinceUptoSaid : Prop := poolSinceUptoRow.holds Try.pinned (OpenSpec.upto poolSinceSpec)

/-- 'tenementlaw08.PoolKeeps', WHERE WHAT IT READS IS OF BULK AT MOST 1048576: true; the input reads as it did. -/
def poolKeepsUptoRow : OpenClaim := { program := "ytmlifjfgelfbbaa", sum := "9a4df6fd44a8b40057fab87c0b1e7e75e7fc6695b62b824f328d4bad57ebcc45", func := "tenement/tenementlaw08.PoolKeeps", spec := "poolKeeps", apart := false, narrowed := true }
def PoolKeepsUptoSaid : Prop := poolKeepsUptoRow.holds Try.pinned (OpenSpec.upto poolKeepsSpec)

/-- 'tenementlaw08.PoolAhead', WHERE WHAT IT READS IS OF BULK AT MOST 1048576: true; the input reads as it did. -/
def poolAheadUptoRow : OpenClaim := { program := "ytmlifjfgelfbbaa", sum := "9a4df6fd44a8b40057fab87c0b1e7e75e7fc6695b62b824f328d4bad57ebcc45", func := "tenement/tenementlaw08.PoolAhead", spec := "poolAhead", apart := false, narrowed := true }
def PoolAheadUptoSaid : Prop := poolAheadUptoRow.holds Try.pinned (OpenSpec.upto poolAheadSpec)

/-- 'tenementlaw08.PoolTwo', WHERE WHAT IT READS IS OF BULK AT MOST 1048576: true; the input reads as it did. -/
def poolTwoUptoRow : OpenClaim := { program := "ytmlifjfgelfbbaa", sum := "9a4df6fd44a8b40057fab87c0b1e7e75e7fc6695b62b824f328d4bad57ebcc45", func := "tenement/tenementlaw08.PoolTwo", spec := "poolTwo", unfollowed := true, recurses := true, apart := false, narrowed := true }
def PoolTwoUptoSaid : Prop := poolTwoUptoRow.holds Try.pinned (OpenSpec.upto poolTwoSpec)

end Rows
end Go.Proofs.Ytmlifjfgelfbbaa
