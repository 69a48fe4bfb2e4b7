/-
  No cell of these rows narrows 'for every input' (looked for: loops, veiled, ifaces, maps, wideKeys, modest, calm, conditions, laid).
  DERIVED. THE GIVEN ROWS OF THIS SEAT. 9 by the template 'for every input the law returns true; each argument reads behind the call as it read before'; 0 by the template 'total and deterministic' (their statements: YtiegnhpccbnhhaaTotals.lean).
  GIVEN WITH THE SEED: the statements are not yours to turn. If you find one false, say at which input.
  Laid BY PROGRAM, IN A SANDBOX (cutbox-rows.mjs): the forced cells as the released guide's own fill.sh prints them over the translation de43e98f082599b2… (all of the seat's roots in one cut). By AI agents, Wed Nov 11 2026. No macro, syntax, notation, axiom, sorry.
-/
import Derived.Test.YtiegnhpccbnhhaaChecked
import GoSem.Claim
import GoSem.ClaimJoined
import GoSem.ClaimMapViews
import Derived.JoinedTies
import Derived.KernelRfl
namespace Go.Proofs.Ytiegnhpccbnhhaa
/- THE CELL 'sum', in the pinned program and in every row, IS THE sha256 OF THE DUMP (.gsa) THAT YtiegnhpccbnhhaaProg.lean LOADS. Nothing in Lean hashes anything: it is a label: what it is worth is what the hold of that sum in a sandbox is worth. -/
noncomputable def Try.pinned : Pinned := { name := "ytiegnhpccbnhhaa", sum := "de43e98f082599b2ee063c46982db806511a6ccacc78cbf4f6608fe83c8a6111", checked := Try.checked }
namespace Rows
def none {H : Type} : Left H := { results := [], args := [] }

/-- 'laws.FnExactSmallestFixed': WHATEVER THE INPUT: true; the input reads as it did. -/
def fnExactSmallestFixedSpec : ChangeSpec := { name := "fnExactSmallestFixed", fn := fun _ => fun
  | [d1, d2] => { results := [.lit (.bool true)], args := [d1, d2] }
  | _ => none }
def fnExactSmallestFixedRow : OpenClaim := { program := "ytiegnhpccbnhhaa", sum := "de43e98f082599b2ee063c46982db806511a6ccacc78cbf4f6608fe83c8a6111", func := "loop.example/g01031/laws.FnExactSmallestFixed", spec := "fnExactSmallestFixed", apart := false }
def FnExactSmallestFixedSaid : Prop := fnExactSmallestFixedRow.holds Try.pinned (OpenSpec.ofChange fnExactSmallestFixedSpec)

/-- ITS FALSE NEIGHBOUR: 'it returns false'. Refute it at one input. -/
def fnExactSmallestFixedWrong : ChangeSpec := { name := "fnExactSmallestFixed", fn := fun _ => fun
  | [d1, d2] => { results := [.lit (.bool false)], args := [d1, d2] }
  | _ => none }
def FnExactSmallestFixedWrongFalsely : Prop := fnExactSmallestFixedRow.holds Try.pinned (OpenSpec.ofChange fnExactSmallestFixedWrong)

/-- 'laws.FnExactPassesTest': WHATEVER THE INPUT: true; the input reads as it did. -/
def fnExactPassesTestSpec : ChangeSpec := { name := "fnExactPassesTest", fn := fun _ => fun
  | [d1, d2, d3, d4] => { results := [.lit (.bool true)], args := [d1, d2, d3, d4] }
  | _ => none }
def fnExactPassesTestRow : OpenClaim := { program := "ytiegnhpccbnhhaa", sum := "de43e98f082599b2ee063c46982db806511a6ccacc78cbf4f6608fe83c8a6111", func := "loop.example/g01031/laws.FnExactPassesTest", spec := "fnExactPassesTest", apart := false }
def FnExactPassesTestSaid : Prop := fnExactPassesTestRow.holds Try.pinned (OpenSpec.ofChange fnExactPassesTestSpec)

/-- ITS FALSE NEIGHBOUR: 'it returns false'. Refute it at one input. -/
def fnExactPassesTestWrong : ChangeSpec := { name := "fnExactPassesTest", fn := fun _ => fun
  | [d1, d2, d3, d4] => { results := [.lit (.bool false)], args := [d1, d2, d3, d4] }
  | _ => none }
def FnExactPassesTestWrongFalsely : Prop := fnExactPassesTestRow.holds Try.pinned (OpenSpec.ofChange fnExactPassesTestWrong)

/-- 'laws.FnExactMeanDifference': WHATEVER THE INPUT: true; the input reads as it did. -/
def fnExactMeanDifferenceSpec : ChangeSpec := { name := "fnExactMeanDifference", fn := fun _ => fun
  | [d] => { results := [.lit (.bool true)], args := [d] }
  | _ => none }
def fnExactMeanDifferenceRow : OpenClaim := { program := "ytiegnhpccbnhhaa", sum := "de43e98f082599b2ee063c46982db806511a6ccacc78cbf4f6608fe83c8a6111", func := "loop.example/g01031/laws.FnExactMeanDifference", spec := "fnExactMeanDifference", apart := false }
def FnExactMeanDifferenceSaid : Prop := fnExactMeanDifferenceRow.holds Try.pinned (OpenSpec.ofChange fnExactMeanDifferenceSpec)

/-- ITS FALSE NEIGHBOUR: 'it returns false'. Refute it at one input. -/
def fnExactMeanDifferenceWrong : ChangeSpec := { name := "fnExactMeanDifference", fn := fun _ => fun
  | [d] => { results := [.lit (.bool false)], args := [d] }
  | _ => none }
def FnExactMeanDifferenceWrongFalsely : Prop := fnExactMeanDifferenceRow.holds Try.pinned (OpenSpec.ofChange fnExactMeanDifferenceWrong)

/-- 'laws.FnExactOffsetOfLine': WHATEVER THE INPUT: true; the input reads as it did. -/
def fnExactOffsetOfLineSpec : ChangeSpec := { name := "fnExactOffsetOfLine", fn := fun _ => fun
  | [d1, d2] => { results := [.lit (.bool true)], args := [d1, d2] }
  | _ => none }
def fnExactOffsetOfLineRow : OpenClaim := { program := "ytiegnhpccbnhhaa", sum := "de43e98f082599b2ee063c46982db806511a6ccacc78cbf4f6608fe83c8a6111", func := "loop.example/g01031/laws.FnExactOffsetOfLine", spec := "fnExactOffsetOfLine", apart := false }
def FnExactOffsetOfLineSaid : Prop := fnExactOffsetOfLineRow.holds Try.pinned (OpenSpec.ofChange fnExactOffsetOfLineSpec)

/-- ITS FALSE NEIGHBOUR: 'it returns false'. Refute it at one input. -/
def fnExactOffsetOfLineWrong : ChangeSpec := { name := "fnExactOffsetOfLine", fn := fun _ => fun
  | [d1, d2] => { results := [.lit (.bool false)], args := [d1, d2] }
  | _ => none }
def FnExactOffsetOfLineWrongFalsely : Prop := fnExactOffsetOfLineRow.holds Try.pinned (OpenSpec.ofChange fnExactOffsetOfLineWrong)

/-- 'laws.FnExactCorrectLine': WHATEVER THE INPUT: true; the input reads as it did. -/
def fnExactCorrectLineSpec : ChangeSpec := { name := "fnExactCorrectLine", fn := fun _ => fun
  | [d1, d2, d3] => { results := [.lit (.bool true)], args := [d1, d2, d3] }
  | _ => none }
def fnExactCorrectLineRow : OpenClaim := { program := "ytiegnhpccbnhhaa", sum := "de43e98f082599b2ee063c46982db806511a6ccacc78cbf4f6608fe83c8a6111", func := "loop.example/g01031/laws.FnExactCorrectLine", spec := "fnExactCorrectLine", apart := false }
def FnExactCorrectLineSaid : Prop := fnExactCorrectLineRow.holds Try.pinned (OpenSpec.ofChange fnExactCorrectLineSpec)

/-- ITS FALSE NEIGHBOUR: 'it returns false'. Refute it at one input. -/
def fnExactCorrectLineWrong : ChangeSpec := { name := "fnExactCorrectLine", fn := fun _ => fun
  | [d1, d2, d3] => { results := [.lit (.bool false)], args := [d1, d2, d3] }
  | _ => none }
def FnExactCorrectLineWrongFalsely : Prop := fnExactCorrectLineRow.holds Try.pinned (OpenSpec.ofChange fnExactCorrectLineWrong)

/-- 'laws.FnExactNotTolerated': WHATEVER THE INPUT: true; the input reads as it did. -/
def fnExactNotToleratedSpec : ChangeSpec := { name := "fnExactNotTolerated", fn := fun _ => fun
  | [d1, d2, d3] => { results := [.lit (.bool true)], args := [d1, d2, d3] }
  | _ => none }
def fnExactNotToleratedRow : OpenClaim := { program := "ytiegnhpccbnhhaa", sum := "de43e98f082599b2ee063c46982db806511a6ccacc78cbf4f6608fe83c8a6111", func := "loop.example/g01031/laws.FnExactNotTolerated", spec := "fnExactNotTolerated", apart := false }
def FnExactNotToleratedSaid : Prop := fnExactNotToleratedRow.holds Try.pinned (OpenSpec.ofChange fnExactNotToleratedSpec)

/-- ITS FALSE NEIGHBOUR: 'it returns false'. Refute it at one input. -/
def fnExactNotToleratedWrong : ChangeSpec := { name := "fnExactNotTolerated", fn := fun _ => fun
  | [d1, d2, d3] => { results := [.lit (.bool false)], args := [d1, d2, d3] }
  | _ => none }
def FnExactNotToleratedWrongFalsely : Prop := fnExactNotToleratedRow.holds Try.pinned (OpenSpec.ofChange fnExactNotToleratedWrong)

/-- 'laws.FnExactWorstLine': WHATEVER THE INPUT: true; the input reads as it did. -/
def fnExactWorstLineSpec : ChangeSpec := { name := "fnExactWorstLine", fn := fun _ => fun
  | [d] => { results := [.lit (.bool true)], args := [d] }
  | _ => none }
def fnExactWorstLineRow : OpenClaim := { program := "ytiegnhpccbnhhaa", sum := "de43e98f082599b2ee063c46982db806511a6ccacc78cbf4f6608fe83c8a6111", func := "loop.example/g01031/laws.FnExactWorstLine", spec := "fnExactWorstLine", apart := false }
def FnExactWorstLineSaid : Prop := fnExactWorstLineRow.holds Try.pinned (OpenSpec.ofChange fnExactWorstLineSpec)

/-- ITS FALSE NEIGHBOUR: 'it returns false'. Refute it at one input. -/
def fnExactWorstLineWrong : ChangeSpec := { name := "fnExactWorstLine", fn := fun _ => fun
  | [d] => { results := [.lit (.bool false)], args := [d] }
  | _ => none }
def FnExactWorstLineWrongFalsely : Prop := fnExactWorstLineRow.holds Try.pinned (OpenSpec.ofChange fnExactWorstLineWrong)

/-- 'laws.FnCrossings': WHATEVER THE INPUT: true; the input reads as it did. -/
def fnCrossingsSpec : ChangeSpec := { name := "fnCrossings", fn := fun _ => fun
  | [d] => { results := [.lit (.bool true)], args := [d] }
  | _ => none }
def fnCrossingsRow : OpenClaim := { program := "ytiegnhpccbnhhaa", sum := "de43e98f082599b2ee063c46982db806511a6ccacc78cbf4f6608fe83c8a6111", func := "loop.example/g01031/laws.FnCrossings", spec := "fnCrossings", apart := false }
def FnCrossingsSaid : Prop := fnCrossingsRow.holds Try.pinned (OpenSpec.ofChange fnCrossingsSpec)

/-- ITS FALSE NEIGHBOUR: 'it returns false'. Refute it at one input. -/
def fnCrossingsWrong : ChangeSpec := { name := "fnCrossings", fn := fun _ => fun
  | [d] => { results := [.lit (.bool false)], args := [d] }
  | _ => none }
def FnCrossingsWrongFalsely : Prop := fnCrossingsRow.holds Try.pinned (OpenSpec.ofChange fnCrossingsWrong)

/-- 'laws.FnLineOffsets': WHATEVER THE INPUT: true; the input reads as it did. -/
def fnLineOffsetsSpec : ChangeSpec := { name := "fnLineOffsets", fn := fun _ => fun
  | [d] => { results := [.lit (.bool true)], args := [d] }
  | _ => none }
def fnLineOffsetsRow : OpenClaim := { program := "ytiegnhpccbnhhaa", sum := "de43e98f082599b2ee063c46982db806511a6ccacc78cbf4f6608fe83c8a6111", func := "loop.example/g01031/laws.FnLineOffsets", spec := "fnLineOffsets", apart := false }
def FnLineOffsetsSaid : Prop := fnLineOffsetsRow.holds Try.pinned (OpenSpec.ofChange fnLineOffsetsSpec)

/-- ITS FALSE NEIGHBOUR: 'it returns false'. Refute it at one input. -/
def fnLineOffsetsWrong : ChangeSpec := { name := "fnLineOffsets", fn := fun _ => fun
  | [d] => { results := [.lit (.bool false)], args := [d] }
  | _ => none }
def FnLineOffsetsWrongFalsely : Prop := fnLineOffsetsRow.holds Try.pinned (OpenSpec.ofChange fnLineOffsetsWrong)

/- THE SECOND FORM. 'bulk': how many values and letters a reading holds, each counted each time it is reached (what is shared counts as often as it is met; a slice's spare places count too). A statement '..UptoSaid' is the law's where the arguments, and the package variables that the reading takes, are together of bulk at most 1048576: NARROWER than '..Said'. Prove '..Said' where nothing that the law and all that it calls make is longer than what came in: it says more and counts as full. Else prove '..UptoSaid'. A law counts once. -/
mutual
def uptoBulk {H : Type} : DataW H → Nat
  | .lit (.string bytes) => bytes.length + 1
  | .lit _ => 1
  | .nil => 1
  | .ptr d => uptoBulk d + 1
  | .slice elems spare => uptoBulkAll elems + uptoBulkAll spare + 1
  | .agg parts => uptoBulkAll parts + 1
  | .iface _ d => uptoBulk d + 1
  | .map entries => uptoBulkEntries entries + 1
  | .held _ => 1
def uptoBulkAll {H : Type} : List (DataW H) → Nat
  | [] => 0
  | d :: r => uptoBulk d + uptoBulkAll r
def uptoBulkEntries {H : Type} : List (Lit × DataW H) → Nat
  | [] => 0
  | x :: r => uptoBulkEntry x + uptoBulkEntries r
def uptoBulkEntry {H : Type} : Lit × DataW H → Nat
  | (.string bytes, d) => bytes.length + uptoBulk d + 1
  | (_, d) => uptoBulk d + 1
 end
def uptoSmall : (H : Type) → List (DataW H) → Bool := fun _ ds => decide (uptoBulkAll ds ≤ 1048576)
def OpenSpec.upto (s : _root_.Go.ChangeSpec) : _root_.Go.OpenSpec := { _root_.Go.OpenSpec.ofChange s with cond := some uptoSmall }

/-- 'laws.FnExactSmallestFixed', WHERE WHAT IT READS IS OF BULK AT MOST 1048576: true; the input reads as it did. -/
def fnExactSmallestFixedUptoRow : OpenClaim := { program := "ytiegnhpccbnhhaa", sum := "de43e98f082599b2ee063c46982db806511a6ccacc78cbf4f6608fe83c8a6111", func := "loop.example/g01031/laws.FnExactSmallestFixed", spec := "fnExactSmallestFixed", apart := false, narrowed := true }
def FnExactSmallestFixedUptoSaid : Prop := fnExactSmallestFixedUptoRow.holds Try.pinned (OpenSpec.upto fnExactSmallestFixedSpec)

/-- 'laws.FnExactPassesTest', WHERE WHAT IT READS IS OF BULK AT MOST 1048576: true; the input reads as it did. -/
def fnExactPassesTestUptoRow : OpenClaim := { program := "ytiegnhpccbnhhaa", sum := "de43e98f082599b2ee063c46982db806511a6ccacc78cbf4f6608fe83c8a6111", func := "loop.example/g01031/laws.FnExactPassesTest", spec := "fnExactPassesTest", apart := false, narrowed := true }
def FnExactPassesTestUptoSaid : Prop := fnExactPassesTestUptoRow.holds Try.pinned (OpenSpec.upto fnExactPassesTestSpec)

/-- 'laws.FnExactMeanDifference', WHERE WHAT IT READS IS OF BULK AT MOST 1048576: true; the input reads as it did. -/
def fnExactMeanDifferenceUptoRow : OpenClaim := { program := "ytiegnhpccbnhhaa", sum := "de43e98f082599b2ee063c46982db806511a6ccacc78cbf4f6608fe83c8a6111", func := "loop.example/g01031/laws.FnExactMeanDifference", spec := "fnExactMeanDifference", apart := false, narrowed := true }
def FnExactMeanDifferenceUptoSaid : Prop := fnExactMeanDifferenceUptoRow.holds Try.pinned (OpenSpec.upto fnExactMeanDifferenceSpec)

/-- 'laws.FnExactOffsetOfLine', WHERE WHAT IT READS IS OF BULK AT MOST 1048576: true; the input reads as it did. -/
def fnExactOffsetOfLineUptoRow : OpenClaim := { program := "ytiegnhpccbnhhaa", sum := "de43e98f082599b2ee063c46982db806511a6ccacc78cbf4f6608fe83c8a6111", func := "loop.example/g01031/laws.FnExactOffsetOfLine", spec := "fnExactOffsetOfLine", apart := false, narrowed := true }
def FnExactOffsetOfLineUptoSaid : Prop := fnExactOffsetOfLineUptoRow.holds Try.pinned (OpenSpec.upto fnExactOffsetOfLineSpec)

/-- 'laws.FnExactCorrectLine', WHERE WHAT IT READS IS OF BULK AT MOST 1048576: true; the input reads as it did. -/
def fnExactCorrectLineUptoRow : OpenClaim := { program := "ytiegnhpccbnhhaa", sum := "de43e98f082599b2ee063c46982db806511a6ccacc78cbf4f6608fe83c8a6111", func := "loop.example/g01031/laws.FnExactCorrectLine", spec := "fnExactCorrectLine", apart := false, narrowed := true }
def FnExactCorrectLineUptoSaid : Prop := fnExactCorrectLineUptoRow.holds Try.pinned (OpenSpec.upto fnExactCorrectLineSpec)

/-- 'laws.FnExactNotTolerated', WHERE WHAT IT READS IS OF BULK AT MOST 1048576: true; the input reads as it did. -/
def fnExactNotToleratedUptoRow : OpenClaim := { program := "ytiegnhpccbnhhaa", sum := "de43e98f082599b2ee063c46982db806511a6ccacc78cbf4f6608fe83c8a6111", func := "loop.example/g01031/laws.FnExactNotTolerated", spec := "fnExactNotTolerated", apart := false, narrowed := true }
def FnExactNotToleratedUptoSaid : Prop := fnExactNotToleratedUptoRow.holds Try.pinned (OpenSpec.upto fnExactNotToleratedSpec)

/-- 'laws.FnExactWorstLine', WHERE WHAT IT READS IS OF BULK AT MOST 1048576: true; the input reads as it did. -/
def fnExactWorstLineUptoRow : OpenClaim := { program := "ytiegnhpccbnhhaa", sum := "de43e98f082599b2ee063c46982db806511a6ccacc78cbf4f6608fe83c8a6111", func := "loop.example/g01031/laws.FnExactWorstLine", spec := "fnExactWorstLine", apart := false, narrowed := true }
def FnExactWorstLineUptoSaid : Prop := fnExactWorstLineUptoRow.holds Try.pinned (OpenSpec.upto fnExactWorstLineSpec)

/-- 'laws.FnCrossings', WHERE WHAT IT READS IS OF BULK AT MOST 1048576: true; the input reads as it did. -/
def fnCrossingsUptoRow : OpenClaim := { program := "ytiegnhpccbnhhaa", sum := "de43e98f082599b2ee063c46982db806511a6ccacc78cbf4f6608fe83c8a6111", func := "loop.example/g01031/laws.FnCrossings", spec := "fnCrossings", apart := false, narrowed := true }
def FnCrossingsUptoSaid : Prop := fnCrossingsUptoRow.holds Try.pinned (OpenSpec.upto fnCrossingsSpec)

/-- 'laws.FnLineOffsets', WHERE WHAT IT READS IS OF BULK AT MOST 1048576: true; the input reads as it did. -/
def fnLineOffsetsUptoRow : OpenClaim := { program := "ytiegnhpccbnhhaa", sum := "de43e98f082599b2ee063c46982db806511a6ccacc78cbf4f6608fe83c8a6111", func := "loop.example/g01031/laws.FnLineOffsets", spec := "fnLineOffsets", apart := false, narrowed := true }
def FnLineOffsetsUptoSaid : Prop := fnLineOffsetsUptoRow.holds Try.pinned (OpenSpec.upto fnLineOffsetsSpec)

end Rows
end Go.Proofs.Ytiegnhpccbnhhaa
