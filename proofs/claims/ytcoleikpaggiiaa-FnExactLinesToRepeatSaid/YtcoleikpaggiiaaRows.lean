/-
  No cell of these rows narrows 'for every input' (looked for: loops, veiled, ifaces, maps, wideKeys, modest, calm, conditions, laid).
  DERIVED. THE GIVEN ROWS OF THIS SEAT. 12 by the template 'for every input the law returns true; each argument reads behind the call as it read before'; 0 by the template 'total and deterministic' (their statements: YtcoleikpaggiiaaTotals.lean).
  GIVEN WITH THE SEED: the statements are not yours to turn. If you find one false, say at which input.
  Laid BY PROGRAM, IN A SANDBOX (cutbox-rows.mjs): the forced cells as the released guide's own fill.sh prints them over the translation 2a5f8787bf3df22e… (all of the seat's roots in one cut). By AI agents, Wed Nov 11 2026. No macro, syntax, notation, axiom, sorry.
-/
import Derived.Test.YtcoleikpaggiiaaChecked
import GoSem.Claim
import GoSem.ClaimJoined
import GoSem.ClaimMapViews
import Derived.JoinedTies
import Derived.KernelRfl
namespace Go.Proofs.Ytcoleikpaggiiaa
/- THE CELL 'sum', in the pinned program and in every row, IS THE sha256 OF THE DUMP (.gsa) THAT YtcoleikpaggiiaaProg.lean LOADS. Nothing in Lean hashes anything: it is a label: what it is worth is what the hold of that sum in a sandbox is worth. -/
noncomputable def Try.pinned : Pinned := { name := "ytcoleikpaggiiaa", sum := "2a5f8787bf3df22e9df00bb949bc63399012bac972fa76c9586042770796b3dc", checked := Try.checked }
namespace Rows
def none {H : Type} : Left H := { results := [], args := [] }

/-- 'laws.FnExactIsPass': WHATEVER THE INPUT: true; the input reads as it did. -/
def fnExactIsPassSpec : ChangeSpec := { name := "fnExactIsPass", fn := fun _ => fun
  | [d] => { results := [.lit (.bool true)], args := [d] }
  | _ => none }
def fnExactIsPassRow : OpenClaim := { program := "ytcoleikpaggiiaa", sum := "2a5f8787bf3df22e9df00bb949bc63399012bac972fa76c9586042770796b3dc", func := "loop.example/g01031/laws.FnExactIsPass", spec := "fnExactIsPass", apart := false }
def FnExactIsPassSaid : Prop := fnExactIsPassRow.holds Try.pinned (OpenSpec.ofChange fnExactIsPassSpec)

/-- ITS FALSE NEIGHBOUR: 'it returns false'. Refute it at one input. -/
def fnExactIsPassWrong : ChangeSpec := { name := "fnExactIsPass", fn := fun _ => fun
  | [d] => { results := [.lit (.bool false)], args := [d] }
  | _ => none }
def FnExactIsPassWrongFalsely : Prop := fnExactIsPassRow.holds Try.pinned (OpenSpec.ofChange fnExactIsPassWrong)

/-- 'laws.FnExactArePasses': WHATEVER THE INPUT: true; the input reads as it did. -/
def fnExactArePassesSpec : ChangeSpec := { name := "fnExactArePasses", fn := fun _ => fun
  | [d] => { results := [.lit (.bool true)], args := [d] }
  | _ => none }
def fnExactArePassesRow : OpenClaim := { program := "ytcoleikpaggiiaa", sum := "2a5f8787bf3df22e9df00bb949bc63399012bac972fa76c9586042770796b3dc", func := "loop.example/g01031/laws.FnExactArePasses", spec := "fnExactArePasses", apart := false }
def FnExactArePassesSaid : Prop := fnExactArePassesRow.holds Try.pinned (OpenSpec.ofChange fnExactArePassesSpec)

/-- ITS FALSE NEIGHBOUR: 'it returns false'. Refute it at one input. -/
def fnExactArePassesWrong : ChangeSpec := { name := "fnExactArePasses", fn := fun _ => fun
  | [d] => { results := [.lit (.bool false)], args := [d] }
  | _ => none }
def FnExactArePassesWrongFalsely : Prop := fnExactArePassesRow.holds Try.pinned (OpenSpec.ofChange fnExactArePassesWrong)

/-- 'laws.FnExactLongestBreak': WHATEVER THE INPUT: true; the input reads as it did. -/
def fnExactLongestBreakSpec : ChangeSpec := { name := "fnExactLongestBreak", fn := fun _ => fun
  | [d] => { results := [.lit (.bool true)], args := [d] }
  | _ => none }
def fnExactLongestBreakRow : OpenClaim := { program := "ytcoleikpaggiiaa", sum := "2a5f8787bf3df22e9df00bb949bc63399012bac972fa76c9586042770796b3dc", func := "loop.example/g01031/laws.FnExactLongestBreak", spec := "fnExactLongestBreak", apart := false }
def FnExactLongestBreakSaid : Prop := fnExactLongestBreakRow.holds Try.pinned (OpenSpec.ofChange fnExactLongestBreakSpec)

/-- ITS FALSE NEIGHBOUR: 'it returns false'. Refute it at one input. -/
def fnExactLongestBreakWrong : ChangeSpec := { name := "fnExactLongestBreak", fn := fun _ => fun
  | [d] => { results := [.lit (.bool false)], args := [d] }
  | _ => none }
def FnExactLongestBreakWrongFalsely : Prop := fnExactLongestBreakRow.holds Try.pinned (OpenSpec.ofChange fnExactLongestBreakWrong)

/-- 'laws.FnExactMinutesOn': WHATEVER THE INPUT: true; the input reads as it did. -/
def fnExactMinutesOnSpec : ChangeSpec := { name := "fnExactMinutesOn", fn := fun _ => fun
  | [d1, d2] => { results := [.lit (.bool true)], args := [d1, d2] }
  | _ => none }
def fnExactMinutesOnRow : OpenClaim := { program := "ytcoleikpaggiiaa", sum := "2a5f8787bf3df22e9df00bb949bc63399012bac972fa76c9586042770796b3dc", func := "loop.example/g01031/laws.FnExactMinutesOn", spec := "fnExactMinutesOn", apart := false }
def FnExactMinutesOnSaid : Prop := fnExactMinutesOnRow.holds Try.pinned (OpenSpec.ofChange fnExactMinutesOnSpec)

/-- ITS FALSE NEIGHBOUR: 'it returns false'. Refute it at one input. -/
def fnExactMinutesOnWrong : ChangeSpec := { name := "fnExactMinutesOn", fn := fun _ => fun
  | [d1, d2] => { results := [.lit (.bool false)], args := [d1, d2] }
  | _ => none }
def FnExactMinutesOnWrongFalsely : Prop := fnExactMinutesOnRow.holds Try.pinned (OpenSpec.ofChange fnExactMinutesOnWrong)

/-- 'laws.FnPasses': WHATEVER THE INPUT: true; the input reads as it did. -/
def fnPassesSpec : ChangeSpec := { name := "fnPasses", fn := fun _ => fun
  | [d] => { results := [.lit (.bool true)], args := [d] }
  | _ => none }
def fnPassesRow : OpenClaim := { program := "ytcoleikpaggiiaa", sum := "2a5f8787bf3df22e9df00bb949bc63399012bac972fa76c9586042770796b3dc", func := "loop.example/g01031/laws.FnPasses", spec := "fnPasses", recurses := true, apart := false }
def FnPassesSaid : Prop := fnPassesRow.holds Try.pinned (OpenSpec.ofChange fnPassesSpec)

/-- ITS FALSE NEIGHBOUR: 'it returns false'. Refute it at one input. -/
def fnPassesWrong : ChangeSpec := { name := "fnPasses", fn := fun _ => fun
  | [d] => { results := [.lit (.bool false)], args := [d] }
  | _ => none }
def FnPassesWrongFalsely : Prop := fnPassesRow.holds Try.pinned (OpenSpec.ofChange fnPassesWrong)

/-- 'laws.FnExactBusyShare': WHATEVER THE INPUT: true; the input reads as it did. -/
def fnExactBusyShareSpec : ChangeSpec := { name := "fnExactBusyShare", fn := fun _ => fun
  | [d1, d2, d3] => { results := [.lit (.bool true)], args := [d1, d2, d3] }
  | _ => none }
def fnExactBusyShareRow : OpenClaim := { program := "ytcoleikpaggiiaa", sum := "2a5f8787bf3df22e9df00bb949bc63399012bac972fa76c9586042770796b3dc", func := "loop.example/g01031/laws.FnExactBusyShare", spec := "fnExactBusyShare", apart := false }
def FnExactBusyShareSaid : Prop := fnExactBusyShareRow.holds Try.pinned (OpenSpec.ofChange fnExactBusyShareSpec)

/-- ITS FALSE NEIGHBOUR: 'it returns false'. Refute it at one input. -/
def fnExactBusyShareWrong : ChangeSpec := { name := "fnExactBusyShare", fn := fun _ => fun
  | [d1, d2, d3] => { results := [.lit (.bool false)], args := [d1, d2, d3] }
  | _ => none }
def FnExactBusyShareWrongFalsely : Prop := fnExactBusyShareRow.holds Try.pinned (OpenSpec.ofChange fnExactBusyShareWrong)

/-- 'laws.FnExactGoodShare': WHATEVER THE INPUT: true; the input reads as it did. -/
def fnExactGoodShareSpec : ChangeSpec := { name := "fnExactGoodShare", fn := fun _ => fun
  | [d1, d2] => { results := [.lit (.bool true)], args := [d1, d2] }
  | _ => none }
def fnExactGoodShareRow : OpenClaim := { program := "ytcoleikpaggiiaa", sum := "2a5f8787bf3df22e9df00bb949bc63399012bac972fa76c9586042770796b3dc", func := "loop.example/g01031/laws.FnExactGoodShare", spec := "fnExactGoodShare", apart := false }
def FnExactGoodShareSaid : Prop := fnExactGoodShareRow.holds Try.pinned (OpenSpec.ofChange fnExactGoodShareSpec)

/-- ITS FALSE NEIGHBOUR: 'it returns false'. Refute it at one input. -/
def fnExactGoodShareWrong : ChangeSpec := { name := "fnExactGoodShare", fn := fun _ => fun
  | [d1, d2] => { results := [.lit (.bool false)], args := [d1, d2] }
  | _ => none }
def FnExactGoodShareWrongFalsely : Prop := fnExactGoodShareRow.holds Try.pinned (OpenSpec.ofChange fnExactGoodShareWrong)

/-- 'laws.FnExactOppositeOn': WHATEVER THE INPUT: true; the input reads as it did. -/
def fnExactOppositeOnSpec : ChangeSpec := { name := "fnExactOppositeOn", fn := fun _ => fun
  | [d1, d2] => { results := [.lit (.bool true)], args := [d1, d2] }
  | _ => none }
def fnExactOppositeOnRow : OpenClaim := { program := "ytcoleikpaggiiaa", sum := "2a5f8787bf3df22e9df00bb949bc63399012bac972fa76c9586042770796b3dc", func := "loop.example/g01031/laws.FnExactOppositeOn", spec := "fnExactOppositeOn", apart := false }
def FnExactOppositeOnSaid : Prop := fnExactOppositeOnRow.holds Try.pinned (OpenSpec.ofChange fnExactOppositeOnSpec)

/-- ITS FALSE NEIGHBOUR: 'it returns false'. Refute it at one input. -/
def fnExactOppositeOnWrong : ChangeSpec := { name := "fnExactOppositeOn", fn := fun _ => fun
  | [d1, d2] => { results := [.lit (.bool false)], args := [d1, d2] }
  | _ => none }
def FnExactOppositeOnWrongFalsely : Prop := fnExactOppositeOnRow.holds Try.pinned (OpenSpec.ofChange fnExactOppositeOnWrong)

/-- 'laws.FnExactLinesToRepeat': WHATEVER THE INPUT: true; the input reads as it did. -/
def fnExactLinesToRepeatSpec : ChangeSpec := { name := "fnExactLinesToRepeat", fn := fun _ => fun
  | [d1, d2] => { results := [.lit (.bool true)], args := [d1, d2] }
  | _ => none }
def fnExactLinesToRepeatRow : OpenClaim := { program := "ytcoleikpaggiiaa", sum := "2a5f8787bf3df22e9df00bb949bc63399012bac972fa76c9586042770796b3dc", func := "loop.example/g01031/laws.FnExactLinesToRepeat", spec := "fnExactLinesToRepeat", apart := false }
def FnExactLinesToRepeatSaid : Prop := fnExactLinesToRepeatRow.holds Try.pinned (OpenSpec.ofChange fnExactLinesToRepeatSpec)

/-- ITS FALSE NEIGHBOUR: 'it returns false'. Refute it at one input. -/
def fnExactLinesToRepeatWrong : ChangeSpec := { name := "fnExactLinesToRepeat", fn := fun _ => fun
  | [d1, d2] => { results := [.lit (.bool false)], args := [d1, d2] }
  | _ => none }
def FnExactLinesToRepeatWrongFalsely : Prop := fnExactLinesToRepeatRow.holds Try.pinned (OpenSpec.ofChange fnExactLinesToRepeatWrong)

/-- 'laws.FnExactPutPass': WHATEVER THE INPUT: true; the input reads as it did. -/
def fnExactPutPassSpec : ChangeSpec := { name := "fnExactPutPass", fn := fun _ => fun
  | [d1, d2] => { results := [.lit (.bool true)], args := [d1, d2] }
  | _ => none }
def fnExactPutPassRow : OpenClaim := { program := "ytcoleikpaggiiaa", sum := "2a5f8787bf3df22e9df00bb949bc63399012bac972fa76c9586042770796b3dc", func := "loop.example/g01031/laws.FnExactPutPass", spec := "fnExactPutPass", inPlace := ["slices.overlaps[loop.example/g01031/impl.Pass]"], apart := false }
def FnExactPutPassSaid : Prop := fnExactPutPassRow.holds Try.pinned (OpenSpec.ofChange fnExactPutPassSpec)

/-- ITS FALSE NEIGHBOUR: 'it returns false'. Refute it at one input. -/
def fnExactPutPassWrong : ChangeSpec := { name := "fnExactPutPass", fn := fun _ => fun
  | [d1, d2] => { results := [.lit (.bool false)], args := [d1, d2] }
  | _ => none }
def FnExactPutPassWrongFalsely : Prop := fnExactPutPassRow.holds Try.pinned (OpenSpec.ofChange fnExactPutPassWrong)

/-- 'laws.FnPassPairs': WHATEVER THE INPUT: true; the input reads as it did. -/
def fnPassPairsSpec : ChangeSpec := { name := "fnPassPairs", fn := fun _ => fun
  | [d] => { results := [.lit (.bool true)], args := [d] }
  | _ => none }
def fnPassPairsRow : OpenClaim := { program := "ytcoleikpaggiiaa", sum := "2a5f8787bf3df22e9df00bb949bc63399012bac972fa76c9586042770796b3dc", func := "loop.example/g01031/laws.FnPassPairs", spec := "fnPassPairs", inPlace := ["slices.overlaps[loop.example/g01031/impl.Pass]"], apart := false }
def FnPassPairsSaid : Prop := fnPassPairsRow.holds Try.pinned (OpenSpec.ofChange fnPassPairsSpec)

/-- ITS FALSE NEIGHBOUR: 'it returns false'. Refute it at one input. -/
def fnPassPairsWrong : ChangeSpec := { name := "fnPassPairs", fn := fun _ => fun
  | [d] => { results := [.lit (.bool false)], args := [d] }
  | _ => none }
def FnPassPairsWrongFalsely : Prop := fnPassPairsRow.holds Try.pinned (OpenSpec.ofChange fnPassPairsWrong)

/-- 'laws.FnExactSailedLines': WHATEVER THE INPUT: true; the input reads as it did. -/
def fnExactSailedLinesSpec : ChangeSpec := { name := "fnExactSailedLines", fn := fun _ => fun
  | [d] => { results := [.lit (.bool true)], args := [d] }
  | _ => none }
def fnExactSailedLinesRow : OpenClaim := { program := "ytcoleikpaggiiaa", sum := "2a5f8787bf3df22e9df00bb949bc63399012bac972fa76c9586042770796b3dc", func := "loop.example/g01031/laws.FnExactSailedLines", spec := "fnExactSailedLines", recurses := true, apart := false }
def FnExactSailedLinesSaid : Prop := fnExactSailedLinesRow.holds Try.pinned (OpenSpec.ofChange fnExactSailedLinesSpec)

/-- ITS FALSE NEIGHBOUR: 'it returns false'. Refute it at one input. -/
def fnExactSailedLinesWrong : ChangeSpec := { name := "fnExactSailedLines", fn := fun _ => fun
  | [d] => { results := [.lit (.bool false)], args := [d] }
  | _ => none }
def FnExactSailedLinesWrongFalsely : Prop := fnExactSailedLinesRow.holds Try.pinned (OpenSpec.ofChange fnExactSailedLinesWrong)

/- THE SECOND FORM. 'bulk': how many values and letters a reading holds, each counted each time it is reached (what is shared counts as often as it is met; a slice's spare places count too). A statement '..UptoSaid' is the law's where the arguments, and the package variables that the reading takes, are together of bulk at most 1048576: NARROWER than '..Said'. Prove '..Said' where nothing that the law and all that it calls make is longer than what came in: it says more and counts as full. Else prove '..UptoSaid'. A law counts once. -/
mutual
def uptoBulk {H : Type} : DataW H → Nat
  | .lit (.string bytes) => bytes.length + 1
  | .lit _ => 1
  | .nil => 1
  | .ptr d => uptoBulk d + 1
  | .slice elems spare => uptoBulkAll elems + uptoBulkAll spare + 1
  | .agg parts => uptoBulkAll parts + 1
  | .iface _ d => uptoBulk d + 1
  | .map entries => uptoBulkEntries entries + 1
  | .held _ => 1
def uptoBulkAll {H : Type} : List (DataW H) → Nat
  | [] => 0
  | d :: r => uptoBulk d + uptoBulkAll r
def uptoBulkEntries {H : Type} : List (Lit × DataW H) → Nat
  | [] => 0
  | x :: r => uptoBulkEntry x + uptoBulkEntries r
def uptoBulkEntry {H : Type} : Lit × DataW H → Nat
  | (.string bytes, d) => bytes.length + uptoBulk d + 1
  | (_, d) => uptoBulk d + 1
 end
def uptoSmall : (H : Type) → List (DataW H) → Bool := fun _ ds => decide (uptoBulkAll ds ≤ 1048576)
def OpenSpec.upto (s : _root_.Go.ChangeSpec) : _root_.Go.OpenSpec := { _root_.Go.OpenSpec.ofChange s with cond := some uptoSmall }

/-- 'laws.FnExactIsPass', WHERE WHAT IT READS IS OF BULK AT MOST 1048576: true; the input reads as it did. -/
def fnExactIsPassUptoRow : OpenClaim := { program := "ytcoleikpaggiiaa", sum := "2a5f8787bf3df22e9df00bb949bc63399012bac972fa76c9586042770796b3dc", func := "loop.example/g01031/laws.FnExactIsPass", spec := "fnExactIsPass", apart := false, narrowed := true }
def FnExactIsPassUptoSaid : Prop := fnExactIsPassUptoRow.holds Try.pinned (OpenSpec.upto fnExactIsPassSpec)

/-- 'laws.FnExactArePasses', WHERE WHAT IT READS IS OF BULK AT MOST 1048576: true; the input reads as it did. -/
def fnExactArePassesUptoRow : OpenClaim := { program := "ytcoleikpaggiiaa", sum := "2a5f8787bf3df22e9df00bb949bc63399012bac972fa76c9586042770796b3dc", func := "loop.example/g01031/laws.FnExactArePasses", spec := "fnExactArePasses", apart := false, narrowed := true }
def FnExactArePassesUptoSaid : Prop := fnExactArePassesUptoRow.holds Try.pinned (OpenSpec.upto fnExactArePassesSpec)

/-- 'laws.FnExactLongestBreak', WHERE WHAT IT READS IS OF BULK AT MOST 1048576: true; the input reads as it did. -/
def fnExactLongestBreakUptoRow : OpenClaim := { program := "ytcoleikpaggiiaa", sum := "2a5f8787bf3df22e9df00bb949bc63399012bac972fa76c9586042770796b3dc", func := "loop.example/g01031/laws.FnExactLongestBreak", spec := "fnExactLongestBreak", apart := false, narrowed := true }
def FnExactLongestBreakUptoSaid : Prop := fnExactLongestBreakUptoRow.holds Try.pinned (OpenSpec.upto fnExactLongestBreakSpec)

/-- 'laws.FnExactMinutesOn', WHERE WHAT IT READS IS OF BULK AT MOST 1048576: true; the input reads as it did. -/
def fnExactMinutesOnUptoRow : OpenClaim := { program := "ytcoleikpaggiiaa", sum := "2a5f8787bf3df22e9df00bb949bc63399012bac972fa76c9586042770796b3dc", func := "loop.example/g01031/laws.FnExactMinutesOn", spec := "fnExactMinutesOn", apart := false, narrowed := true }
def FnExactMinutesOnUptoSaid : Prop := fnExactMinutesOnUptoRow.holds Try.pinned (OpenSpec.upto fnExactMinutesOnSpec)

/-- 'laws.FnPasses', WHERE WHAT IT READS IS OF BULK AT MOST 1048576: true; the input reads as it did. -/
def fnPassesUptoRow : OpenClaim := { program := "ytcoleikpaggiiaa", sum := "2a5f8787bf3df22e9df00bb949bc63399012bac972fa76c9586042770796b3dc", func := "loop.example/g01031/laws.FnPasses", spec := "fnPasses", recurses := true, apart := false, narrowed := true }
def FnPassesUptoSaid : Prop := fnPassesUptoRow.holds Try.pinned (OpenSpec.upto fnPassesSpec)

/-- 'laws.FnExactBusyShare', WHERE WHAT IT READS IS OF BULK AT MOST 1048576: true; the input reads as it did. -/
def fnExactBusyShareUptoRow : OpenClaim := { program := "ytcoleikpaggiiaa", sum := "2a5f8787bf3df22e9df00bb949bc63399012bac972fa76c9586042770796b3dc", func := "loop.example/g01031/laws.FnExactBusyShare", spec := "fnExactBusyShare", apart := false, narrowed := true }
def FnExactBusyShareUptoSaid : Prop := fnExactBusyShareUptoRow.holds Try.pinned (OpenSpec.upto fnExactBusyShareSpec)

/-- 'laws.FnExactGoodShare', WHERE WHAT IT READS IS OF BULK AT MOST 1048576: true; the input reads as it did. -/
def fnExactGoodShareUptoRow : OpenClaim := { program := "ytcoleikpaggiiaa", sum := "2a5f8787bf3df22e9df00bb949bc63399012bac972fa76c9586042770796b3dc", func := "loop.example/g01031/laws.FnExactGoodShare", spec := "fnExactGoodShare", apart := false, narrowed := true }
def FnExactGoodShareUptoSaid : Prop := fnExactGoodShareUptoRow.holds Try.pinned (OpenSpec.upto fnExactGoodShareSpec)

/-- 'laws.FnExactOppositeOn', WHERE WHAT IT READS IS OF BULK AT MOST 1048576: true; the input reads as it did. -/
def fnExactOppositeOnUptoRow : OpenClaim := { program := "ytcoleikpaggiiaa", sum := "2a5f8787bf3df22e9df00bb949bc63399012bac972fa76c9586042770796b3dc", func := "loop.example/g01031/laws.FnExactOppositeOn", spec := "fnExactOppositeOn", apart := false, narrowed := true }
def FnExactOppositeOnUptoSaid : Prop := fnExactOppositeOnUptoRow.holds Try.pinned (OpenSpec.upto fnExactOppositeOnSpec)

/-- 'laws.FnExactLinesToRepeat', WHERE WHAT IT READS IS OF BULK AT MOST 1048576: true; the input reads as it did. -/
def fnExactLinesToRepeatUptoRow : OpenClaim := { program := "ytcoleikpaggiiaa", sum := "2a5f8787bf3df22e9df00bb949bc63399012bac972fa76c9586042770796b3dc", func := "loop.example/g01031/laws.FnExactLinesToRepeat", spec := "fnExactLinesToRepeat", apart := false, narrowed := true }
def FnExactLinesToRepeatUptoSaid : Prop := fnExactLinesToRepeatUptoRow.holds Try.pinned (OpenSpec.upto fnExactLinesToRepeatSpec)

/-- 'laws.FnExactPutPass', WHERE WHAT IT READS IS OF BULK AT MOST 1048576: true; the input reads as it did. -/
def fnExactPutPassUptoRow : OpenClaim := { program := "ytcoleikpaggiiaa", sum := "2a5f8787bf3df22e9df00bb949bc63399012bac972fa76c9586042770796b3dc", func := "loop.example/g01031/laws.FnExactPutPass", spec := "fnExactPutPass", inPlace := ["slices.overlaps[loop.example/g01031/impl.Pass]"], apart := false, narrowed := true }
def FnExactPutPassUptoSaid : Prop := fnExactPutPassUptoRow.holds Try.pinned (OpenSpec.upto fnExactPutPassSpec)

/-- 'laws.FnPassPairs', WHERE WHAT IT READS IS OF BULK AT MOST 1048576: true; the input reads as it did. -/
def fnPassPairsUptoRow : OpenClaim := { program := "ytcoleikpaggiiaa", sum := "2a5f8787bf3df22e9df00bb949bc63399012bac972fa76c9586042770796b3dc", func := "loop.example/g01031/laws.FnPassPairs", spec := "fnPassPairs", inPlace := ["slices.overlaps[loop.example/g01031/impl.Pass]"], apart := false, narrowed := true }
def FnPassPairsUptoSaid : Prop := fnPassPairsUptoRow.holds Try.pinned (OpenSpec.upto fnPassPairsSpec)

/-- 'laws.FnExactSailedLines', WHERE WHAT IT READS IS OF BULK AT MOST 1048576: true; the input reads as it did. -/
def fnExactSailedLinesUptoRow : OpenClaim := { program := "ytcoleikpaggiiaa", sum := "2a5f8787bf3df22e9df00bb949bc63399012bac972fa76c9586042770796b3dc", func := "loop.example/g01031/laws.FnExactSailedLines", spec := "fnExactSailedLines", recurses := true, apart := false, narrowed := true }
def FnExactSailedLinesUptoSaid : Prop := fnExactSailedLinesUptoRow.holds Try.pinned (OpenSpec.upto fnExactSailedLinesSpec)

end Rows
end Go.Proofs.Ytcoleikpaggiiaa
