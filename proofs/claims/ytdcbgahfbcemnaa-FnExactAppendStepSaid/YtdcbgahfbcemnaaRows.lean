/-
  No cell of these rows narrows 'for every input' (looked for: loops, veiled, ifaces, maps, wideKeys, modest, calm, conditions, laid).
  DERIVED. THE GIVEN ROWS OF THIS SEAT. 9 by the template 'for every input the law returns true; each argument reads behind the call as it read before'; 0 by the template 'total and deterministic' (their statements: YtdcbgahfbcemnaaTotals.lean).
  GIVEN WITH THE SEED: the statements are not yours to turn. If you find one false, say at which input.
  Laid BY PROGRAM, IN A SANDBOX (cutbox-rows.mjs): the forced cells as the released guide's own fill.sh prints them over the translation 9b9d0ad8f503703e… (all of the seat's roots in one cut). By AI agents, Wed Nov 11 2026. No macro, syntax, notation, axiom, sorry.
-/
import Derived.Test.YtdcbgahfbcemnaaChecked
import GoSem.Claim
import GoSem.ClaimJoined
import GoSem.ClaimMapViews
import Derived.JoinedTies
import Derived.KernelRfl
namespace Go.Proofs.Ytdcbgahfbcemnaa
/- THE CELL 'sum', in the pinned program and in every row, IS THE sha256 OF THE DUMP (.gsa) THAT YtdcbgahfbcemnaaProg.lean LOADS. Nothing in Lean hashes anything: it is a label: what it is worth is what the hold of that sum in a sandbox is worth. -/
noncomputable def Try.pinned : Pinned := { name := "ytdcbgahfbcemnaa", sum := "9b9d0ad8f503703e8c15d525365f8c9c14a63e673a160f2597c2d3da3eeb1320", checked := Try.checked }
namespace Rows
def none {H : Type} : Left H := { results := [], args := [] }

/-- 'laws.FnExactIsEditList': WHATEVER THE INPUT: true; the input reads as it did. -/
def fnExactIsEditListSpec : ChangeSpec := { name := "fnExactIsEditList", fn := fun _ => fun
  | [d1, d2] => { results := [.lit (.bool true)], args := [d1, d2] }
  | _ => none }
def fnExactIsEditListRow : OpenClaim := { program := "ytdcbgahfbcemnaa", sum := "9b9d0ad8f503703e8c15d525365f8c9c14a63e673a160f2597c2d3da3eeb1320", func := "loop.example/g01031/laws.FnExactIsEditList", spec := "fnExactIsEditList", apart := false }
def FnExactIsEditListSaid : Prop := fnExactIsEditListRow.holds Try.pinned (OpenSpec.ofChange fnExactIsEditListSpec)

/-- ITS FALSE NEIGHBOUR: 'it returns false'. Refute it at one input. -/
def fnExactIsEditListWrong : ChangeSpec := { name := "fnExactIsEditList", fn := fun _ => fun
  | [d1, d2] => { results := [.lit (.bool false)], args := [d1, d2] }
  | _ => none }
def FnExactIsEditListWrongFalsely : Prop := fnExactIsEditListRow.holds Try.pinned (OpenSpec.ofChange fnExactIsEditListWrong)

/-- 'laws.FnExactRejectedCount': WHATEVER THE INPUT: true; the input reads as it did. -/
def fnExactRejectedCountSpec : ChangeSpec := { name := "fnExactRejectedCount", fn := fun _ => fun
  | [d1, d2] => { results := [.lit (.bool true)], args := [d1, d2] }
  | _ => none }
def fnExactRejectedCountRow : OpenClaim := { program := "ytdcbgahfbcemnaa", sum := "9b9d0ad8f503703e8c15d525365f8c9c14a63e673a160f2597c2d3da3eeb1320", func := "loop.example/g01031/laws.FnExactRejectedCount", spec := "fnExactRejectedCount", apart := false }
def FnExactRejectedCountSaid : Prop := fnExactRejectedCountRow.holds Try.pinned (OpenSpec.ofChange fnExactRejectedCountSpec)

/-- ITS FALSE NEIGHBOUR: 'it returns false'. Refute it at one input. -/
def fnExactRejectedCountWrong : ChangeSpec := { name := "fnExactRejectedCount", fn := fun _ => fun
  | [d1, d2] => { results := [.lit (.bool false)], args := [d1, d2] }
  | _ => none }
def FnExactRejectedCountWrongFalsely : Prop := fnExactRejectedCountRow.holds Try.pinned (OpenSpec.ofChange fnExactRejectedCountWrong)

/-- 'laws.FnExactLiveSteps': WHATEVER THE INPUT: true; the input reads as it did. -/
def fnExactLiveStepsSpec : ChangeSpec := { name := "fnExactLiveSteps", fn := fun _ => fun
  | [d1, d2] => { results := [.lit (.bool true)], args := [d1, d2] }
  | _ => none }
def fnExactLiveStepsRow : OpenClaim := { program := "ytdcbgahfbcemnaa", sum := "9b9d0ad8f503703e8c15d525365f8c9c14a63e673a160f2597c2d3da3eeb1320", func := "loop.example/g01031/laws.FnExactLiveSteps", spec := "fnExactLiveSteps", apart := false }
def FnExactLiveStepsSaid : Prop := fnExactLiveStepsRow.holds Try.pinned (OpenSpec.ofChange fnExactLiveStepsSpec)

/-- ITS FALSE NEIGHBOUR: 'it returns false'. Refute it at one input. -/
def fnExactLiveStepsWrong : ChangeSpec := { name := "fnExactLiveSteps", fn := fun _ => fun
  | [d1, d2] => { results := [.lit (.bool false)], args := [d1, d2] }
  | _ => none }
def FnExactLiveStepsWrongFalsely : Prop := fnExactLiveStepsRow.holds Try.pinned (OpenSpec.ofChange fnExactLiveStepsWrong)

/-- 'laws.FnExactAppendStep': WHATEVER THE INPUT: true; the input reads as it did. -/
def fnExactAppendStepSpec : ChangeSpec := { name := "fnExactAppendStep", fn := fun _ => fun
  | [d1, d2, d3] => { results := [.lit (.bool true)], args := [d1, d2, d3] }
  | _ => none }
def fnExactAppendStepRow : OpenClaim := { program := "ytdcbgahfbcemnaa", sum := "9b9d0ad8f503703e8c15d525365f8c9c14a63e673a160f2597c2d3da3eeb1320", func := "loop.example/g01031/laws.FnExactAppendStep", spec := "fnExactAppendStep", apart := false }
def FnExactAppendStepSaid : Prop := fnExactAppendStepRow.holds Try.pinned (OpenSpec.ofChange fnExactAppendStepSpec)

/-- ITS FALSE NEIGHBOUR: 'it returns false'. Refute it at one input. -/
def fnExactAppendStepWrong : ChangeSpec := { name := "fnExactAppendStep", fn := fun _ => fun
  | [d1, d2, d3] => { results := [.lit (.bool false)], args := [d1, d2, d3] }
  | _ => none }
def FnExactAppendStepWrongFalsely : Prop := fnExactAppendStepRow.holds Try.pinned (OpenSpec.ofChange fnExactAppendStepWrong)

/-- 'laws.FnExactCleanSteps': WHATEVER THE INPUT: true; the input reads as it did. -/
def fnExactCleanStepsSpec : ChangeSpec := { name := "fnExactCleanSteps", fn := fun _ => fun
  | [d1, d2] => { results := [.lit (.bool true)], args := [d1, d2] }
  | _ => none }
def fnExactCleanStepsRow : OpenClaim := { program := "ytdcbgahfbcemnaa", sum := "9b9d0ad8f503703e8c15d525365f8c9c14a63e673a160f2597c2d3da3eeb1320", func := "loop.example/g01031/laws.FnExactCleanSteps", spec := "fnExactCleanSteps", apart := false }
def FnExactCleanStepsSaid : Prop := fnExactCleanStepsRow.holds Try.pinned (OpenSpec.ofChange fnExactCleanStepsSpec)

/-- ITS FALSE NEIGHBOUR: 'it returns false'. Refute it at one input. -/
def fnExactCleanStepsWrong : ChangeSpec := { name := "fnExactCleanSteps", fn := fun _ => fun
  | [d1, d2] => { results := [.lit (.bool false)], args := [d1, d2] }
  | _ => none }
def FnExactCleanStepsWrongFalsely : Prop := fnExactCleanStepsRow.holds Try.pinned (OpenSpec.ofChange fnExactCleanStepsWrong)

/-- 'laws.FnExactShiftsAfter': WHATEVER THE INPUT: true; the input reads as it did. -/
def fnExactShiftsAfterSpec : ChangeSpec := { name := "fnExactShiftsAfter", fn := fun _ => fun
  | [d1, d2] => { results := [.lit (.bool true)], args := [d1, d2] }
  | _ => none }
def fnExactShiftsAfterRow : OpenClaim := { program := "ytdcbgahfbcemnaa", sum := "9b9d0ad8f503703e8c15d525365f8c9c14a63e673a160f2597c2d3da3eeb1320", func := "loop.example/g01031/laws.FnExactShiftsAfter", spec := "fnExactShiftsAfter", apart := false }
def FnExactShiftsAfterSaid : Prop := fnExactShiftsAfterRow.holds Try.pinned (OpenSpec.ofChange fnExactShiftsAfterSpec)

/-- ITS FALSE NEIGHBOUR: 'it returns false'. Refute it at one input. -/
def fnExactShiftsAfterWrong : ChangeSpec := { name := "fnExactShiftsAfter", fn := fun _ => fun
  | [d1, d2] => { results := [.lit (.bool false)], args := [d1, d2] }
  | _ => none }
def FnExactShiftsAfterWrongFalsely : Prop := fnExactShiftsAfterRow.holds Try.pinned (OpenSpec.ofChange fnExactShiftsAfterWrong)

/-- 'laws.FnExactReasonsFor': WHATEVER THE INPUT: true; the input reads as it did. -/
def fnExactReasonsForSpec : ChangeSpec := { name := "fnExactReasonsFor", fn := fun _ => fun
  | [d1, d2, d3] => { results := [.lit (.bool true)], args := [d1, d2, d3] }
  | _ => none }
def fnExactReasonsForRow : OpenClaim := { program := "ytdcbgahfbcemnaa", sum := "9b9d0ad8f503703e8c15d525365f8c9c14a63e673a160f2597c2d3da3eeb1320", func := "loop.example/g01031/laws.FnExactReasonsFor", spec := "fnExactReasonsFor", apart := false }
def FnExactReasonsForSaid : Prop := fnExactReasonsForRow.holds Try.pinned (OpenSpec.ofChange fnExactReasonsForSpec)

/-- ITS FALSE NEIGHBOUR: 'it returns false'. Refute it at one input. -/
def fnExactReasonsForWrong : ChangeSpec := { name := "fnExactReasonsFor", fn := fun _ => fun
  | [d1, d2, d3] => { results := [.lit (.bool false)], args := [d1, d2, d3] }
  | _ => none }
def FnExactReasonsForWrongFalsely : Prop := fnExactReasonsForRow.holds Try.pinned (OpenSpec.ofChange fnExactReasonsForWrong)

/-- 'laws.FnExactAcceptedAfter': WHATEVER THE INPUT: true; the input reads as it did. -/
def fnExactAcceptedAfterSpec : ChangeSpec := { name := "fnExactAcceptedAfter", fn := fun _ => fun
  | [d1, d2] => { results := [.lit (.bool true)], args := [d1, d2] }
  | _ => none }
def fnExactAcceptedAfterRow : OpenClaim := { program := "ytdcbgahfbcemnaa", sum := "9b9d0ad8f503703e8c15d525365f8c9c14a63e673a160f2597c2d3da3eeb1320", func := "loop.example/g01031/laws.FnExactAcceptedAfter", spec := "fnExactAcceptedAfter", apart := false }
def FnExactAcceptedAfterSaid : Prop := fnExactAcceptedAfterRow.holds Try.pinned (OpenSpec.ofChange fnExactAcceptedAfterSpec)

/-- ITS FALSE NEIGHBOUR: 'it returns false'. Refute it at one input. -/
def fnExactAcceptedAfterWrong : ChangeSpec := { name := "fnExactAcceptedAfter", fn := fun _ => fun
  | [d1, d2] => { results := [.lit (.bool false)], args := [d1, d2] }
  | _ => none }
def FnExactAcceptedAfterWrongFalsely : Prop := fnExactAcceptedAfterRow.holds Try.pinned (OpenSpec.ofChange fnExactAcceptedAfterWrong)

/-- 'laws.FnExactNeverTouched': WHATEVER THE INPUT: true; the input reads as it did. -/
def fnExactNeverTouchedSpec : ChangeSpec := { name := "fnExactNeverTouched", fn := fun _ => fun
  | [d1, d2] => { results := [.lit (.bool true)], args := [d1, d2] }
  | _ => none }
def fnExactNeverTouchedRow : OpenClaim := { program := "ytdcbgahfbcemnaa", sum := "9b9d0ad8f503703e8c15d525365f8c9c14a63e673a160f2597c2d3da3eeb1320", func := "loop.example/g01031/laws.FnExactNeverTouched", spec := "fnExactNeverTouched", unfollowed := true, recurses := true, apart := false }
def FnExactNeverTouchedSaid : Prop := fnExactNeverTouchedRow.holds Try.pinned (OpenSpec.ofChange fnExactNeverTouchedSpec)

/-- ITS FALSE NEIGHBOUR: 'it returns false'. Refute it at one input. -/
def fnExactNeverTouchedWrong : ChangeSpec := { name := "fnExactNeverTouched", fn := fun _ => fun
  | [d1, d2] => { results := [.lit (.bool false)], args := [d1, d2] }
  | _ => none }
def FnExactNeverTouchedWrongFalsely : Prop := fnExactNeverTouchedRow.holds Try.pinned (OpenSpec.ofChange fnExactNeverTouchedWrong)

/- THE SECOND FORM. 'bulk': how many values and letters a reading holds, each counted each time it is reached (what is shared counts as often as it is met; a slice's spare places count too). A statement '..UptoSaid' is the law's where the arguments, and the package variables that the reading takes, are together of bulk at most 1048576: NARROWER than '..Said'. Prove '..Said' where nothing that the law and all that it calls make is longer than what came in: it says more and counts as full. Else prove '..UptoSaid'. A law counts once. -/
mutual
def uptoBulk {H : Type} : DataW H → Nat
  | .lit (.string bytes) => bytes.length + 1
  | .lit _ => 1
  | .nil => 1
  | .ptr d => uptoBulk d + 1
  | .slice elems spare => uptoBulkAll elems + uptoBulkAll spare + 1
  | .agg parts => uptoBulkAll parts + 1
  | .iface _ d => uptoBulk d + 1
  | .map entries => uptoBulkEntries entries + 1
  | .held _ => 1
def uptoBulkAll {H : Type} : List (DataW H) → Nat
  | [] => 0
  | d :: r => uptoBulk d + uptoBulkAll r
def uptoBulkEntries {H : Type} : List (Lit × DataW H) → Nat
  | [] => 0
  | x :: r => uptoBulkEntry x + uptoBulkEntries r
def uptoBulkEntry {H : Type} : Lit × DataW H → Nat
  | (.string bytes, d) => bytes.length + uptoBulk d + 1
  | (_, d) => uptoBulk d + 1
 end
def uptoSmall : (H : Type) → List (DataW H) → Bool := fun _ ds => decide (uptoBulkAll ds ≤ 1048576)
def OpenSpec.upto (s : _root_.Go.ChangeSpec) : _root_.Go.OpenSpec := { _root_.Go.OpenSpec.ofChange s with cond := some uptoSmall }

/-- 'laws.FnExactIsEditList', WHERE WHAT IT READS IS OF BULK AT MOST 1048576: true; the input reads as it did. -/
def fnExactIsEditListUptoRow : OpenClaim := { program := "ytdcbgahfbcemnaa", sum := "9b9d0ad8f503703e8c15d525365f8c9c14a63e673a160f2597c2d3da3eeb1320", func := "loop.example/g01031/laws.FnExactIsEditList", spec := "fnExactIsEditList", apart := false, narrowed := true }
def FnExactIsEditListUptoSaid : Prop := fnExactIsEditListUptoRow.holds Try.pinned (OpenSpec.upto fnExactIsEditListSpec)

/-- 'laws.FnExactRejectedCount', WHERE WHAT IT READS IS OF BULK AT MOST 1048576: true; the input reads as it did. -/
def fnExactRejectedCountUptoRow : OpenClaim := { program := "ytdcbgahfbcemnaa", sum := "9b9d0ad8f503703e8c15d525365f8c9c14a63e673a160f2597c2d3da3eeb1320", func := "loop.example/g01031/laws.FnExactRejectedCount", spec := "fnExactRejectedCount", apart := false, narrowed := true }
def FnExactRejectedCountUptoSaid : Prop := fnExactRejectedCountUptoRow.holds Try.pinned (OpenSpec.upto fnExactRejectedCountSpec)

/-- 'laws.FnExactLiveSteps', WHERE WHAT IT READS IS OF BULK AT MOST 1048576: true; the input reads as it did. -/
def fnExactLiveStepsUptoRow : OpenClaim := { program := "ytdcbgahfbcemnaa", sum := "9b9d0ad8f503703e8c15d525365f8c9c14a63e673a160f2597c2d3da3eeb1320", func := "loop.example/g01031/laws.FnExactLiveSteps", spec := "fnExactLiveSteps", apart := false, narrowed := true }
def FnExactLiveStepsUptoSaid : Prop := fnExactLiveStepsUptoRow.holds Try.pinned (OpenSpec.upto fnExactLiveStepsSpec)

/-- 'laws.FnExactAppendStep', WHERE WHAT IT READS IS OF BULK AT MOST 1048576: true; the input reads as it did. -/
def fnExactAppendStepUptoRow : OpenClaim := { program := "ytdcbgahfbcemnaa", sum := "9b9d0ad8f503703e8c15d525365f8c9c14a63e673a160f2597c2d3da3eeb1320", func := "loop.example/g01031/laws.FnExactAppendStep", spec := "fnExactAppendStep", apart := false, narrowed := true }
def FnExactAppendStepUptoSaid : Prop := fnExactAppendStepUptoRow.holds Try.pinned (OpenSpec.upto fnExactAppendStepSpec)

/-- 'laws.FnExactCleanSteps', WHERE WHAT IT READS IS OF BULK AT MOST 1048576: true; the input reads as it did. -/
def fnExactCleanStepsUptoRow : OpenClaim := { program := "ytdcbgahfbcemnaa", sum := "9b9d0ad8f503703e8c15d525365f8c9c14a63e673a160f2597c2d3da3eeb1320", func := "loop.example/g01031/laws.FnExactCleanSteps", spec := "fnExactCleanSteps", apart := false, narrowed := true }
def FnExactCleanStepsUptoSaid : Prop := fnExactCleanStepsUptoRow.holds Try.pinned (OpenSpec.upto fnExactCleanStepsSpec)

/-- 'laws.FnExactShiftsAfter', WHERE WHAT IT READS IS OF BULK AT MOST 1048576: true; the input reads as it did. -/
def fnExactShiftsAfterUptoRow : OpenClaim := { program := "ytdcbgahfbcemnaa", sum := "9b9d0ad8f503703e8c15d525365f8c9c14a63e673a160f2597c2d3da3eeb1320", func := "loop.example/g01031/laws.FnExactShiftsAfter", spec := "fnExactShiftsAfter", apart := false, narrowed := true }
def FnExactShiftsAfterUptoSaid : Prop := fnExactShiftsAfterUptoRow.holds Try.pinned (OpenSpec.upto fnExactShiftsAfterSpec)

/-- 'laws.FnExactReasonsFor', WHERE WHAT IT READS IS OF BULK AT MOST 1048576: true; the input reads as it did. -/
def fnExactReasonsForUptoRow : OpenClaim := { program := "ytdcbgahfbcemnaa", sum := "9b9d0ad8f503703e8c15d525365f8c9c14a63e673a160f2597c2d3da3eeb1320", func := "loop.example/g01031/laws.FnExactReasonsFor", spec := "fnExactReasonsFor", apart := false, narrowed := true }
def FnExactReasonsForUptoSaid : Prop := fnExactReasonsForUptoRow.holds Try.pinned (OpenSpec.upto fnExactReasonsForSpec)

/-- 'laws.FnExactAcceptedAfter', WHERE WHAT IT READS IS OF BULK AT MOST 1048576: true; the input reads as it did. -/
def fnExactAcceptedAfterUptoRow : OpenClaim := { program := "ytdcbgahfbcemnaa", sum := "9b9d0ad8f503703e8c15d525365f8c9c14a63e673a160f2597c2d3da3eeb1320", func := "loop.example/g01031/laws.FnExactAcceptedAfter", spec := "fnExactAcceptedAfter", apart := false, narrowed := true }
def FnExactAcceptedAfterUptoSaid : Prop := fnExactAcceptedAfterUptoRow.holds Try.pinned (OpenSpec.upto fnExactAcceptedAfterSpec)

/-- 'laws.FnExactNeverTouched', WHERE WHAT IT READS IS OF BULK AT MOST 1048576: true; the input reads as it did. -/
def fnExactNeverTouchedUptoRow : OpenClaim := { program := "ytdcbgahfbcemnaa", sum := "9b9d0ad8f503703e8c15d525365f8c9c14a63e673a160f2597c2d3da3eeb1320", func := "loop.example/g01031/laws.FnExactNeverTouched", spec := "fnExactNeverTouched", unfollowed := true, recurses := true, apart := false, narrowed := true }
def FnExactNeverTouchedUptoSaid : Prop := fnExactNeverTouchedUptoRow.holds Try.pinned (OpenSpec.upto fnExactNeverTouchedSpec)

end Rows
end Go.Proofs.Ytdcbgahfbcemnaa
