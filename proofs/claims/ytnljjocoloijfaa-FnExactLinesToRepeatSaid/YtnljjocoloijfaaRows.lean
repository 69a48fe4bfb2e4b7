/-
  No cell of these rows narrows 'for every input' (looked for: loops, veiled, ifaces, maps, wideKeys, modest, calm, conditions, laid).
  DERIVED. THE GIVEN ROWS OF THIS SEAT. 6 by the template 'for every input the law returns true; each argument reads behind the call as it read before'; 0 by the template 'total and deterministic' (their statements: YtnljjocoloijfaaTotals.lean).
  GIVEN WITH THE SEED: the statements are not yours to turn. If you find one false, say at which input.
  Laid BY PROGRAM, IN A SANDBOX (cutbox-rows.mjs): the forced cells as the released guide's own fill.sh prints them over the translation eeae651bede57489… (all of the seat's roots in one cut). By AI agents, Wed Nov 11 2026. No macro, syntax, notation, axiom, sorry.
-/
import Derived.Test.YtnljjocoloijfaaChecked
import GoSem.Claim
import GoSem.ClaimJoined
import GoSem.ClaimMapViews
import Derived.JoinedTies
import Derived.KernelRfl
namespace Go.Proofs.Ytnljjocoloijfaa
/- THE CELL 'sum', in the pinned program and in every row, IS THE sha256 OF THE DUMP (.gsa) THAT YtnljjocoloijfaaProg.lean LOADS. Nothing in Lean hashes anything: it is a label: what it is worth is what the hold of that sum in a sandbox is worth. -/
noncomputable def Try.pinned : Pinned := { name := "ytnljjocoloijfaa", sum := "eeae651bede574898d863b1211bbec558fc285d8a67f783d416affe128283a01", checked := Try.checked }
namespace Rows
def none {H : Type} : Left H := { results := [], args := [] }

/-- 'laws.FnExactArePasses': WHATEVER THE INPUT: true; the input reads as it did. -/
def fnExactArePassesSpec : ChangeSpec := { name := "fnExactArePasses", fn := fun _ => fun
  | [d] => { results := [.lit (.bool true)], args := [d] }
  | _ => none }
def fnExactArePassesRow : OpenClaim := { program := "ytnljjocoloijfaa", sum := "eeae651bede574898d863b1211bbec558fc285d8a67f783d416affe128283a01", func := "loop.example/g01031/laws.FnExactArePasses", spec := "fnExactArePasses", apart := false }
def FnExactArePassesSaid : Prop := fnExactArePassesRow.holds Try.pinned (OpenSpec.ofChange fnExactArePassesSpec)

/-- ITS FALSE NEIGHBOUR: 'it returns false'. Refute it at one input. -/
def fnExactArePassesWrong : ChangeSpec := { name := "fnExactArePasses", fn := fun _ => fun
  | [d] => { results := [.lit (.bool false)], args := [d] }
  | _ => none }
def FnExactArePassesWrongFalsely : Prop := fnExactArePassesRow.holds Try.pinned (OpenSpec.ofChange fnExactArePassesWrong)

/-- 'laws.FnExactLongestBreak': WHATEVER THE INPUT: true; the input reads as it did. -/
def fnExactLongestBreakSpec : ChangeSpec := { name := "fnExactLongestBreak", fn := fun _ => fun
  | [d] => { results := [.lit (.bool true)], args := [d] }
  | _ => none }
def fnExactLongestBreakRow : OpenClaim := { program := "ytnljjocoloijfaa", sum := "eeae651bede574898d863b1211bbec558fc285d8a67f783d416affe128283a01", func := "loop.example/g01031/laws.FnExactLongestBreak", spec := "fnExactLongestBreak", apart := false }
def FnExactLongestBreakSaid : Prop := fnExactLongestBreakRow.holds Try.pinned (OpenSpec.ofChange fnExactLongestBreakSpec)

/-- ITS FALSE NEIGHBOUR: 'it returns false'. Refute it at one input. -/
def fnExactLongestBreakWrong : ChangeSpec := { name := "fnExactLongestBreak", fn := fun _ => fun
  | [d] => { results := [.lit (.bool false)], args := [d] }
  | _ => none }
def FnExactLongestBreakWrongFalsely : Prop := fnExactLongestBreakRow.holds Try.pinned (OpenSpec.ofChange fnExactLongestBreakWrong)

/-- 'laws.FnExactMinutesOn': WHATEVER THE INPUT: true; the input reads as it did. -/
def fnExactMinutesOnSpec : ChangeSpec := { name := "fnExactMinutesOn", fn := fun _ => fun
  | [d1, d2] => { results := [.lit (.bool true)], args := [d1, d2] }
  | _ => none }
def fnExactMinutesOnRow : OpenClaim := { program := "ytnljjocoloijfaa", sum := "eeae651bede574898d863b1211bbec558fc285d8a67f783d416affe128283a01", func := "loop.example/g01031/laws.FnExactMinutesOn", spec := "fnExactMinutesOn", apart := false }
def FnExactMinutesOnSaid : Prop := fnExactMinutesOnRow.holds Try.pinned (OpenSpec.ofChange fnExactMinutesOnSpec)

/-- ITS FALSE NEIGHBOUR: 'it returns false'. Refute it at one input. -/
def fnExactMinutesOnWrong : ChangeSpec := { name := "fnExactMinutesOn", fn := fun _ => fun
  | [d1, d2] => { results := [.lit (.bool false)], args := [d1, d2] }
  | _ => none }
def FnExactMinutesOnWrongFalsely : Prop := fnExactMinutesOnRow.holds Try.pinned (OpenSpec.ofChange fnExactMinutesOnWrong)

/-- 'laws.FnExactBusyShare': WHATEVER THE INPUT: true; the input reads as it did. -/
def fnExactBusyShareSpec : ChangeSpec := { name := "fnExactBusyShare", fn := fun _ => fun
  | [d1, d2, d3] => { results := [.lit (.bool true)], args := [d1, d2, d3] }
  | _ => none }
def fnExactBusyShareRow : OpenClaim := { program := "ytnljjocoloijfaa", sum := "eeae651bede574898d863b1211bbec558fc285d8a67f783d416affe128283a01", func := "loop.example/g01031/laws.FnExactBusyShare", spec := "fnExactBusyShare", apart := false }
def FnExactBusyShareSaid : Prop := fnExactBusyShareRow.holds Try.pinned (OpenSpec.ofChange fnExactBusyShareSpec)

/-- ITS FALSE NEIGHBOUR: 'it returns false'. Refute it at one input. -/
def fnExactBusyShareWrong : ChangeSpec := { name := "fnExactBusyShare", fn := fun _ => fun
  | [d1, d2, d3] => { results := [.lit (.bool false)], args := [d1, d2, d3] }
  | _ => none }
def FnExactBusyShareWrongFalsely : Prop := fnExactBusyShareRow.holds Try.pinned (OpenSpec.ofChange fnExactBusyShareWrong)

/-- 'laws.FnExactGoodShare': WHATEVER THE INPUT: true; the input reads as it did. -/
def fnExactGoodShareSpec : ChangeSpec := { name := "fnExactGoodShare", fn := fun _ => fun
  | [d1, d2] => { results := [.lit (.bool true)], args := [d1, d2] }
  | _ => none }
def fnExactGoodShareRow : OpenClaim := { program := "ytnljjocoloijfaa", sum := "eeae651bede574898d863b1211bbec558fc285d8a67f783d416affe128283a01", func := "loop.example/g01031/laws.FnExactGoodShare", spec := "fnExactGoodShare", apart := false }
def FnExactGoodShareSaid : Prop := fnExactGoodShareRow.holds Try.pinned (OpenSpec.ofChange fnExactGoodShareSpec)

/-- ITS FALSE NEIGHBOUR: 'it returns false'. Refute it at one input. -/
def fnExactGoodShareWrong : ChangeSpec := { name := "fnExactGoodShare", fn := fun _ => fun
  | [d1, d2] => { results := [.lit (.bool false)], args := [d1, d2] }
  | _ => none }
def FnExactGoodShareWrongFalsely : Prop := fnExactGoodShareRow.holds Try.pinned (OpenSpec.ofChange fnExactGoodShareWrong)

/-- 'laws.FnExactLinesToRepeat': WHATEVER THE INPUT: true; the input reads as it did. -/
def fnExactLinesToRepeatSpec : ChangeSpec := { name := "fnExactLinesToRepeat", fn := fun _ => fun
  | [d1, d2] => { results := [.lit (.bool true)], args := [d1, d2] }
  | _ => none }
def fnExactLinesToRepeatRow : OpenClaim := { program := "ytnljjocoloijfaa", sum := "eeae651bede574898d863b1211bbec558fc285d8a67f783d416affe128283a01", func := "loop.example/g01031/laws.FnExactLinesToRepeat", spec := "fnExactLinesToRepeat", apart := false }
def FnExactLinesToRepeatSaid : Prop := fnExactLinesToRepeatRow.holds Try.pinned (OpenSpec.ofChange fnExactLinesToRepeatSpec)

/-- ITS FALSE NEIGHBOUR: 'it returns false'. Refute it at one input. -/
def fnExactLinesToRepeatWrong : ChangeSpec := { name := "fnExactLinesToRepeat", fn := fun _ => fun
  | [d1, d2] => { results := [.lit (.bool false)], args := [d1, d2] }
  | _ => none }
def FnExactLinesToRepeatWrongFalsely : Prop := fnExactLinesToRepeatRow.holds Try.pinned (OpenSpec.ofChange fnExactLinesToRepeatWrong)

/- THE SECOND FORM. 'bulk': how many values and letters a reading holds, each counted each time it is reached (what is shared counts as often as it is met; a slice's spare places count too). A statement '..UptoSaid' is the law's where the arguments, and the package variables that the reading takes, are together of bulk at most 1048576: NARROWER than '..Said'. Prove '..Said' where nothing that the law and all that it calls make is longer than what came in: it says more and counts as full. Else prove '..UptoSaid'. A law counts once. -/
mutual
def uptoBulk {H : Type} : DataW H → Nat
  | .lit (.string bytes) => bytes.length + 1
  | .lit _ => 1
  | .nil => 1
  | .ptr d => uptoBulk d + 1
  | .slice elems spare => uptoBulkAll elems + uptoBulkAll spare + 1
  | .agg parts => uptoBulkAll parts + 1
  | .iface _ d => uptoBulk d + 1
  | .map entries => uptoBulkEntries entries + 1
  | .held _ => 1
def uptoBulkAll {H : Type} : List (DataW H) → Nat
  | [] => 0
  | d :: r => uptoBulk d + uptoBulkAll r
def uptoBulkEntries {H : Type} : List (Lit × DataW H) → Nat
  | [] => 0
  | x :: r => uptoBulkEntry x + uptoBulkEntries r
def uptoBulkEntry {H : Type} : Lit × DataW H → Nat
  | (.string bytes, d) => bytes.length + uptoBulk d + 1
  | (_, d) => uptoBulk d + 1
 end
def uptoSmall : (H : Type) → List (DataW H) → Bool := fun _ ds => decide (uptoBulkAll ds ≤ 1048576)
def OpenSpec.upto (s : _root_.Go.ChangeSpec) : _root_.Go.OpenSpec := { _root_.Go.OpenSpec.ofChange s with cond := some uptoSmall }

/-- 'laws.FnExactArePasses', WHERE WHAT IT READS IS OF BULK AT MOST 1048576: true; the input reads as it did. -/
def fnExactArePassesUptoRow : OpenClaim := { program := "ytnljjocoloijfaa", sum := "eeae651bede574898d863b1211bbec558fc285d8a67f783d416affe128283a01", func := "loop.example/g01031/laws.FnExactArePasses", spec := "fnExactArePasses", apart := false, narrowed := true }
def FnExactArePassesUptoSaid : Prop := fnExactArePassesUptoRow.holds Try.pinned (OpenSpec.upto fnExactArePassesSpec)

/-- 'laws.FnExactLongestBreak', WHERE WHAT IT READS IS OF BULK AT MOST 1048576: true; the input reads as it did. -/
def fnExactLongestBreakUptoRow : OpenClaim := { program := "ytnljjocoloijfaa", sum := "eeae651bede574898d863b1211bbec558fc285d8a67f783d416affe128283a01", func := "loop.example/g01031/laws.FnExactLongestBreak", spec := "fnExactLongestBreak", apart := false, narrowed := true }
def FnExactLongestBreakUptoSaid : Prop := fnExactLongestBreakUptoRow.holds Try.pinned (OpenSpec.upto fnExactLongestBreakSpec)

/-- 'laws.FnExactMinutesOn', WHERE WHAT IT READS IS OF BULK AT MOST 1048576: true; the input reads as it did. -/
def fnExactMinutesOnUptoRow : OpenClaim := { program := "ytnljjocoloijfaa", sum := "eeae651bede574898d863b1211bbec558fc285d8a67f783d416affe128283a01", func := "loop.example/g01031/laws.FnExactMinutesOn", spec := "fnExactMinutesOn", apart := false, narrowed := true }
def FnExactMinutesOnUptoSaid : Prop := fnExactMinutesOnUptoRow.holds Try.pinned (OpenSpec.upto fnExactMinutesOnSpec)

/-- 'laws.FnExactBusyShare', WHERE WHAT IT READS IS OF BULK AT MOST 1048576: true; the input reads as it did. -/
def fnExactBusyShareUptoRow : OpenClaim := { program := "ytnljjocoloijfaa", sum := "eeae651bede574898d863b1211bbec558fc285d8a67f783d416affe128283a01", func := "loop.example/g01031/laws.FnExactBusyShare", spec := "fnExactBusyShare", apart := false, narrowed := true }
def FnExactBusyShareUptoSaid : Prop := fnExactBusyShareUptoRow.holds Try.pinned (OpenSpec.upto fnExactBusyShareSpec)

/-- 'laws.FnExactGoodShare', WHERE WHAT IT READS IS OF BULK AT MOST 1048576: true; the input reads as it did. -/
def fnExactGoodShareUptoRow : OpenClaim := { program := "ytnljjocoloijfaa", sum := "eeae651bede574898d863b1211bbec558fc285d8a67f783d416affe128283a01", func := "loop.example/g01031/laws.FnExactGoodShare", spec := "fnExactGoodShare", apart := false, narrowed := true }
def FnExactGoodShareUptoSaid : Prop := fnExactGoodShareUptoRow.holds Try.pinned (OpenSpec.upto fnExactGoodShareSpec)

/-- 'laws.FnExactLinesToRepeat', WHERE WHAT IT READS IS OF BULK AT MOST 1048576: true; the input reads as it did. -/
def fnExactLinesToRepeatUptoRow : OpenClaim := { program := "ytnljjocoloijfaa", sum := "eeae651bede574898d863b1211bbec558fc285d8a67f783d416affe128283a01", func := "loop.example/g01031/laws.FnExactLinesToRepeat", spec := "fnExactLinesToRepeat", apart := false, narrowed := true }
def FnExactLinesToRepeatUptoSaid : Prop := fnExactLinesToRepeatUptoRow.holds Try.pinned (OpenSpec.upto fnExactLinesToRepeatSpec)

end Rows
end Go.Proofs.Ytnljjocoloijfaa
