/-
  No cell of these rows narrows 'for every input' (looked for: loops, veiled, ifaces, maps, wideKeys, modest, calm, conditions, laid).
  DERIVED. THE GIVEN ROWS OF THIS SEAT. 5 by the template 'for every input the law returns true; each argument reads behind the call as it read before'; 0 by the template 'total and deterministic' (their statements: YtaehfcdcdjlanaaTotals.lean).
  GIVEN WITH THE SEED: the statements are not yours to turn. If you find one false, say at which input.
  Laid BY PROGRAM, IN A SANDBOX (cutbox-rows.mjs): the forced cells as the released guide's own fill.sh prints them over the translation a754eb1533af53df… (all of the seat's roots in one cut). By AI agents, Wed Nov 11 2026. No macro, syntax, notation, axiom, sorry.
-/
import Derived.Test.YtaehfcdcdjlanaaChecked
import GoSem.Claim
import GoSem.ClaimJoined
import GoSem.ClaimMapViews
import Derived.JoinedTies
import Derived.KernelRfl
namespace Go.Proofs.Ytaehfcdcdjlanaa
/- THE CELL 'sum', in the pinned program and in every row, IS THE sha256 OF THE DUMP (.gsa) THAT YtaehfcdcdjlanaaProg.lean LOADS. Nothing in Lean hashes anything: it is a label: what it is worth is what the hold of that sum in a sandbox is worth. -/
noncomputable def Try.pinned : Pinned := { name := "ytaehfcdcdjlanaa", sum := "a754eb1533af53dfdc062d1f562a041cd8ed81bfffb07ed2e337f634e2c834f0", checked := Try.checked }
namespace Rows
def none {H : Type} : Left H := { results := [], args := [] }

/-- 'laws.FnPasses': WHATEVER THE INPUT: true; the input reads as it did. -/
def fnPassesSpec : ChangeSpec := { name := "fnPasses", fn := fun _ => fun
  | [d] => { results := [.lit (.bool true)], args := [d] }
  | _ => none }
def fnPassesRow : OpenClaim := { program := "ytaehfcdcdjlanaa", sum := "a754eb1533af53dfdc062d1f562a041cd8ed81bfffb07ed2e337f634e2c834f0", func := "loop.example/g01031/laws.FnPasses", spec := "fnPasses", recurses := true, apart := false }
def FnPassesSaid : Prop := fnPassesRow.holds Try.pinned (OpenSpec.ofChange fnPassesSpec)

/-- ITS FALSE NEIGHBOUR: 'it returns false'. Refute it at one input. -/
def fnPassesWrong : ChangeSpec := { name := "fnPasses", fn := fun _ => fun
  | [d] => { results := [.lit (.bool false)], args := [d] }
  | _ => none }
def FnPassesWrongFalsely : Prop := fnPassesRow.holds Try.pinned (OpenSpec.ofChange fnPassesWrong)

/-- 'laws.FnExactOppositeOn': WHATEVER THE INPUT: true; the input reads as it did. -/
def fnExactOppositeOnSpec : ChangeSpec := { name := "fnExactOppositeOn", fn := fun _ => fun
  | [d1, d2] => { results := [.lit (.bool true)], args := [d1, d2] }
  | _ => none }
def fnExactOppositeOnRow : OpenClaim := { program := "ytaehfcdcdjlanaa", sum := "a754eb1533af53dfdc062d1f562a041cd8ed81bfffb07ed2e337f634e2c834f0", func := "loop.example/g01031/laws.FnExactOppositeOn", spec := "fnExactOppositeOn", apart := false }
def FnExactOppositeOnSaid : Prop := fnExactOppositeOnRow.holds Try.pinned (OpenSpec.ofChange fnExactOppositeOnSpec)

/-- ITS FALSE NEIGHBOUR: 'it returns false'. Refute it at one input. -/
def fnExactOppositeOnWrong : ChangeSpec := { name := "fnExactOppositeOn", fn := fun _ => fun
  | [d1, d2] => { results := [.lit (.bool false)], args := [d1, d2] }
  | _ => none }
def FnExactOppositeOnWrongFalsely : Prop := fnExactOppositeOnRow.holds Try.pinned (OpenSpec.ofChange fnExactOppositeOnWrong)

/-- 'laws.FnExactPutPass': WHATEVER THE INPUT: true; the input reads as it did. -/
def fnExactPutPassSpec : ChangeSpec := { name := "fnExactPutPass", fn := fun _ => fun
  | [d1, d2] => { results := [.lit (.bool true)], args := [d1, d2] }
  | _ => none }
def fnExactPutPassRow : OpenClaim := { program := "ytaehfcdcdjlanaa", sum := "a754eb1533af53dfdc062d1f562a041cd8ed81bfffb07ed2e337f634e2c834f0", func := "loop.example/g01031/laws.FnExactPutPass", spec := "fnExactPutPass", inPlace := ["slices.overlaps[loop.example/g01031/impl.Pass]"], apart := false }
def FnExactPutPassSaid : Prop := fnExactPutPassRow.holds Try.pinned (OpenSpec.ofChange fnExactPutPassSpec)

/-- ITS FALSE NEIGHBOUR: 'it returns false'. Refute it at one input. -/
def fnExactPutPassWrong : ChangeSpec := { name := "fnExactPutPass", fn := fun _ => fun
  | [d1, d2] => { results := [.lit (.bool false)], args := [d1, d2] }
  | _ => none }
def FnExactPutPassWrongFalsely : Prop := fnExactPutPassRow.holds Try.pinned (OpenSpec.ofChange fnExactPutPassWrong)

/-- 'laws.FnPassPairs': WHATEVER THE INPUT: true; the input reads as it did. -/
def fnPassPairsSpec : ChangeSpec := { name := "fnPassPairs", fn := fun _ => fun
  | [d] => { results := [.lit (.bool true)], args := [d] }
  | _ => none }
def fnPassPairsRow : OpenClaim := { program := "ytaehfcdcdjlanaa", sum := "a754eb1533af53dfdc062d1f562a041cd8ed81bfffb07ed2e337f634e2c834f0", func := "loop.example/g01031/laws.FnPassPairs", spec := "fnPassPairs", inPlace := ["slices.overlaps[loop.example/g01031/impl.Pass]"], apart := false }
def FnPassPairsSaid : Prop := fnPassPairsRow.holds Try.pinned (OpenSpec.ofChange fnPassPairsSpec)

/-- ITS FALSE NEIGHBOUR: 'it returns false'. Refute it at one input. -/
def fnPassPairsWrong : ChangeSpec := { name := "fnPassPairs", fn := fun _ => fun
  | [d] => { results := [.lit (.bool false)], args := [d] }
  | _ => none }
def FnPassPairsWrongFalsely : Prop := fnPassPairsRow.holds Try.pinned (OpenSpec.ofChange fnPassPairsWrong)

/-- 'laws.FnExactSailedLines': WHATEVER THE INPUT: true; the input reads as it did. -/
def fnExactSailedLinesSpec : ChangeSpec := { name := "fnExactSailedLines", fn := fun _ => fun
  | [d] => { results := [.lit (.bool true)], args := [d] }
  | _ => none }
def fnExactSailedLinesRow : OpenClaim := { program := "ytaehfcdcdjlanaa", sum := "a754eb1533af53dfdc062d1f562a041cd8ed81bfffb07ed2e337f634e2c834f0", func := "loop.example/g01031/laws.FnExactSailedLines", spec := "fnExactSailedLines", recurses := true, apart := false }
def FnExactSailedLinesSaid : Prop := fnExactSailedLinesRow.holds Try.pinned (OpenSpec.ofChange fnExactSailedLinesSpec)

/-- ITS FALSE NEIGHBOUR: 'it returns false'. Refute it at one input. -/
def fnExactSailedLinesWrong : ChangeSpec := { name := "fnExactSailedLines", fn := fun _ => fun
  | [d] => { results := [.lit (.bool false)], args := [d] }
  | _ => none }
def FnExactSailedLinesWrongFalsely : Prop := fnExactSailedLinesRow.holds Try.pinned (OpenSpec.ofChange fnExactSailedLinesWrong)

/- THE SECOND FORM. 'bulk': how many values and letters a reading holds, each counted each time it is reached (what is shared counts as often as it is met; a slice's spare places count too). A statement '..UptoSaid' is the law's where the arguments, and the package variables that the reading takes, are together of bulk at most 1048576: NARROWER than '..Said'. Prove '..Said' where nothing that the law and all that it calls make is longer than what came in: it says more and counts as full. Else prove '..UptoSaid'. A law counts once. -/
mutual
def uptoBulk {H : Type} : DataW H → Nat
  | .lit (.string bytes) => bytes.length + 1
  | .lit _ => 1
  | .nil => 1
  | .ptr d => uptoBulk d + 1
  | .slice elems spare => uptoBulkAll elems + uptoBulkAll spare + 1
  | .agg parts => uptoBulkAll parts + 1
  | .iface _ d => uptoBulk d + 1
  | .map entries => uptoBulkEntries entries + 1
  | .held _ => 1
def uptoBulkAll {H : Type} : List (DataW H) → Nat
  | [] => 0
  | d :: r => uptoBulk d + uptoBulkAll r
def uptoBulkEntries {H : Type} : List (Lit × DataW H) → Nat
  | [] => 0
  | x :: r => uptoBulkEntry x + uptoBulkEntries r
def uptoBulkEntry {H : Type} : Lit × DataW H → Nat
  | (.string bytes, d) => bytes.length + uptoBulk d + 1
  | (_, d) => uptoBulk d + 1
 end
def uptoSmall : (H : Type) → List (DataW H) → Bool := fun _ ds => decide (uptoBulkAll ds ≤ 1048576)
def OpenSpec.upto (s : _root_.Go.ChangeSpec) : _root_.Go.OpenSpec := { _root_.Go.OpenSpec.ofChange s with cond := some uptoSmall }

/-- 'laws.FnPasses', WHERE WHAT IT READS IS OF BULK AT MOST 1048576: true; the input reads as it did. -/
def fnPassesUptoRow : OpenClaim := { program := "ytaehfcdcdjlanaa", sum := "a754eb1533af53dfdc062d1f562a041cd8ed81bfffb07ed2e337f634e2c834f0", func := "loop.example/g01031/laws.FnPasses", spec := "fnPasses", recurses := true, apart := false, narrowed := true }
def FnPassesUptoSaid : Prop := fnPassesUptoRow.holds Try.pinned (OpenSpec.upto fnPassesSpec)

/-- 'laws.FnExactOppositeOn', WHERE WHAT IT READS IS OF BULK AT MOST 1048576: true; the input reads as it did. -/
def fnExactOppositeOnUptoRow : OpenClaim := { program := "ytaehfcdcdjlanaa", sum := "a754eb1533af53dfdc062d1f562a041cd8ed81bfffb07ed2e337f634e2c834f0", func := "loop.example/g01031/laws.FnExactOppositeOn", spec := "fnExactOppositeOn", apart := false, narrowed := true }
def FnExactOppositeOnUptoSaid : Prop := fnExactOppositeOnUptoRow.holds Try.pinned (OpenSpec.upto fnExactOppositeOnSpec)

/-- 'laws.FnExactPutPass', WHERE WHAT IT READS IS OF BULK AT MOST 1048576: true; the input reads as it did. -/
def fnExactPutPassUptoRow : OpenClaim := { program := "ytaehfcdcdjlanaa", sum := "a754eb1533af53dfdc062d1f562a041cd8ed81bfffb07ed2e337f634e2c834f0", func := "loop.example/g01031/laws.FnExactPutPass", spec := "fnExactPutPass", inPlace := ["slices.overlaps[loop.example/g01031/impl.Pass]"], apart := false, narrowed := true }
def FnExactPutPassUptoSaid : Prop := fnExactPutPassUptoRow.holds Try.pinned (OpenSpec.upto fnExactPutPassSpec)

/-- 'laws.FnPassPairs', WHERE WHAT IT READS IS OF BULK AT MOST 1048576: true; the input reads as it did. -/
def fnPassPairsUptoRow : OpenClaim := { program := "ytaehfcdcdjlanaa", sum := "a754eb1533af53dfdc062d1f562a041cd8ed81bfffb07ed2e337f634e2c834f0", func := "loop.example/g01031/laws.FnPassPairs", spec := "fnPassPairs", inPlace := ["slices.overlaps[loop.example/g01031/impl.Pass]"], apart := false, narrowed := true }
def FnPassPairsUptoSaid : Prop := fnPassPairsUptoRow.holds Try.pinned (OpenSpec.upto fnPassPairsSpec)

/-- 'laws.FnExactSailedLines', WHERE WHAT IT READS IS OF BULK AT MOST 1048576: true; the input reads as it did. -/
def fnExactSailedLinesUptoRow : OpenClaim := { program := "ytaehfcdcdjlanaa", sum := "a754eb1533af53dfdc062d1f562a041cd8ed81bfffb07ed2e337f634e2c834f0", func := "loop.example/g01031/laws.FnExactSailedLines", spec := "fnExactSailedLines", recurses := true, apart := false, narrowed := true }
def FnExactSailedLinesUptoSaid : Prop := fnExactSailedLinesUptoRow.holds Try.pinned (OpenSpec.upto fnExactSailedLinesSpec)

end Rows
end Go.Proofs.Ytaehfcdcdjlanaa
