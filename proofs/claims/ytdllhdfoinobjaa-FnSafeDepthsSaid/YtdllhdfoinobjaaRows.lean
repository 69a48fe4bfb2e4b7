/-
  No cell of these rows narrows 'for every input' (looked for: loops, veiled, ifaces, maps, wideKeys, modest, calm, conditions, laid).
  DERIVED. THE GIVEN ROWS OF THIS SEAT. 5 by the template 'for every input the law returns true; each argument reads behind the call as it read before'; 0 by the template 'total and deterministic' (their statements: YtdllhdfoinobjaaTotals.lean).
  GIVEN WITH THE SEED: the statements are not yours to turn. If you find one false, say at which input.
  Laid BY PROGRAM, IN A SANDBOX (cutbox-rows.mjs): the forced cells as the released guide's own fill.sh prints them over the translation b13890ede49dd819… (all of the seat's roots in one cut). By AI agents, Wed Nov 11 2026. No macro, syntax, notation, axiom, sorry.
-/
import Derived.Test.YtdllhdfoinobjaaChecked
import GoSem.Claim
import GoSem.ClaimJoined
import GoSem.ClaimMapViews
import Derived.JoinedTies
import Derived.KernelRfl
namespace Go.Proofs.Ytdllhdfoinobjaa
/- THE CELL 'sum', in the pinned program and in every row, IS THE sha256 OF THE DUMP (.gsa) THAT YtdllhdfoinobjaaProg.lean LOADS. Nothing in Lean hashes anything: it is a label: what it is worth is what the hold of that sum in a sandbox is worth. -/
noncomputable def Try.pinned : Pinned := { name := "ytdllhdfoinobjaa", sum := "b13890ede49dd8191995c9c744df0ac1a6cf27ed6b395f0d4c013d54e57e975a", checked := Try.checked }
namespace Rows
def none {H : Type} : Left H := { results := [], args := [] }

/-- 'laws.FnHypotheses': WHATEVER THE INPUT: true; the input reads as it did. -/
def fnHypothesesSpec : ChangeSpec := { name := "fnHypotheses", fn := fun _ => fun
  | [d] => { results := [.lit (.bool true)], args := [d] }
  | _ => none }
def fnHypothesesRow : OpenClaim := { program := "ytdllhdfoinobjaa", sum := "b13890ede49dd8191995c9c744df0ac1a6cf27ed6b395f0d4c013d54e57e975a", func := "loop.example/g01031/laws.FnHypotheses", spec := "fnHypotheses", recurses := true, apart := false }
def FnHypothesesSaid : Prop := fnHypothesesRow.holds Try.pinned (OpenSpec.ofChange fnHypothesesSpec)

/-- ITS FALSE NEIGHBOUR: 'it returns false'. Refute it at one input. -/
def fnHypothesesWrong : ChangeSpec := { name := "fnHypotheses", fn := fun _ => fun
  | [d] => { results := [.lit (.bool false)], args := [d] }
  | _ => none }
def FnHypothesesWrongFalsely : Prop := fnHypothesesRow.holds Try.pinned (OpenSpec.ofChange fnHypothesesWrong)

/-- 'laws.FnExactSafeDepth': WHATEVER THE INPUT: true; the input reads as it did. -/
def fnExactSafeDepthSpec : ChangeSpec := { name := "fnExactSafeDepth", fn := fun _ => fun
  | [d1, d2, d3] => { results := [.lit (.bool true)], args := [d1, d2, d3] }
  | _ => none }
def fnExactSafeDepthRow : OpenClaim := { program := "ytdllhdfoinobjaa", sum := "b13890ede49dd8191995c9c744df0ac1a6cf27ed6b395f0d4c013d54e57e975a", func := "loop.example/g01031/laws.FnExactSafeDepth", spec := "fnExactSafeDepth", unfollowed := true, recurses := true, apart := false }
def FnExactSafeDepthSaid : Prop := fnExactSafeDepthRow.holds Try.pinned (OpenSpec.ofChange fnExactSafeDepthSpec)

/-- ITS FALSE NEIGHBOUR: 'it returns false'. Refute it at one input. -/
def fnExactSafeDepthWrong : ChangeSpec := { name := "fnExactSafeDepth", fn := fun _ => fun
  | [d1, d2, d3] => { results := [.lit (.bool false)], args := [d1, d2, d3] }
  | _ => none }
def FnExactSafeDepthWrongFalsely : Prop := fnExactSafeDepthRow.holds Try.pinned (OpenSpec.ofChange fnExactSafeDepthWrong)

/-- 'laws.FnExactSplitsAt': WHATEVER THE INPUT: true; the input reads as it did. -/
def fnExactSplitsAtSpec : ChangeSpec := { name := "fnExactSplitsAt", fn := fun _ => fun
  | [d1, d2] => { results := [.lit (.bool true)], args := [d1, d2] }
  | _ => none }
def fnExactSplitsAtRow : OpenClaim := { program := "ytdllhdfoinobjaa", sum := "b13890ede49dd8191995c9c744df0ac1a6cf27ed6b395f0d4c013d54e57e975a", func := "loop.example/g01031/laws.FnExactSplitsAt", spec := "fnExactSplitsAt", recurses := true, apart := false }
def FnExactSplitsAtSaid : Prop := fnExactSplitsAtRow.holds Try.pinned (OpenSpec.ofChange fnExactSplitsAtSpec)

/-- ITS FALSE NEIGHBOUR: 'it returns false'. Refute it at one input. -/
def fnExactSplitsAtWrong : ChangeSpec := { name := "fnExactSplitsAt", fn := fun _ => fun
  | [d1, d2] => { results := [.lit (.bool false)], args := [d1, d2] }
  | _ => none }
def FnExactSplitsAtWrongFalsely : Prop := fnExactSplitsAtRow.holds Try.pinned (OpenSpec.ofChange fnExactSplitsAtWrong)

/-- 'laws.FnExactWithoutWeak': WHATEVER THE INPUT: true; the input reads as it did. -/
def fnExactWithoutWeakSpec : ChangeSpec := { name := "fnExactWithoutWeak", fn := fun _ => fun
  | [d1, d2, d3] => { results := [.lit (.bool true)], args := [d1, d2, d3] }
  | _ => none }
def fnExactWithoutWeakRow : OpenClaim := { program := "ytdllhdfoinobjaa", sum := "b13890ede49dd8191995c9c744df0ac1a6cf27ed6b395f0d4c013d54e57e975a", func := "loop.example/g01031/laws.FnExactWithoutWeak", spec := "fnExactWithoutWeak", unfollowed := true, recurses := true, apart := false }
def FnExactWithoutWeakSaid : Prop := fnExactWithoutWeakRow.holds Try.pinned (OpenSpec.ofChange fnExactWithoutWeakSpec)

/-- ITS FALSE NEIGHBOUR: 'it returns false'. Refute it at one input. -/
def fnExactWithoutWeakWrong : ChangeSpec := { name := "fnExactWithoutWeak", fn := fun _ => fun
  | [d1, d2, d3] => { results := [.lit (.bool false)], args := [d1, d2, d3] }
  | _ => none }
def FnExactWithoutWeakWrongFalsely : Prop := fnExactWithoutWeakRow.holds Try.pinned (OpenSpec.ofChange fnExactWithoutWeakWrong)

/-- 'laws.FnSafeDepths': WHATEVER THE INPUT: true; the input reads as it did. -/
def fnSafeDepthsSpec : ChangeSpec := { name := "fnSafeDepths", fn := fun _ => fun
  | [d] => { results := [.lit (.bool true)], args := [d] }
  | _ => none }
def fnSafeDepthsRow : OpenClaim := { program := "ytdllhdfoinobjaa", sum := "b13890ede49dd8191995c9c744df0ac1a6cf27ed6b395f0d4c013d54e57e975a", func := "loop.example/g01031/laws.FnSafeDepths", spec := "fnSafeDepths", unfollowed := true, recurses := true, apart := false }
def FnSafeDepthsSaid : Prop := fnSafeDepthsRow.holds Try.pinned (OpenSpec.ofChange fnSafeDepthsSpec)

/-- ITS FALSE NEIGHBOUR: 'it returns false'. Refute it at one input. -/
def fnSafeDepthsWrong : ChangeSpec := { name := "fnSafeDepths", fn := fun _ => fun
  | [d] => { results := [.lit (.bool false)], args := [d] }
  | _ => none }
def FnSafeDepthsWrongFalsely : Prop := fnSafeDepthsRow.holds Try.pinned (OpenSpec.ofChange fnSafeDepthsWrong)

/- THE SECOND FORM. 'bulk': how many values and letters a reading holds, each counted each time it is reached (what is shared counts as often as it is met; a slice's spare places count too). A statement '..UptoSaid' is the law's where the arguments, and the package variables that the reading takes, are together of bulk at most 1048576: NARROWER than '..Said'. Prove '..Said' where nothing that the law and all that it calls make is longer than what came in: it says more and counts as full. Else prove '..UptoSaid'. A law counts once. -/
mutual
def uptoBulk {H : Type} : DataW H → Nat
  | .lit (.string bytes) => bytes.length + 1
  | .lit _ => 1
  | .nil => 1
  | .ptr d => uptoBulk d + 1
  | .slice elems spare => uptoBulkAll elems + uptoBulkAll spare + 1
  | .agg parts => uptoBulkAll parts + 1
  | .iface _ d => uptoBulk d + 1
  | .map entries => uptoBulkEntries entries + 1
  | .held _ => 1
def uptoBulkAll {H : Type} : List (DataW H) → Nat
  | [] => 0
  | d :: r => uptoBulk d + uptoBulkAll r
def uptoBulkEntries {H : Type} : List (Lit × DataW H) → Nat
  | [] => 0
  | x :: r => uptoBulkEntry x + uptoBulkEntries r
def uptoBulkEntry {H : Type} : Lit × DataW H → Nat
  | (.string bytes, d) => bytes.length + uptoBulk d + 1
  | (_, d) => uptoBulk d + 1
 end
def uptoSmall : (H : Type) → List (DataW H) → Bool := fun _ ds => decide (uptoBulkAll ds ≤ 1048576)
def OpenSpec.upto (s : _root_.Go.ChangeSpec) : _root_.Go.OpenSpec := { _root_.Go.OpenSpec.ofChange s with cond := some uptoSmall }

/-- 'laws.FnHypotheses', WHERE WHAT IT READS IS OF BULK AT MOST 1048576: true; the input reads as it did. -/
def fnHypothesesUptoRow : OpenClaim := { program := "ytdllhdfoinobjaa", sum := "b13890ede49dd8191995c9c744df0ac1a6cf27ed6b395f0d4c013d54e57e975a", func := "loop.example/g01031/laws.FnHypotheses", spec := "fnHypotheses", recurses := true, apart := false, narrowed := true }
def FnHypothesesUptoSaid : Prop := fnHypothesesUptoRow.holds Try.pinned (OpenSpec.upto fnHypothesesSpec)

/-- 'laws.FnExactSafeDepth', WHERE WHAT IT READS IS OF BULK AT MOST 1048576: true; the input reads as it did. -/
def fnExactSafeDepthUptoRow : OpenClaim := { program := "ytdllhdfoinobjaa", sum := "b13890ede49dd8191995c9c744df0ac1a6cf27ed6b395f0d4c013d54e57e975a", func := "loop.example/g01031/laws.FnExactSafeDepth", spec := "fnExactSafeDepth", unfollowed := true, recurses := true, apart := false, narrowed := true }
def FnExactSafeDepthUptoSaid : Prop := fnExactSafeDepthUptoRow.holds Try.pinned (OpenSpec.upto fnExactSafeDepthSpec)

/-- 'laws.FnExactSplitsAt', WHERE WHAT IT READS IS OF BULK AT MOST 1048576: true; the input reads as it did. -/
def fnExactSplitsAtUptoRow : OpenClaim := { program := "ytdllhdfoinobjaa", sum := "b13890ede49dd8191995c9c744df0ac1a6cf27ed6b395f0d4c013d54e57e975a", func := "loop.example/g01031/laws.FnExactSplitsAt", spec := "fnExactSplitsAt", recurses := true, apart := false, narrowed := true }
def FnExactSplitsAtUptoSaid : Prop := fnExactSplitsAtUptoRow.holds Try.pinned (OpenSpec.upto fnExactSplitsAtSpec)

/-- 'laws.FnExactWithoutWeak', WHERE WHAT IT READS IS OF BULK AT MOST 1048576: true; the input reads as it did. -/
def fnExactWithoutWeakUptoRow : OpenClaim := { program := "ytdllhdfoinobjaa", sum := "b13890ede49dd8191995c9c744df0ac1a6cf27ed6b395f0d4c013d54e57e975a", func := "loop.example/g01031/laws.FnExactWithoutWeak", spec := "fnExactWithoutWeak", unfollowed := true, recurses := true, apart := false, narrowed := true }
def FnExactWithoutWeakUptoSaid : Prop := fnExactWithoutWeakUptoRow.holds Try.pinned (OpenSpec.upto fnExactWithoutWeakSpec)

/-- 'laws.FnSafeDepths', WHERE WHAT IT READS IS OF BULK AT MOST 1048576: true; the input reads as it did. -/
def fnSafeDepthsUptoRow : OpenClaim := { program := "ytdllhdfoinobjaa", sum := "b13890ede49dd8191995c9c744df0ac1a6cf27ed6b395f0d4c013d54e57e975a", func := "loop.example/g01031/laws.FnSafeDepths", spec := "fnSafeDepths", unfollowed := true, recurses := true, apart := false, narrowed := true }
def FnSafeDepthsUptoSaid : Prop := fnSafeDepthsUptoRow.holds Try.pinned (OpenSpec.upto fnSafeDepthsSpec)

end Rows
end Go.Proofs.Ytdllhdfoinobjaa
