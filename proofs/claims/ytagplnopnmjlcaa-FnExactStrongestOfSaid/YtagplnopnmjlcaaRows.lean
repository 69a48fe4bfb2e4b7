/-
  No cell of these rows narrows 'for every input' (looked for: loops, veiled, ifaces, maps, wideKeys, modest, calm, conditions, laid).
  DERIVED. THE GIVEN ROWS OF THIS SEAT. 12 by the template 'for every input the law returns true; each argument reads behind the call as it read before'; 0 by the template 'total and deterministic' (their statements: YtagplnopnmjlcaaTotals.lean).
  GIVEN WITH THE SEED: the statements are not yours to turn. If you find one false, say at which input.
  Laid BY PROGRAM, IN A SANDBOX (cutbox-rows.mjs): the forced cells as the released guide's own fill.sh prints them over the translation 805a21e70239db96… (all of the seat's roots in one cut). By AI agents, Wed Nov 11 2026. No macro, syntax, notation, axiom, sorry.
-/
import Derived.Test.YtagplnopnmjlcaaChecked
import GoSem.Claim
import GoSem.ClaimJoined
import GoSem.ClaimMapViews
import Derived.JoinedTies
import Derived.KernelRfl
namespace Go.Proofs.Ytagplnopnmjlcaa
/- THE CELL 'sum', in the pinned program and in every row, IS THE sha256 OF THE DUMP (.gsa) THAT YtagplnopnmjlcaaProg.lean LOADS. Nothing in Lean hashes anything: it is a label: what it is worth is what the hold of that sum in a sandbox is worth. -/
noncomputable def Try.pinned : Pinned := { name := "ytagplnopnmjlcaa", sum := "805a21e70239db9697331b215aae1bc2c0c1a5a7ac377861e5b85b4eb550ea8a", checked := Try.checked }
namespace Rows
def none {H : Type} : Left H := { results := [], args := [] }

/-- 'laws.FnExactAreVotes': WHATEVER THE INPUT: true; the input reads as it did. -/
def fnExactAreVotesSpec : ChangeSpec := { name := "fnExactAreVotes", fn := fun _ => fun
  | [d] => { results := [.lit (.bool true)], args := [d] }
  | _ => none }
def fnExactAreVotesRow : OpenClaim := { program := "ytagplnopnmjlcaa", sum := "805a21e70239db9697331b215aae1bc2c0c1a5a7ac377861e5b85b4eb550ea8a", func := "loop.example/g01031/laws.FnExactAreVotes", spec := "fnExactAreVotes", apart := false }
def FnExactAreVotesSaid : Prop := fnExactAreVotesRow.holds Try.pinned (OpenSpec.ofChange fnExactAreVotesSpec)

/-- ITS FALSE NEIGHBOUR: 'it returns false'. Refute it at one input. -/
def fnExactAreVotesWrong : ChangeSpec := { name := "fnExactAreVotes", fn := fun _ => fun
  | [d] => { results := [.lit (.bool false)], args := [d] }
  | _ => none }
def FnExactAreVotesWrongFalsely : Prop := fnExactAreVotesRow.holds Try.pinned (OpenSpec.ofChange fnExactAreVotesWrong)

/-- 'laws.FnExactAddVote': WHATEVER THE INPUT: true; the input reads as it did. -/
def fnExactAddVoteSpec : ChangeSpec := { name := "fnExactAddVote", fn := fun _ => fun
  | [d1, d2] => { results := [.lit (.bool true)], args := [d1, d2] }
  | _ => none }
def fnExactAddVoteRow : OpenClaim := { program := "ytagplnopnmjlcaa", sum := "805a21e70239db9697331b215aae1bc2c0c1a5a7ac377861e5b85b4eb550ea8a", func := "loop.example/g01031/laws.FnExactAddVote", spec := "fnExactAddVote", apart := false }
def FnExactAddVoteSaid : Prop := fnExactAddVoteRow.holds Try.pinned (OpenSpec.ofChange fnExactAddVoteSpec)

/-- ITS FALSE NEIGHBOUR: 'it returns false'. Refute it at one input. -/
def fnExactAddVoteWrong : ChangeSpec := { name := "fnExactAddVote", fn := fun _ => fun
  | [d1, d2] => { results := [.lit (.bool false)], args := [d1, d2] }
  | _ => none }
def FnExactAddVoteWrongFalsely : Prop := fnExactAddVoteRow.holds Try.pinned (OpenSpec.ofChange fnExactAddVoteWrong)

/-- 'laws.FnHypotheses': WHATEVER THE INPUT: true; the input reads as it did. -/
def fnHypothesesSpec : ChangeSpec := { name := "fnHypotheses", fn := fun _ => fun
  | [d] => { results := [.lit (.bool true)], args := [d] }
  | _ => none }
def fnHypothesesRow : OpenClaim := { program := "ytagplnopnmjlcaa", sum := "805a21e70239db9697331b215aae1bc2c0c1a5a7ac377861e5b85b4eb550ea8a", func := "loop.example/g01031/laws.FnHypotheses", spec := "fnHypotheses", recurses := true, apart := false }
def FnHypothesesSaid : Prop := fnHypothesesRow.holds Try.pinned (OpenSpec.ofChange fnHypothesesSpec)

/-- ITS FALSE NEIGHBOUR: 'it returns false'. Refute it at one input. -/
def fnHypothesesWrong : ChangeSpec := { name := "fnHypotheses", fn := fun _ => fun
  | [d] => { results := [.lit (.bool false)], args := [d] }
  | _ => none }
def FnHypothesesWrongFalsely : Prop := fnHypothesesRow.holds Try.pinned (OpenSpec.ofChange fnHypothesesWrong)

/-- 'laws.FnExactMedianVote': WHATEVER THE INPUT: true; the input reads as it did. -/
def fnExactMedianVoteSpec : ChangeSpec := { name := "fnExactMedianVote", fn := fun _ => fun
  | [d] => { results := [.lit (.bool true)], args := [d] }
  | _ => none }
def fnExactMedianVoteRow : OpenClaim := { program := "ytagplnopnmjlcaa", sum := "805a21e70239db9697331b215aae1bc2c0c1a5a7ac377861e5b85b4eb550ea8a", func := "loop.example/g01031/laws.FnExactMedianVote", spec := "fnExactMedianVote", recurses := true, apart := false }
def FnExactMedianVoteSaid : Prop := fnExactMedianVoteRow.holds Try.pinned (OpenSpec.ofChange fnExactMedianVoteSpec)

/-- ITS FALSE NEIGHBOUR: 'it returns false'. Refute it at one input. -/
def fnExactMedianVoteWrong : ChangeSpec := { name := "fnExactMedianVote", fn := fun _ => fun
  | [d] => { results := [.lit (.bool false)], args := [d] }
  | _ => none }
def FnExactMedianVoteWrongFalsely : Prop := fnExactMedianVoteRow.holds Try.pinned (OpenSpec.ofChange fnExactMedianVoteWrong)

/-- 'laws.FnExactNarrowestSingle': WHATEVER THE INPUT: true; the input reads as it did. -/
def fnExactNarrowestSingleSpec : ChangeSpec := { name := "fnExactNarrowestSingle", fn := fun _ => fun
  | [d] => { results := [.lit (.bool true)], args := [d] }
  | _ => none }
def fnExactNarrowestSingleRow : OpenClaim := { program := "ytagplnopnmjlcaa", sum := "805a21e70239db9697331b215aae1bc2c0c1a5a7ac377861e5b85b4eb550ea8a", func := "loop.example/g01031/laws.FnExactNarrowestSingle", spec := "fnExactNarrowestSingle", recurses := true, apart := false }
def FnExactNarrowestSingleSaid : Prop := fnExactNarrowestSingleRow.holds Try.pinned (OpenSpec.ofChange fnExactNarrowestSingleSpec)

/-- ITS FALSE NEIGHBOUR: 'it returns false'. Refute it at one input. -/
def fnExactNarrowestSingleWrong : ChangeSpec := { name := "fnExactNarrowestSingle", fn := fun _ => fun
  | [d] => { results := [.lit (.bool false)], args := [d] }
  | _ => none }
def FnExactNarrowestSingleWrongFalsely : Prop := fnExactNarrowestSingleRow.holds Try.pinned (OpenSpec.ofChange fnExactNarrowestSingleWrong)

/-- 'laws.FnExactStrongestOf': WHATEVER THE INPUT: true; the input reads as it did. -/
def fnExactStrongestOfSpec : ChangeSpec := { name := "fnExactStrongestOf", fn := fun _ => fun
  | [d1, d2] => { results := [.lit (.bool true)], args := [d1, d2] }
  | _ => none }
def fnExactStrongestOfRow : OpenClaim := { program := "ytagplnopnmjlcaa", sum := "805a21e70239db9697331b215aae1bc2c0c1a5a7ac377861e5b85b4eb550ea8a", func := "loop.example/g01031/laws.FnExactStrongestOf", spec := "fnExactStrongestOf", recurses := true, apart := false }
def FnExactStrongestOfSaid : Prop := fnExactStrongestOfRow.holds Try.pinned (OpenSpec.ofChange fnExactStrongestOfSpec)

/-- ITS FALSE NEIGHBOUR: 'it returns false'. Refute it at one input. -/
def fnExactStrongestOfWrong : ChangeSpec := { name := "fnExactStrongestOf", fn := fun _ => fun
  | [d1, d2] => { results := [.lit (.bool false)], args := [d1, d2] }
  | _ => none }
def FnExactStrongestOfWrongFalsely : Prop := fnExactStrongestOfRow.holds Try.pinned (OpenSpec.ofChange fnExactStrongestOfWrong)

/-- 'laws.FnExactSafeDepth': WHATEVER THE INPUT: true; the input reads as it did. -/
def fnExactSafeDepthSpec : ChangeSpec := { name := "fnExactSafeDepth", fn := fun _ => fun
  | [d1, d2, d3] => { results := [.lit (.bool true)], args := [d1, d2, d3] }
  | _ => none }
def fnExactSafeDepthRow : OpenClaim := { program := "ytagplnopnmjlcaa", sum := "805a21e70239db9697331b215aae1bc2c0c1a5a7ac377861e5b85b4eb550ea8a", func := "loop.example/g01031/laws.FnExactSafeDepth", spec := "fnExactSafeDepth", unfollowed := true, recurses := true, apart := false }
def FnExactSafeDepthSaid : Prop := fnExactSafeDepthRow.holds Try.pinned (OpenSpec.ofChange fnExactSafeDepthSpec)

/-- ITS FALSE NEIGHBOUR: 'it returns false'. Refute it at one input. -/
def fnExactSafeDepthWrong : ChangeSpec := { name := "fnExactSafeDepth", fn := fun _ => fun
  | [d1, d2, d3] => { results := [.lit (.bool false)], args := [d1, d2, d3] }
  | _ => none }
def FnExactSafeDepthWrongFalsely : Prop := fnExactSafeDepthRow.holds Try.pinned (OpenSpec.ofChange fnExactSafeDepthWrong)

/-- 'laws.FnExactAmbiguityOf': WHATEVER THE INPUT: true; the input reads as it did. -/
def fnExactAmbiguityOfSpec : ChangeSpec := { name := "fnExactAmbiguityOf", fn := fun _ => fun
  | [d1, d2] => { results := [.lit (.bool true)], args := [d1, d2] }
  | _ => none }
def fnExactAmbiguityOfRow : OpenClaim := { program := "ytagplnopnmjlcaa", sum := "805a21e70239db9697331b215aae1bc2c0c1a5a7ac377861e5b85b4eb550ea8a", func := "loop.example/g01031/laws.FnExactAmbiguityOf", spec := "fnExactAmbiguityOf", recurses := true, apart := false }
def FnExactAmbiguityOfSaid : Prop := fnExactAmbiguityOfRow.holds Try.pinned (OpenSpec.ofChange fnExactAmbiguityOfSpec)

/-- ITS FALSE NEIGHBOUR: 'it returns false'. Refute it at one input. -/
def fnExactAmbiguityOfWrong : ChangeSpec := { name := "fnExactAmbiguityOf", fn := fun _ => fun
  | [d1, d2] => { results := [.lit (.bool false)], args := [d1, d2] }
  | _ => none }
def FnExactAmbiguityOfWrongFalsely : Prop := fnExactAmbiguityOfRow.holds Try.pinned (OpenSpec.ofChange fnExactAmbiguityOfWrong)

/-- 'laws.FnExactSplitsAt': WHATEVER THE INPUT: true; the input reads as it did. -/
def fnExactSplitsAtSpec : ChangeSpec := { name := "fnExactSplitsAt", fn := fun _ => fun
  | [d1, d2] => { results := [.lit (.bool true)], args := [d1, d2] }
  | _ => none }
def fnExactSplitsAtRow : OpenClaim := { program := "ytagplnopnmjlcaa", sum := "805a21e70239db9697331b215aae1bc2c0c1a5a7ac377861e5b85b4eb550ea8a", func := "loop.example/g01031/laws.FnExactSplitsAt", spec := "fnExactSplitsAt", recurses := true, apart := false }
def FnExactSplitsAtSaid : Prop := fnExactSplitsAtRow.holds Try.pinned (OpenSpec.ofChange fnExactSplitsAtSpec)

/-- ITS FALSE NEIGHBOUR: 'it returns false'. Refute it at one input. -/
def fnExactSplitsAtWrong : ChangeSpec := { name := "fnExactSplitsAt", fn := fun _ => fun
  | [d1, d2] => { results := [.lit (.bool false)], args := [d1, d2] }
  | _ => none }
def FnExactSplitsAtWrongFalsely : Prop := fnExactSplitsAtRow.holds Try.pinned (OpenSpec.ofChange fnExactSplitsAtWrong)

/-- 'laws.FnExactHypothesesOf': WHATEVER THE INPUT: true; the input reads as it did. -/
def fnExactHypothesesOfSpec : ChangeSpec := { name := "fnExactHypothesesOf", fn := fun _ => fun
  | [d1, d2] => { results := [.lit (.bool true)], args := [d1, d2] }
  | _ => none }
def fnExactHypothesesOfRow : OpenClaim := { program := "ytagplnopnmjlcaa", sum := "805a21e70239db9697331b215aae1bc2c0c1a5a7ac377861e5b85b4eb550ea8a", func := "loop.example/g01031/laws.FnExactHypothesesOf", spec := "fnExactHypothesesOf", recurses := true, apart := false }
def FnExactHypothesesOfSaid : Prop := fnExactHypothesesOfRow.holds Try.pinned (OpenSpec.ofChange fnExactHypothesesOfSpec)

/-- ITS FALSE NEIGHBOUR: 'it returns false'. Refute it at one input. -/
def fnExactHypothesesOfWrong : ChangeSpec := { name := "fnExactHypothesesOf", fn := fun _ => fun
  | [d1, d2] => { results := [.lit (.bool false)], args := [d1, d2] }
  | _ => none }
def FnExactHypothesesOfWrongFalsely : Prop := fnExactHypothesesOfRow.holds Try.pinned (OpenSpec.ofChange fnExactHypothesesOfWrong)

/-- 'laws.FnExactWithoutWeak': WHATEVER THE INPUT: true; the input reads as it did. -/
def fnExactWithoutWeakSpec : ChangeSpec := { name := "fnExactWithoutWeak", fn := fun _ => fun
  | [d1, d2, d3] => { results := [.lit (.bool true)], args := [d1, d2, d3] }
  | _ => none }
def fnExactWithoutWeakRow : OpenClaim := { program := "ytagplnopnmjlcaa", sum := "805a21e70239db9697331b215aae1bc2c0c1a5a7ac377861e5b85b4eb550ea8a", func := "loop.example/g01031/laws.FnExactWithoutWeak", spec := "fnExactWithoutWeak", unfollowed := true, recurses := true, apart := false }
def FnExactWithoutWeakSaid : Prop := fnExactWithoutWeakRow.holds Try.pinned (OpenSpec.ofChange fnExactWithoutWeakSpec)

/-- ITS FALSE NEIGHBOUR: 'it returns false'. Refute it at one input. -/
def fnExactWithoutWeakWrong : ChangeSpec := { name := "fnExactWithoutWeak", fn := fun _ => fun
  | [d1, d2, d3] => { results := [.lit (.bool false)], args := [d1, d2, d3] }
  | _ => none }
def FnExactWithoutWeakWrongFalsely : Prop := fnExactWithoutWeakRow.holds Try.pinned (OpenSpec.ofChange fnExactWithoutWeakWrong)

/-- 'laws.FnSafeDepths': WHATEVER THE INPUT: true; the input reads as it did. -/
def fnSafeDepthsSpec : ChangeSpec := { name := "fnSafeDepths", fn := fun _ => fun
  | [d] => { results := [.lit (.bool true)], args := [d] }
  | _ => none }
def fnSafeDepthsRow : OpenClaim := { program := "ytagplnopnmjlcaa", sum := "805a21e70239db9697331b215aae1bc2c0c1a5a7ac377861e5b85b4eb550ea8a", func := "loop.example/g01031/laws.FnSafeDepths", spec := "fnSafeDepths", unfollowed := true, recurses := true, apart := false }
def FnSafeDepthsSaid : Prop := fnSafeDepthsRow.holds Try.pinned (OpenSpec.ofChange fnSafeDepthsSpec)

/-- ITS FALSE NEIGHBOUR: 'it returns false'. Refute it at one input. -/
def fnSafeDepthsWrong : ChangeSpec := { name := "fnSafeDepths", fn := fun _ => fun
  | [d] => { results := [.lit (.bool false)], args := [d] }
  | _ => none }
def FnSafeDepthsWrongFalsely : Prop := fnSafeDepthsRow.holds Try.pinned (OpenSpec.ofChange fnSafeDepthsWrong)

/- THE SECOND FORM. 'bulk': how many values and letters a reading holds, each counted each time it is reached (what is shared counts as often as it is met; a slice's spare places count too). A statement '..UptoSaid' is the law's where the arguments, and the package variables that the reading takes, are together of bulk at most 1048576: NARROWER than '..Said'. Prove '..Said' where nothing that the law and all that it calls make is longer than what came in: it says more and counts as full. Else prove '..UptoSaid'. A law counts once. -/
mutual
def uptoBulk {H : Type} : DataW H → Nat
  | .lit (.string bytes) => bytes.length + 1
  | .lit _ => 1
  | .nil => 1
  | .ptr d => uptoBulk d + 1
  | .slice elems spare => uptoBulkAll elems + uptoBulkAll spare + 1
  | .agg parts => uptoBulkAll parts + 1
  | .iface _ d => uptoBulk d + 1
  | .map entries => uptoBulkEntries entries + 1
  | .held _ => 1
def uptoBulkAll {H : Type} : List (DataW H) → Nat
  | [] => 0
  | d :: r => uptoBulk d + uptoBulkAll r
def uptoBulkEntries {H : Type} : List (Lit × DataW H) → Nat
  | [] => 0
  | x :: r => uptoBulkEntry x + uptoBulkEntries r
def uptoBulkEntry {H : Type} : Lit × DataW H → Nat
  | (.string bytes, d) => bytes.length + uptoBulk d + 1
  | (_, d) => uptoBulk d + 1
 end
def uptoSmall : (H : Type) → List (DataW H) → Bool := fun _ ds => decide (uptoBulkAll ds ≤ 1048576)
def OpenSpec.upto (s : _root_.Go.ChangeSpec) : _root_.Go.OpenSpec := { _root_.Go.OpenSpec.ofChange s with cond := some uptoSmall }

/-- 'laws.FnExactAreVotes', WHERE WHAT IT READS IS OF BULK AT MOST 1048576: true; the input reads as it did. -/
def fnExactAreVotesUptoRow : OpenClaim := { program := "ytagplnopnmjlcaa", sum := "805a21e70239db9697331b215aae1bc2c0c1a5a7ac377861e5b85b4eb550ea8a", func := "loop.example/g01031/laws.FnExactAreVotes", spec := "fnExactAreVotes", apart := false, narrowed := true }
def FnExactAreVotesUptoSaid : Prop := fnExactAreVotesUptoRow.holds Try.pinned (OpenSpec.upto fnExactAreVotesSpec)

/-- 'laws.FnExactAddVote', WHERE WHAT IT READS IS OF BULK AT MOST 1048576: true; the input reads as it did. -/
def fnExactAddVoteUptoRow : OpenClaim := { program := "ytagplnopnmjlcaa", sum := "805a21e70239db9697331b215aae1bc2c0c1a5a7ac377861e5b85b4eb550ea8a", func := "loop.example/g01031/laws.FnExactAddVote", spec := "fnExactAddVote", apart := false, narrowed := true }
def FnExactAddVoteUptoSaid : Prop := fnExactAddVoteUptoRow.holds Try.pinned (OpenSpec.upto fnExactAddVoteSpec)

/-- 'laws.FnHypotheses', WHERE WHAT IT READS IS OF BULK AT MOST 1048576: true; the input reads as it did. -/
def fnHypothesesUptoRow : OpenClaim := { program := "ytagplnopnmjlcaa", sum := "805a21e70239db9697331b215aae1bc2c0c1a5a7ac377861e5b85b4eb550ea8a", func := "loop.example/g01031/laws.FnHypotheses", spec := "fnHypotheses", recurses := true, apart := false, narrowed := true }
def FnHypothesesUptoSaid : Prop := fnHypothesesUptoRow.holds Try.pinned (OpenSpec.upto fnHypothesesSpec)

/-- 'laws.FnExactMedianVote', WHERE WHAT IT READS IS OF BULK AT MOST 1048576: true; the input reads as it did. -/
def fnExactMedianVoteUptoRow : OpenClaim := { program := "ytagplnopnmjlcaa", sum := "805a21e70239db9697331b215aae1bc2c0c1a5a7ac377861e5b85b4eb550ea8a", func := "loop.example/g01031/laws.FnExactMedianVote", spec := "fnExactMedianVote", recurses := true, apart := false, narrowed := true }
def FnExactMedianVoteUptoSaid : Prop := fnExactMedianVoteUptoRow.holds Try.pinned (OpenSpec.upto fnExactMedianVoteSpec)

/-- 'laws.FnExactNarrowestSingle', WHERE WHAT IT READS IS OF BULK AT MOST 1048576: true; the input reads as it did. -/
def fnExactNarrowestSingleUptoRow : OpenClaim := { program := "ytagplnopnmjlcaa", sum := "805a21e70239db9697331b215aae1bc2c0c1a5a7ac377861e5b85b4eb550ea8a", func := "loop.example/g01031/laws.FnExactNarrowestSingle", spec := "fnExactNarrowestSingle", recurses := true, apart := false, narrowed := true }
def FnExactNarrowestSingleUptoSaid : Prop := fnExactNarrowestSingleUptoRow.holds Try.pinned (OpenSpec.upto fnExactNarrowestSingleSpec)

/-- 'laws.FnExactStrongestOf', WHERE WHAT IT READS IS OF BULK AT MOST 1048576: true; the input reads as it did. -/
def fnExactStrongestOfUptoRow : OpenClaim := { program := "ytagplnopnmjlcaa", sum := "805a21e70239db9697331b215aae1bc2c0c1a5a7ac377861e5b85b4eb550ea8a", func := "loop.example/g01031/laws.FnExactStrongestOf", spec := "fnExactStrongestOf", recurses := true, apart := false, narrowed := true }
def FnExactStrongestOfUptoSaid : Prop := fnExactStrongestOfUptoRow.holds Try.pinned (OpenSpec.upto fnExactStrongestOfSpec)

/-- 'laws.FnExactSafeDepth', WHERE WHAT IT READS IS OF BULK AT MOST 1048576: true; the input reads as it did. -/
def fnExactSafeDepthUptoRow : OpenClaim := { program := "ytagplnopnmjlcaa", sum := "805a21e70239db9697331b215aae1bc2c0c1a5a7ac377861e5b85b4eb550ea8a", func := "loop.example/g01031/laws.FnExactSafeDepth", spec := "fnExactSafeDepth", unfollowed := true, recurses := true, apart := false, narrowed := true }
def FnExactSafeDepthUptoSaid : Prop := fnExactSafeDepthUptoRow.holds Try.pinned (OpenSpec.upto fnExactSafeDepthSpec)

/-- 'laws.FnExactAmbiguityOf', WHERE WHAT IT READS IS OF BULK AT MOST 1048576: true; the input reads as it did. -/
def fnExactAmbiguityOfUptoRow : OpenClaim := { program := "ytagplnopnmjlcaa", sum := "805a21e70239db9697331b215aae1bc2c0c1a5a7ac377861e5b85b4eb550ea8a", func := "loop.example/g01031/laws.FnExactAmbiguityOf", spec := "fnExactAmbiguityOf", recurses := true, apart := false, narrowed := true }
def FnExactAmbiguityOfUptoSaid : Prop := fnExactAmbiguityOfUptoRow.holds Try.pinned (OpenSpec.upto fnExactAmbiguityOfSpec)

/-- 'laws.FnExactSplitsAt', WHERE WHAT IT READS IS OF BULK AT MOST 1048576: true; the input reads as it did. -/
def fnExactSplitsAtUptoRow : OpenClaim := { program := "ytagplnopnmjlcaa", sum := "805a21e70239db9697331b215aae1bc2c0c1a5a7ac377861e5b85b4eb550ea8a", func := "loop.example/g01031/laws.FnExactSplitsAt", spec := "fnExactSplitsAt", recurses := true, apart := false, narrowed := true }
def FnExactSplitsAtUptoSaid : Prop := fnExactSplitsAtUptoRow.holds Try.pinned (OpenSpec.upto fnExactSplitsAtSpec)

/-- 'laws.FnExactHypothesesOf', WHERE WHAT IT READS IS OF BULK AT MOST 1048576: true; the input reads as it did. -/
def fnExactHypothesesOfUptoRow : OpenClaim := { program := "ytagplnopnmjlcaa", sum := "805a21e70239db9697331b215aae1bc2c0c1a5a7ac377861e5b85b4eb550ea8a", func := "loop.example/g01031/laws.FnExactHypothesesOf", spec := "fnExactHypothesesOf", recurses := true, apart := false, narrowed := true }
def FnExactHypothesesOfUptoSaid : Prop := fnExactHypothesesOfUptoRow.holds Try.pinned (OpenSpec.upto fnExactHypothesesOfSpec)

/-- 'laws.FnExactWithoutWeak', WHERE WHAT IT READS IS OF BULK AT MOST 1048576: true; the input reads as it did. -/
def fnExactWithoutWeakUptoRow : OpenClaim := { program := "ytagplnopnmjlcaa", sum := "805a21e70239db9697331b215aae1bc2c0c1a5a7ac377861e5b85b4eb550ea8a", func := "loop.example/g01031/laws.FnExactWithoutWeak", spec := "fnExactWithoutWeak", unfollowed := true, recurses := true, apart := false, narrowed := true }
def FnExactWithoutWeakUptoSaid : Prop := fnExactWithoutWeakUptoRow.holds Try.pinned (OpenSpec.upto fnExactWithoutWeakSpec)

/-- 'laws.FnSafeDepths', WHERE WHAT IT READS IS OF BULK AT MOST 1048576: true; the input reads as it did. -/
def fnSafeDepthsUptoRow : OpenClaim := { program := "ytagplnopnmjlcaa", sum := "805a21e70239db9697331b215aae1bc2c0c1a5a7ac377861e5b85b4eb550ea8a", func := "loop.example/g01031/laws.FnSafeDepths", spec := "fnSafeDepths", unfollowed := true, recurses := true, apart := false, narrowed := true }
def FnSafeDepthsUptoSaid : Prop := fnSafeDepthsUptoRow.holds Try.pinned (OpenSpec.upto fnSafeDepthsSpec)

end Rows
end Go.Proofs.Ytagplnopnmjlcaa
