/-
  No cell of these rows narrows 'for every input' (looked for: loops, veiled, ifaces, maps, wideKeys, modest, calm, conditions, laid).
  DERIVED. THE GIVEN ROWS OF THIS SEAT. 12 by the template 'for every input the law returns true; each argument reads behind the call as it read before'; 0 by the template 'total and deterministic' (their statements: YtoafdjkmgiikdaaTotals.lean).
  GIVEN WITH THE SEED: the statements are not yours to turn. If you find one false, say at which input.
  Laid BY PROGRAM, IN A SANDBOX (cutbox-rows.mjs): the forced cells as the released guide's own fill.sh prints them over the translation a01091188bf2e51c… (all of the seat's roots in one cut). By AI agents, Wed Nov 11 2026. No macro, syntax, notation, axiom, sorry.
-/
import Derived.Test.YtoafdjkmgiikdaaChecked
import GoSem.Claim
import GoSem.ClaimJoined
import GoSem.ClaimMapViews
import Derived.JoinedTies
import Derived.KernelRfl
namespace Go.Proofs.Ytoafdjkmgiikdaa
/- THE CELL 'sum', in the pinned program and in every row, IS THE sha256 OF THE DUMP (.gsa) THAT YtoafdjkmgiikdaaProg.lean LOADS. Nothing in Lean hashes anything: it is a label: what it is worth is what the hold of that sum in a sandbox is worth. -/
noncomputable def Try.pinned : Pinned := { name := "ytoafdjkmgiikdaa", sum := "a01091188bf2e51c42c413aea1ab4a0b2ab2891b8c6f98ac965fc086a5f1de8a", checked := Try.checked }
namespace Rows
def none {H : Type} : Left H := { results := [], args := [] }

/-- 'laws.FnExactIsTrack': WHATEVER THE INPUT: true; the input reads as it did. -/
def fnExactIsTrackSpec : ChangeSpec := { name := "fnExactIsTrack", fn := fun _ => fun
  | [d] => { results := [.lit (.bool true)], args := [d] }
  | _ => none }
def fnExactIsTrackRow : OpenClaim := { program := "ytoafdjkmgiikdaa", sum := "a01091188bf2e51c42c413aea1ab4a0b2ab2891b8c6f98ac965fc086a5f1de8a", func := "loop.example/g01031/laws.FnExactIsTrack", spec := "fnExactIsTrack", apart := false }
def FnExactIsTrackSaid : Prop := fnExactIsTrackRow.holds Try.pinned (OpenSpec.ofChange fnExactIsTrackSpec)

/-- ITS FALSE NEIGHBOUR: 'it returns false'. Refute it at one input. -/
def fnExactIsTrackWrong : ChangeSpec := { name := "fnExactIsTrack", fn := fun _ => fun
  | [d] => { results := [.lit (.bool false)], args := [d] }
  | _ => none }
def FnExactIsTrackWrongFalsely : Prop := fnExactIsTrackRow.holds Try.pinned (OpenSpec.ofChange fnExactIsTrackWrong)

/-- 'laws.FnExactRoughnessOf': WHATEVER THE INPUT: true; the input reads as it did. -/
def fnExactRoughnessOfSpec : ChangeSpec := { name := "fnExactRoughnessOf", fn := fun _ => fun
  | [d] => { results := [.lit (.bool true)], args := [d] }
  | _ => none }
def fnExactRoughnessOfRow : OpenClaim := { program := "ytoafdjkmgiikdaa", sum := "a01091188bf2e51c42c413aea1ab4a0b2ab2891b8c6f98ac965fc086a5f1de8a", func := "loop.example/g01031/laws.FnExactRoughnessOf", spec := "fnExactRoughnessOf", apart := false }
def FnExactRoughnessOfSaid : Prop := fnExactRoughnessOfRow.holds Try.pinned (OpenSpec.ofChange fnExactRoughnessOfSpec)

/-- ITS FALSE NEIGHBOUR: 'it returns false'. Refute it at one input. -/
def fnExactRoughnessOfWrong : ChangeSpec := { name := "fnExactRoughnessOf", fn := fun _ => fun
  | [d] => { results := [.lit (.bool false)], args := [d] }
  | _ => none }
def FnExactRoughnessOfWrongFalsely : Prop := fnExactRoughnessOfRow.holds Try.pinned (OpenSpec.ofChange fnExactRoughnessOfWrong)

/-- 'laws.FnExactWhereShoaler': WHATEVER THE INPUT: true; the input reads as it did. -/
def fnExactWhereShoalerSpec : ChangeSpec := { name := "fnExactWhereShoaler", fn := fun _ => fun
  | [d1, d2] => { results := [.lit (.bool true)], args := [d1, d2] }
  | _ => none }
def fnExactWhereShoalerRow : OpenClaim := { program := "ytoafdjkmgiikdaa", sum := "a01091188bf2e51c42c413aea1ab4a0b2ab2891b8c6f98ac965fc086a5f1de8a", func := "loop.example/g01031/laws.FnExactWhereShoaler", spec := "fnExactWhereShoaler", apart := false }
def FnExactWhereShoalerSaid : Prop := fnExactWhereShoalerRow.holds Try.pinned (OpenSpec.ofChange fnExactWhereShoalerSpec)

/-- ITS FALSE NEIGHBOUR: 'it returns false'. Refute it at one input. -/
def fnExactWhereShoalerWrong : ChangeSpec := { name := "fnExactWhereShoaler", fn := fun _ => fun
  | [d1, d2] => { results := [.lit (.bool false)], args := [d1, d2] }
  | _ => none }
def FnExactWhereShoalerWrongFalsely : Prop := fnExactWhereShoalerRow.holds Try.pinned (OpenSpec.ofChange fnExactWhereShoalerWrong)

/-- 'laws.FnExactLongestSmooth': WHATEVER THE INPUT: true; the input reads as it did. -/
def fnExactLongestSmoothSpec : ChangeSpec := { name := "fnExactLongestSmooth", fn := fun _ => fun
  | [d1, d2] => { results := [.lit (.bool true)], args := [d1, d2] }
  | _ => none }
def fnExactLongestSmoothRow : OpenClaim := { program := "ytoafdjkmgiikdaa", sum := "a01091188bf2e51c42c413aea1ab4a0b2ab2891b8c6f98ac965fc086a5f1de8a", func := "loop.example/g01031/laws.FnExactLongestSmooth", spec := "fnExactLongestSmooth", apart := false }
def FnExactLongestSmoothSaid : Prop := fnExactLongestSmoothRow.holds Try.pinned (OpenSpec.ofChange fnExactLongestSmoothSpec)

/-- ITS FALSE NEIGHBOUR: 'it returns false'. Refute it at one input. -/
def fnExactLongestSmoothWrong : ChangeSpec := { name := "fnExactLongestSmooth", fn := fun _ => fun
  | [d1, d2] => { results := [.lit (.bool false)], args := [d1, d2] }
  | _ => none }
def FnExactLongestSmoothWrongFalsely : Prop := fnExactLongestSmoothRow.holds Try.pinned (OpenSpec.ofChange fnExactLongestSmoothWrong)

/-- 'laws.FnExactKeptDepths': WHATEVER THE INPUT: true; the input reads as it did. -/
def fnExactKeptDepthsSpec : ChangeSpec := { name := "fnExactKeptDepths", fn := fun _ => fun
  | [d1, d2] => { results := [.lit (.bool true)], args := [d1, d2] }
  | _ => none }
def fnExactKeptDepthsRow : OpenClaim := { program := "ytoafdjkmgiikdaa", sum := "a01091188bf2e51c42c413aea1ab4a0b2ab2891b8c6f98ac965fc086a5f1de8a", func := "loop.example/g01031/laws.FnExactKeptDepths", spec := "fnExactKeptDepths", apart := false }
def FnExactKeptDepthsSaid : Prop := fnExactKeptDepthsRow.holds Try.pinned (OpenSpec.ofChange fnExactKeptDepthsSpec)

/-- ITS FALSE NEIGHBOUR: 'it returns false'. Refute it at one input. -/
def fnExactKeptDepthsWrong : ChangeSpec := { name := "fnExactKeptDepths", fn := fun _ => fun
  | [d1, d2] => { results := [.lit (.bool false)], args := [d1, d2] }
  | _ => none }
def FnExactKeptDepthsWrongFalsely : Prop := fnExactKeptDepthsRow.holds Try.pinned (OpenSpec.ofChange fnExactKeptDepthsWrong)

/-- 'laws.FnExactSpikesIn': WHATEVER THE INPUT: true; the input reads as it did. -/
def fnExactSpikesInSpec : ChangeSpec := { name := "fnExactSpikesIn", fn := fun _ => fun
  | [d1, d2] => { results := [.lit (.bool true)], args := [d1, d2] }
  | _ => none }
def fnExactSpikesInRow : OpenClaim := { program := "ytoafdjkmgiikdaa", sum := "a01091188bf2e51c42c413aea1ab4a0b2ab2891b8c6f98ac965fc086a5f1de8a", func := "loop.example/g01031/laws.FnExactSpikesIn", spec := "fnExactSpikesIn", apart := false }
def FnExactSpikesInSaid : Prop := fnExactSpikesInRow.holds Try.pinned (OpenSpec.ofChange fnExactSpikesInSpec)

/-- ITS FALSE NEIGHBOUR: 'it returns false'. Refute it at one input. -/
def fnExactSpikesInWrong : ChangeSpec := { name := "fnExactSpikesIn", fn := fun _ => fun
  | [d1, d2] => { results := [.lit (.bool false)], args := [d1, d2] }
  | _ => none }
def FnExactSpikesInWrongFalsely : Prop := fnExactSpikesInRow.holds Try.pinned (OpenSpec.ofChange fnExactSpikesInWrong)

/-- 'laws.FnExactShoalFilter': WHATEVER THE INPUT: true; the input reads as it did. -/
def fnExactShoalFilterSpec : ChangeSpec := { name := "fnExactShoalFilter", fn := fun _ => fun
  | [d1, d2] => { results := [.lit (.bool true)], args := [d1, d2] }
  | _ => none }
def fnExactShoalFilterRow : OpenClaim := { program := "ytoafdjkmgiikdaa", sum := "a01091188bf2e51c42c413aea1ab4a0b2ab2891b8c6f98ac965fc086a5f1de8a", func := "loop.example/g01031/laws.FnExactShoalFilter", spec := "fnExactShoalFilter", apart := false }
def FnExactShoalFilterSaid : Prop := fnExactShoalFilterRow.holds Try.pinned (OpenSpec.ofChange fnExactShoalFilterSpec)

/-- ITS FALSE NEIGHBOUR: 'it returns false'. Refute it at one input. -/
def fnExactShoalFilterWrong : ChangeSpec := { name := "fnExactShoalFilter", fn := fun _ => fun
  | [d1, d2] => { results := [.lit (.bool false)], args := [d1, d2] }
  | _ => none }
def FnExactShoalFilterWrongFalsely : Prop := fnExactShoalFilterRow.holds Try.pinned (OpenSpec.ofChange fnExactShoalFilterWrong)

/-- 'laws.FnSpikes': WHATEVER THE INPUT: true; the input reads as it did. -/
def fnSpikesSpec : ChangeSpec := { name := "fnSpikes", fn := fun _ => fun
  | [d] => { results := [.lit (.bool true)], args := [d] }
  | _ => none }
def fnSpikesRow : OpenClaim := { program := "ytoafdjkmgiikdaa", sum := "a01091188bf2e51c42c413aea1ab4a0b2ab2891b8c6f98ac965fc086a5f1de8a", func := "loop.example/g01031/laws.FnSpikes", spec := "fnSpikes", recurses := true, apart := false }
def FnSpikesSaid : Prop := fnSpikesRow.holds Try.pinned (OpenSpec.ofChange fnSpikesSpec)

/-- ITS FALSE NEIGHBOUR: 'it returns false'. Refute it at one input. -/
def fnSpikesWrong : ChangeSpec := { name := "fnSpikes", fn := fun _ => fun
  | [d] => { results := [.lit (.bool false)], args := [d] }
  | _ => none }
def FnSpikesWrongFalsely : Prop := fnSpikesRow.holds Try.pinned (OpenSpec.ofChange fnSpikesWrong)

/-- 'laws.FnExactRejectDown': WHATEVER THE INPUT: true; the input reads as it did. -/
def fnExactRejectDownSpec : ChangeSpec := { name := "fnExactRejectDown", fn := fun _ => fun
  | [d1, d2] => { results := [.lit (.bool true)], args := [d1, d2] }
  | _ => none }
def fnExactRejectDownRow : OpenClaim := { program := "ytoafdjkmgiikdaa", sum := "a01091188bf2e51c42c413aea1ab4a0b2ab2891b8c6f98ac965fc086a5f1de8a", func := "loop.example/g01031/laws.FnExactRejectDown", spec := "fnExactRejectDown", apart := false }
def FnExactRejectDownSaid : Prop := fnExactRejectDownRow.holds Try.pinned (OpenSpec.ofChange fnExactRejectDownSpec)

/-- ITS FALSE NEIGHBOUR: 'it returns false'. Refute it at one input. -/
def fnExactRejectDownWrong : ChangeSpec := { name := "fnExactRejectDown", fn := fun _ => fun
  | [d1, d2] => { results := [.lit (.bool false)], args := [d1, d2] }
  | _ => none }
def FnExactRejectDownWrongFalsely : Prop := fnExactRejectDownRow.holds Try.pinned (OpenSpec.ofChange fnExactRejectDownWrong)

/-- 'laws.FnExactMedianFilter': WHATEVER THE INPUT: true; the input reads as it did. -/
def fnExactMedianFilterSpec : ChangeSpec := { name := "fnExactMedianFilter", fn := fun _ => fun
  | [d] => { results := [.lit (.bool true)], args := [d] }
  | _ => none }
def fnExactMedianFilterRow : OpenClaim := { program := "ytoafdjkmgiikdaa", sum := "a01091188bf2e51c42c413aea1ab4a0b2ab2891b8c6f98ac965fc086a5f1de8a", func := "loop.example/g01031/laws.FnExactMedianFilter", spec := "fnExactMedianFilter", recurses := true, apart := false }
def FnExactMedianFilterSaid : Prop := fnExactMedianFilterRow.holds Try.pinned (OpenSpec.ofChange fnExactMedianFilterSpec)

/-- ITS FALSE NEIGHBOUR: 'it returns false'. Refute it at one input. -/
def fnExactMedianFilterWrong : ChangeSpec := { name := "fnExactMedianFilter", fn := fun _ => fun
  | [d] => { results := [.lit (.bool false)], args := [d] }
  | _ => none }
def FnExactMedianFilterWrongFalsely : Prop := fnExactMedianFilterRow.holds Try.pinned (OpenSpec.ofChange fnExactMedianFilterWrong)

/-- 'laws.FnExactFlattened': WHATEVER THE INPUT: true; the input reads as it did. -/
def fnExactFlattenedSpec : ChangeSpec := { name := "fnExactFlattened", fn := fun _ => fun
  | [d1, d2] => { results := [.lit (.bool true)], args := [d1, d2] }
  | _ => none }
def fnExactFlattenedRow : OpenClaim := { program := "ytoafdjkmgiikdaa", sum := "a01091188bf2e51c42c413aea1ab4a0b2ab2891b8c6f98ac965fc086a5f1de8a", func := "loop.example/g01031/laws.FnExactFlattened", spec := "fnExactFlattened", recurses := true, apart := false }
def FnExactFlattenedSaid : Prop := fnExactFlattenedRow.holds Try.pinned (OpenSpec.ofChange fnExactFlattenedSpec)

/-- ITS FALSE NEIGHBOUR: 'it returns false'. Refute it at one input. -/
def fnExactFlattenedWrong : ChangeSpec := { name := "fnExactFlattened", fn := fun _ => fun
  | [d1, d2] => { results := [.lit (.bool false)], args := [d1, d2] }
  | _ => none }
def FnExactFlattenedWrongFalsely : Prop := fnExactFlattenedRow.holds Try.pinned (OpenSpec.ofChange fnExactFlattenedWrong)

/-- 'laws.FnFilters': WHATEVER THE INPUT: true; the input reads as it did. -/
def fnFiltersSpec : ChangeSpec := { name := "fnFilters", fn := fun _ => fun
  | [d] => { results := [.lit (.bool true)], args := [d] }
  | _ => none }
def fnFiltersRow : OpenClaim := { program := "ytoafdjkmgiikdaa", sum := "a01091188bf2e51c42c413aea1ab4a0b2ab2891b8c6f98ac965fc086a5f1de8a", func := "loop.example/g01031/laws.FnFilters", spec := "fnFilters", recurses := true, apart := false }
def FnFiltersSaid : Prop := fnFiltersRow.holds Try.pinned (OpenSpec.ofChange fnFiltersSpec)

/-- ITS FALSE NEIGHBOUR: 'it returns false'. Refute it at one input. -/
def fnFiltersWrong : ChangeSpec := { name := "fnFilters", fn := fun _ => fun
  | [d] => { results := [.lit (.bool false)], args := [d] }
  | _ => none }
def FnFiltersWrongFalsely : Prop := fnFiltersRow.holds Try.pinned (OpenSpec.ofChange fnFiltersWrong)

/- THE SECOND FORM. 'bulk': how many values and letters a reading holds, each counted each time it is reached (what is shared counts as often as it is met; a slice's spare places count too). A statement '..UptoSaid' is the law's where the arguments, and the package variables that the reading takes, are together of bulk at most 1048576: NARROWER than '..Said'. Prove '..Said' where nothing that the law and all that it calls make is longer than what came in: it says more and counts as full. Else prove '..UptoSaid'. A law counts once. -/
mutual
def uptoBulk {H : Type} : DataW H → Nat
  | .lit (.string bytes) => bytes.length + 1
  | .lit _ => 1
  | .nil => 1
  | .ptr d => uptoBulk d + 1
  | .slice elems spare => uptoBulkAll elems + uptoBulkAll spare + 1
  | .agg parts => uptoBulkAll parts + 1
  | .iface _ d => uptoBulk d + 1
  | .map entries => uptoBulkEntries entries + 1
  | .held _ => 1
def uptoBulkAll {H : Type} : List (DataW H) → Nat
  | [] => 0
  | d :: r => uptoBulk d + uptoBulkAll r
def uptoBulkEntries {H : Type} : List (Lit × DataW H) → Nat
  | [] => 0
  | x :: r => uptoBulkEntry x + uptoBulkEntries r
def uptoBulkEntry {H : Type} : Lit × DataW H → Nat
  | (.string bytes, d) => bytes.length + uptoBulk d + 1
  | (_, d) => uptoBulk d + 1
 end
def uptoSmall : (H : Type) → List (DataW H) → Bool := fun _ ds => decide (uptoBulkAll ds ≤ 1048576)
def OpenSpec.upto (s : _root_.Go.ChangeSpec) : _root_.Go.OpenSpec := { _root_.Go.OpenSpec.ofChange s with cond := some uptoSmall }

/-- 'laws.FnExactIsTrack', WHERE WHAT IT READS IS OF BULK AT MOST 1048576: true; the input reads as it did. -/
def fnExactIsTrackUptoRow : OpenClaim := { program := "ytoafdjkmgiikdaa", sum := "a01091188bf2e51c42c413aea1ab4a0b2ab2891b8c6f98ac965fc086a5f1de8a", func := "loop.example/g01031/laws.FnExactIsTrack", spec := "fnExactIsTrack", apart := false, narrowed := true }
def FnExactIsTrackUptoSaid : Prop := fnExactIsTrackUptoRow.holds Try.pinned (OpenSpec.upto fnExactIsTrackSpec)

/-- 'laws.FnExactRoughnessOf', WHERE WHAT IT READS IS OF BULK AT MOST 1048576: true; the input reads as it did. -/
def fnExactRoughnessOfUptoRow : OpenClaim := { program := "ytoafdjkmgiikdaa", sum := "a01091188bf2e51c42c413aea1ab4a0b2ab2891b8c6f98ac965fc086a5f1de8a", func := "loop.example/g01031/laws.FnExactRoughnessOf", spec := "fnExactRoughnessOf", apart := false, narrowed := true }
def FnExactRoughnessOfUptoSaid : Prop := fnExactRoughnessOfUptoRow.holds Try.pinned (OpenSpec.upto fnExactRoughnessOfSpec)

/-- 'laws.FnExactWhereShoaler', WHERE WHAT IT READS IS OF BULK AT MOST 1048576: true; the input reads as it did. -/
def fnExactWhereShoalerUptoRow : OpenClaim := { program := "ytoafdjkmgiikdaa", sum := "a01091188bf2e51c42c413aea1ab4a0b2ab2891b8c6f98ac965fc086a5f1de8a", func := "loop.example/g01031/laws.FnExactWhereShoaler", spec := "fnExactWhereShoaler", apart := false, narrowed := true }
def FnExactWhereShoalerUptoSaid : Prop := fnExactWhereShoalerUptoRow.holds Try.pinned (OpenSpec.upto fnExactWhereShoalerSpec)

/-- 'laws.FnExactLongestSmooth', WHERE WHAT IT READS IS OF BULK AT MOST 1048576: true; the input reads as it did. -/
def fnExactLongestSmoothUptoRow : OpenClaim := { program := "ytoafdjkmgiikdaa", sum := "a01091188bf2e51c42c413aea1ab4a0b2ab2891b8c6f98ac965fc086a5f1de8a", func := "loop.example/g01031/laws.FnExactLongestSmooth", spec := "fnExactLongestSmooth", apart := false, narrowed := true }
def FnExactLongestSmoothUptoSaid : Prop := fnExactLongestSmoothUptoRow.holds Try.pinned (OpenSpec.upto fnExactLongestSmoothSpec)

/-- 'laws.FnExactKeptDepths', WHERE WHAT IT READS IS OF BULK AT MOST 1048576: true; the input reads as it did. -/
def fnExactKeptDepthsUptoRow : OpenClaim := { program := "ytoafdjkmgiikdaa", sum := "a01091188bf2e51c42c413aea1ab4a0b2ab2891b8c6f98ac965fc086a5f1de8a", func := "loop.example/g01031/laws.FnExactKeptDepths", spec := "fnExactKeptDepths", apart := false, narrowed := true }
def FnExactKeptDepthsUptoSaid : Prop := fnExactKeptDepthsUptoRow.holds Try.pinned (OpenSpec.upto fnExactKeptDepthsSpec)

/-- 'laws.FnExactSpikesIn', WHERE WHAT IT READS IS OF BULK AT MOST 1048576: true; the input reads as it did. -/
def fnExactSpikesInUptoRow : OpenClaim := { program := "ytoafdjkmgiikdaa", sum := "a01091188bf2e51c42c413aea1ab4a0b2ab2891b8c6f98ac965fc086a5f1de8a", func := "loop.example/g01031/laws.FnExactSpikesIn", spec := "fnExactSpikesIn", apart := false, narrowed := true }
def FnExactSpikesInUptoSaid : Prop := fnExactSpikesInUptoRow.holds Try.pinned (OpenSpec.upto fnExactSpikesInSpec)

/-- 'laws.FnExactShoalFilter', WHERE WHAT IT READS IS OF BULK AT MOST 1048576: true; the input reads as it did. -/
def fnExactShoalFilterUptoRow : OpenClaim := { program := "ytoafdjkmgiikdaa", sum := "a01091188bf2e51c42c413aea1ab4a0b2ab2891b8c6f98ac965fc086a5f1de8a", func := "loop.example/g01031/laws.FnExactShoalFilter", spec := "fnExactShoalFilter", apart := false, narrowed := true }
def FnExactShoalFilterUptoSaid : Prop := fnExactShoalFilterUptoRow.holds Try.pinned (OpenSpec.upto fnExactShoalFilterSpec)

/-- 'laws.FnSpikes', WHERE WHAT IT READS IS OF BULK AT MOST 1048576: true; the input reads as it did. -/
def fnSpikesUptoRow : OpenClaim := { program := "ytoafdjkmgiikdaa", sum := "a01091188bf2e51c42c413aea1ab4a0b2ab2891b8c6f98ac965fc086a5f1de8a", func := "loop.example/g01031/laws.FnSpikes", spec := "fnSpikes", recurses := true, apart := false, narrowed := true }
def FnSpikesUptoSaid : Prop := fnSpikesUptoRow.holds Try.pinned (OpenSpec.upto fnSpikesSpec)

/-- 'laws.FnExactRejectDown', WHERE WHAT IT READS IS OF BULK AT MOST 1048576: true; the input reads as it did. -/
def fnExactRejectDownUptoRow : OpenClaim := { program := "ytoafdjkmgiikdaa", sum := "a01091188bf2e51c42c413aea1ab4a0b2ab2891b8c6f98ac965fc086a5f1de8a", func := "loop.example/g01031/laws.FnExactRejectDown", spec := "fnExactRejectDown", apart := false, narrowed := true }
def FnExactRejectDownUptoSaid : Prop := fnExactRejectDownUptoRow.holds Try.pinned (OpenSpec.upto fnExactRejectDownSpec)

/-- 'laws.FnExactMedianFilter', WHERE WHAT IT READS IS OF BULK AT MOST 1048576: true; the input reads as it did. -/
def fnExactMedianFilterUptoRow : OpenClaim := { program := "ytoafdjkmgiikdaa", sum := "a01091188bf2e51c42c413aea1ab4a0b2ab2891b8c6f98ac965fc086a5f1de8a", func := "loop.example/g01031/laws.FnExactMedianFilter", spec := "fnExactMedianFilter", recurses := true, apart := false, narrowed := true }
def FnExactMedianFilterUptoSaid : Prop := fnExactMedianFilterUptoRow.holds Try.pinned (OpenSpec.upto fnExactMedianFilterSpec)

/-- 'laws.FnExactFlattened', WHERE WHAT IT READS IS OF BULK AT MOST 1048576: true; the input reads as it did. -/
def fnExactFlattenedUptoRow : OpenClaim := { program := "ytoafdjkmgiikdaa", sum := "a01091188bf2e51c42c413aea1ab4a0b2ab2891b8c6f98ac965fc086a5f1de8a", func := "loop.example/g01031/laws.FnExactFlattened", spec := "fnExactFlattened", recurses := true, apart := false, narrowed := true }
def FnExactFlattenedUptoSaid : Prop := fnExactFlattenedUptoRow.holds Try.pinned (OpenSpec.upto fnExactFlattenedSpec)

/-- 'laws.FnFilters', WHERE WHAT IT READS IS OF BULK AT MOST 1048576: true; the input reads as it did. -/
def fnFiltersUptoRow : OpenClaim := { program := "ytoafdjkmgiikdaa", sum := "a01091188bf2e51c42c413aea1ab4a0b2ab2891b8c6f98ac965fc086a5f1de8a", func := "loop.example/g01031/laws.FnFilters", spec := "fnFilters", recurses := true, apart := false, narrowed := true }
def FnFiltersUptoSaid : Prop := fnFiltersUptoRow.holds Try.pinned (OpenSpec.upto fnFiltersSpec)

end Rows
end Go.Proofs.Ytoafdjkmgiikdaa
