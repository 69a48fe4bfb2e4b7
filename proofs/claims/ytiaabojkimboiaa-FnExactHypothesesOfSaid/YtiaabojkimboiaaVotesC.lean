/-
  This file proves contracts of MedianVote and NarrowestSingle, of the program and of the reference.
  Conditions: each contract's own hypotheses (that a slice reads as a list, that it is not too long).
-/
import Derived.Test.YtiaabojkimboiaaVotesA
import Derived.Test.YtiaabojkimboiaaVotesB
import Derived.Test.YtiaabojkimboiaaBase2
namespace Go.Proofs.Ytiaabojkimboiaa
open Go.RowKit
set_option linter.unusedSimpArgs false
set_option linter.unusedVariables false

theorem sortI_depth {xs : List Int} (h : allDepth xs = true) : allDepth (sortI xs) = true := by
  unfold allDepth at h ⊢
  rw [List.all_eq_true] at h ⊢
  exact fun x hx => h x ((sortI_perm xs).mem_iff.1 hx)

def vMedianVote (xs : List Int) : Int × Bool := if isVts xs = true then ((sortI xs).getD ((xs.length - 1) / 2) 0, true) else (0, false)

/-- The greatest step up of the first k + 1 numbers. -/
def wid (ys : List Int) : Nat → Int
  | 0 => 0
  | k + 1 => mostI (wid ys k) (ys.getD (k + 1) 0 - ys.getD k 0)
def vNarrowestSingle (xs : List Int) : Int × Bool := if isVts xs = true then (wid (sortI xs) (xs.length - 1), true) else (0, false)
theorem wid_step {ys : List Int} {k : Nat} {x y : Int} (hx : ys[k + 1]? = some x) (hy : ys[k]? = some y) : wid ys (k + 1) = mostI (wid ys k) (x - y) := by rw [wid, getD_of hx, getD_of hy]

end Go.Proofs.Ytiaabojkimboiaa
