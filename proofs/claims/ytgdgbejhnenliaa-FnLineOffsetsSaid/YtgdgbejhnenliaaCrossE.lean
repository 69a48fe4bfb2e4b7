/-
  This file proves contracts of NotTolerated, of the program and of the reference.
  Conditions: each contract's own hypotheses (that a slice reads as a list of crossings, that it is not too long).
-/
import Derived.Test.YtgdgbejhnenliaaCrossD
namespace Go.Proofs.Ytgdgbejhnenliaa
open Go.RowKit
set_option linter.unusedSimpArgs false
set_option linter.unusedVariables false

theorem pNot_is {ps : List GCrossing} {fx pc : Int} {k : Nat} {p : GCrossing} {b : Bool} (hp : ps[k]? = some p) (h : tol fx pc p = b) : pNot ps fx pc k = !b := by
  unfold pNot
  rw [gC_of hp, h]

end Go.Proofs.Ytgdgbejhnenliaa
