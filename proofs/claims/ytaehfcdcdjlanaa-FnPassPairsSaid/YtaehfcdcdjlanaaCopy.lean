/-
  This file proves contracts of the two functions that copy a list of integers.
  Conditions: that the slice reads as a list and is not too long.
-/
import Derived.Test.YtaehfcdcdjlanaaBase
namespace Go.Proofs.Ytaehfcdcdjlanaa
open Go.RowKit
set_option linter.unusedSimpArgs false
set_option linter.unusedVariables false

end Go.Proofs.Ytaehfcdcdjlanaa
