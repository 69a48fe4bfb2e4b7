/-
  This file proves contracts of the draws of the laws on tracks.
  Conditions: that the code reads as a list of bytes, 65536 at most.
-/
import Derived.Test.YtaehfcdcdjlanaaTrackJ
import Derived.Test.YtaehfcdcdjlanaaCode
namespace Go.Proofs.Ytaehfcdcdjlanaa
open Go.RowKit
set_option linter.unusedSimpArgs false
set_option linter.unusedVariables false

def DrI0 (N : Nat) (w : World) (e : Ending) (w' : World) : Prop := ∃ (B : Option Addr) (d : Nat) (xs : List Int), e = .returned (.slice B xs.length d) ∧ xs.length ≤ N ∧ OwnI w' 3 w.heap.size w'.heap.size B d xs ∧ Below w.heap.size w w'
def DrI1 (N : Nat) (w : World) (e : Ending) (w' : World) : Prop := ∃ (B : Option Addr) (d : Nat) (xs : List Int) (v0 : Int), e = .returned (.tuple #[.slice B xs.length d, .int .i64 v0]) ∧ xs.length ≤ N ∧ OwnI w' 3 w.heap.size w'.heap.size B d xs ∧ Below w.heap.size w w'
def DrII (N : Nat) (w : World) (e : Ending) (w' : World) : Prop := ∃ (B C : Option Addr) (d h : Nat) (xs ys : List Int), e = .returned (.tuple #[.slice B xs.length d, .slice C ys.length h]) ∧ xs.length ≤ N ∧ ys.length ≤ N + 1 ∧ OwnI w' 3 w.heap.size w'.heap.size B d xs ∧ OwnI w' 3 w.heap.size w'.heap.size C h ys ∧ Below w.heap.size w w'

end Go.Proofs.Ytaehfcdcdjlanaa
