/-
  This file proves words for the law on PutPass: the pass that lies in a block of the law's own.
  Conditions: each lemma's own hypotheses.
-/
import Derived.Test.YtaehfcdcdjlanaaPutQ
import Derived.Test.YtaehfcdcdjlanaaPassG
import Derived.Test.YtaehfcdcdjlanaaHeldPass
namespace Go.Proofs.Ytaehfcdcdjlanaa
open Go.RowKit
set_option linter.unusedSimpArgs false
set_option linter.unusedVariables false

theorem Holds6.only {w w' : World} {g lo hi : Nat} {p : GPass} (h : Holds6 w g p) (hb : Only lo hi w w') (hd : g + 1 ≤ lo ∨ hi ≤ g) (hs : g < w.heap.size) : Holds6 w' g p := by
  have e : w'.heap[g]? = w.heap[g]? := hb.block g hs (by omega)
  obtain ⟨h0, h1, h2, h3, h4, h5⟩ := h
  exact ⟨(World.cell?_of_block e).trans h0, (World.cell?_of_block e).trans h1, (World.cell?_of_block e).trans h2, (World.cell?_of_block e).trans h3, (World.cell?_of_block e).trans h4, (World.cell?_of_block e).trans h5⟩

end Go.Proofs.Ytaehfcdcdjlanaa
