/-
  This file proves contracts of NotTolerated and PassesTest, of the program and of the reference.
  Conditions: each contract's own hypotheses (that a slice reads as a list of crossings, that it is not too long).
-/
import Derived.Test.YtgdgbejhnenliaaCrossE
namespace Go.Proofs.Ytgdgbejhnenliaa
open Go.RowKit
set_option linter.unusedSimpArgs false
set_option linter.unusedVariables false

theorem row_below {w w' : World} {base : Nat} {e : TypeId} {size n : Nat} {v : Value} {xs : List Value} (h : w.ownsRow base e size v n xs) (hb : Below w.heap.size w w') : w'.ownsRow base e size v n xs := by
  obtain ⟨A, c, rfl, ho⟩ := Own.of_row h
  exact (ho.below hb (Nat.le_refl _)).1
theorem canTol_yes {ps : List GCrossing} {fx pc : Int} (h : canTol ps fx pc = true) : isCL ps = true ∧ (0 ≤ fx ∧ fx ≤ 1000000) ∧ (0 ≤ pc ∧ pc ≤ 100) := by
  unfold canTol at h
  rw [Bool.and_eq_true, Bool.and_eq_true] at h
  have h1 := inR_true.1 h.2.1
  have h2 := inR_true.1 h.2.2
  exact ⟨h.1, by omega, by omega⟩
theorem canTol_iff {ps : List GCrossing} {fx pc : Int} : canTol ps fx pc = true ↔ (isCL ps = true ∧ inR fx 0 500 = true ∧ inR pc 0 100 = true) := by
  unfold canTol
  rw [Bool.and_eq_true, Bool.and_eq_true]
theorem vNotTolerated_yes {ps : List GCrossing} {fx pc : Int} (h : canTol ps fx pc = true) : vNotTolerated ps fx pc = (gath (pNot ps fx pc) (fun i => (i : Int)) ps.length, true) := by
  unfold vNotTolerated
  rw [if_pos (canTol_iff.1 h)]
theorem vNotTolerated_no {ps : List GCrossing} {fx pc : Int} (h : canTol ps fx pc = false) : vNotTolerated ps fx pc = ([], false) := by
  unfold vNotTolerated
  rw [if_neg (fun h' => by rw [canTol_iff.2 h'] at h; cases h)]

end Go.Proofs.Ytgdgbejhnenliaa
