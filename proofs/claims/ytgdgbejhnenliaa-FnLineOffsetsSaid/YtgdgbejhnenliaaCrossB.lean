/-
  This file proves the plain facts on crossings' differences that the contracts of the tests on crossings use.
  Conditions: none.
-/
import Derived.Test.YtgdgbejhnenliaaCrossA
namespace Go.Proofs.Ytgdgbejhnenliaa
open Go.RowKit
set_option linter.unusedSimpArgs false
set_option linter.unusedVariables false

theorem isCL_len {ps : List GCrossing} (h : isCL ps = true) : ps.length ≤ 10 := by
  unfold isCL at h
  rw [Bool.and_eq_true] at h
  simpa using h.2
theorem isCL_get {ps : List GCrossing} {k : Nat} {p : GCrossing} (h : isCL ps = true) (hp : ps[k]? = some p) : isCx p = true := by
  unfold isCL at h
  rw [Bool.and_eq_true, List.all_eq_true] at h
  have hk : k < ps.length := (List.getElem?_eq_some_iff.1 hp).1
  have := h.1 k (List.mem_range.2 hk)
  unfold cOk at this
  rw [Bool.and_eq_true, gC_of hp] at this
  exact this.1
theorem isCx_bound {p : GCrossing} (h : isCx p = true) : (1 ≤ p.ln ∧ p.ln ≤ 99) ∧ (1 ≤ p.cr ∧ p.cr ≤ 99) ∧ (-1000 ≤ p.mn ∧ p.mn ≤ 20000) ∧ (-1000 ≤ p.ck ∧ p.ck ≤ 20000) := by
  simp only [isCx, Bool.and_eq_true, inR_true] at h
  omega
/-- Is the difference of a crossing tolerated? -/
def tol (fx pc : Int) (p : GCrossing) : Bool := decide (100 * absI (p.ck - p.mn) ≤ 100 * fx + pc * max p.mn 0)
def pNot (ps : List GCrossing) (fx pc : Int) (i : Nat) : Bool := !tol fx pc (gC ps i)
def vNotTolerated (ps : List GCrossing) (fx pc : Int) : List Int × Bool :=
  if isCL ps = true ∧ inR fx 0 500 = true ∧ inR pc 0 100 = true then (gath (pNot ps fx pc) (fun i => (i : Int)) ps.length, true) else ([], false)
theorem vNotTolerated_len0 (ps : List GCrossing) (fx pc : Int) : (vNotTolerated ps fx pc).1.length ≤ ps.length := by
  unfold vNotTolerated
  split
  · exact gath_le _ _ _
  · simp

end Go.Proofs.Ytgdgbejhnenliaa
