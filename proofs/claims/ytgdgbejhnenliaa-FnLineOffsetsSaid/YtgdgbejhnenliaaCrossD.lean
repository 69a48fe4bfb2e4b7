/-
  This file proves contracts of NotTolerated, of the program and of the reference.
  Conditions: each contract's own hypotheses (that a slice reads as a list of crossings, that it is not too long).
-/
import Derived.Test.YtgdgbejhnenliaaCrossC
namespace Go.Proofs.Ytgdgbejhnenliaa
open Go.RowKit
set_option linter.unusedSimpArgs false
set_option linter.unusedVariables false

theorem l10Diff_any (p : GCrossing) (w : World) (hp : isCx p = true) : Calls Try.prog 34 #[.agg #[.int .i64 p.ln, .int .i64 p.cr, .int .i64 p.mn, .int .i64 p.ck]] w fun e w' => e = .returned (.int .i64 (p.ck - p.mn)) ∧ Below w.heap.size w w' := by
  have hb := isCx_bound hp
  have q1 : IntKind.i64.wrap (p.ck - p.mn) = p.ck - p.mn := wr64 (by omega) (by omega)
  go_enter Try.func34, Try.ntmps34
  go_wp2_with fail
  go_returns
  exact ⟨rfl, by go_grown⟩

end Go.Proofs.Ytgdgbejhnenliaa
