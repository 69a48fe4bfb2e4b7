/-
  This file proves what the rows' frames share: a step that came in as an argument by value is one of its four fields.
  Conditions: that the argument can be read as data.
-/
import Derived.Test.YtdcbgahfbcemnaaFrameEditStepS
namespace Go.Proofs.Ytdcbgahfbcemnaa
open Go.ChangeShapes Go.WideShapes Go.ChangeAt Go.RowKit Go.Joins Go.Deep
set_option linter.unusedVariables false
set_option linter.unusedSimpArgs false

theorem cells_EditStepL : Try.prog.cellsOf 38 = 4 := by kernel_rfl
set_option maxRecDepth 100000 in
theorem openEditStep {H : Type} {enc : TypeId × Value → H} {W : World} {spare : Nat → Bool} {held : Bool} {base b0 : Nat} {r : Reach} {v : Value} {d : DataW H} {p : List MemPlace}
    (hv : Value.okWide Try.prog W r b0 38 v) (h : DataW.Trod enc Try.prog W base spare held 38 v d p) :
    ∃ x : GEditStep, v = x.val ∧ x.rs.size ≤ maxLen := by
  obtain ⟨v0, v1, v2, v3, y0, y1, y2, y3, n, rfl, _, _, h0, h1, h2, h3⟩ := open_agg4 Try.underlying38 (by kernel_rfl) cells_EditStepL hv h
  obtain ⟨x0, e0, _, f0⟩ := DataW.trod_int Try.underlying3 h0
  obtain ⟨x1, e1, _, f1⟩ := DataW.trod_int Try.underlying3 h1
  obtain ⟨x2, e2, _, f2⟩ := DataW.trod_int Try.underlying3 h2
  obtain ⟨x3, e3, _, f3⟩ := DataW.trod_string Try.underlying9 h3
  simp at e0 e1 e2 e3
  subst e0 e1 e2 e3
  exact ⟨⟨x0, x1, x2, x3⟩, rfl, f3⟩

end Go.Proofs.Ytdcbgahfbcemnaa
