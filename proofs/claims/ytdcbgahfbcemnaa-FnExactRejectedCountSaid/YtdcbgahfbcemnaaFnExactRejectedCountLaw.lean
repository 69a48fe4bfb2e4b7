/-
  This file proves the walk of the law 'FnExactRejectedCount': called with any arguments it returns true, and nothing that was in memory before has turned.
  Conditions: that the arguments read as data, as the row's frame hands them over.
-/
import Derived.Test.YtdcbgahfbcemnaaEditF
import Derived.Test.YtdcbgahfbcemnaaEditM
namespace Go.Proofs.Ytdcbgahfbcemnaa
open Go.RowKit
set_option linter.unusedSimpArgs false
set_option linter.unusedVariables false

set_option maxHeartbeats 1000000 in
theorem fnExactRejectedCount_walk (aMarks : Int) (A_aSteps : Option Addr) (c_aSteps : Nat) (aSteps : List GEditStep) (w : World) (f_aMarks : (Lit.int .i64 aMarks).wf = true) (R_aSteps : RdE w 0 w.heap.size A_aSteps aSteps) (f_aSteps : aSteps.length ≤ 9223372036854775807 ∧ ∀ p ∈ aSteps, p.rs.size ≤ maxLen) :
    Calls Try.prog 4 #[.int .i64 aMarks, .slice A_aSteps aSteps.length c_aSteps] w fun e w' => e = .returned (.bool true) ∧ Below w.heap.size w w' := by
  obtain ⟨fl_aSteps, hs_aSteps⟩ := f_aSteps
  have HSZ := Lib.hid hs_aSteps
  clear hs_aSteps
  obtain ⟨y0, y1, hv⟩ : ∃ y0 y1, y0 = (vRejectedCount aMarks aSteps).1 ∧ y1 = (vRejectedCount aMarks aSteps).2 := ⟨_, _, rfl, rfl⟩
  have HV := Lib.hid hv
  clear hv
  go_enter Try.func4, Try.ntmps4
  have BB : Below w.heap.size w w := Below.refl _ _
  go_wp2_with fail
  refine (szEditStepS_any R_aSteps (by omega) fl_aSteps HSZ.out).mono ?_
  rintro e w1 ⟨v_aSteps, rfl, hv_aSteps, B_w1⟩
  have s_w1 := B_w1.size
  replace R_aSteps := R_aSteps.below B_w1 (by omega)
  replace BB := BB.trans (B_w1.mono (by omega))
  rcases hv_aSteps with hv_aSteps | hv_aSteps
  · have qn_aSteps : v_aSteps < 0 := hv_aSteps
    go_wp2_with fail
    go_ret
    exact ⟨rfl, BB⟩
  obtain ⟨v0_aSteps, v1_aSteps, hl_aSteps⟩ := hv_aSteps
  have qn_aSteps : ¬ v_aSteps < 0 := by omega
  go_wp2_with fail
  refine (toEditStepS_any _ _ _ _ _ _ R_aSteps (by omega) (by omega)).mono ?_
  rintro e w2 ⟨A_t1, c_t1, rfl, O_t1, B_w2⟩
  have s_w2 := B_w2.size
  replace R_aSteps := R_aSteps.below B_w2 (by omega)
  replace BB := BB.trans (B_w2.mono (by omega))
  go_wp2_with fail
  refine (sRejectedCount O_t1.rd (by omega) (by omega) O_t1.cap HSZ.out).mono ?_
  rintro e w3 h
  rw [← HV.out.1, ← HV.out.2] at h
  obtain ⟨rfl, B_w3⟩ := h
  have s_w3 := B_w3.size
  replace R_aSteps := R_aSteps.below B_w3 (by omega)
  replace O_t1 := O_t1.below B_w3 (by omega)
  replace BB := BB.trans (B_w3.mono (by omega))
  clear O_t1
  go_wp2_with fail
  refine (toEditStepS_any _ _ _ _ _ _ R_aSteps (by omega) (by omega)).mono ?_
  rintro e w4 ⟨A_x1, c_x1, rfl, O_x1, B_w4⟩
  have s_w4 := B_w4.size
  replace R_aSteps := R_aSteps.below B_w4 (by omega)
  replace BB := BB.trans (B_w4.mono (by omega))
  go_wp2_with fail
  refine (iRejectedCount O_x1.rd (by omega) (by omega) O_x1.cap HSZ.out).mono ?_
  rintro e w5 h
  rw [← HV.out.1, ← HV.out.2] at h
  obtain ⟨rfl, B_w5⟩ := h
  have s_w5 := B_w5.size
  replace R_aSteps := R_aSteps.below B_w5 (by omega)
  replace O_x1 := O_x1.below B_w5 (by omega)
  replace BB := BB.trans (B_w5.mono (by omega))
  go_wp2_with fail
  refine (toEditStepS_any _ _ _ _ _ _ R_aSteps (by omega) (by omega)).mono ?_
  rintro e w6 ⟨A_t2, c_t2, rfl, O_t2, B_w6⟩
  have s_w6 := B_w6.size
  replace R_aSteps := R_aSteps.below B_w6 (by omega)
  replace O_x1 := O_x1.below B_w6 (by omega)
  replace BB := BB.trans (B_w6.mono (by omega))
  go_wp2_with fail
  refine (eqEditStepS_same _ _ _ _ _ _ _ _ _ _ O_x1.rd O_t2.rd (by omega) (by omega) (by omega)).mono ?_
  rintro e w7 ⟨rfl, B_w7⟩
  have s_w7 := B_w7.size
  replace R_aSteps := R_aSteps.below B_w7 (by omega)
  replace O_x1 := O_x1.below B_w7 (by omega)
  replace O_t2 := O_t2.below B_w7 (by omega)
  replace BB := BB.trans (B_w7.mono (by omega))
  clear O_t2
  go_wp2_with fail
  go_ret
  exact ⟨rfl, BB⟩

end Go.Proofs.Ytdcbgahfbcemnaa
