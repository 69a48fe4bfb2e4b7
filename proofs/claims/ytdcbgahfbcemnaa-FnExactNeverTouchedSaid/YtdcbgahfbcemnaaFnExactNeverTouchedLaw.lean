/-
  This file proves the walk of the law 'FnExactNeverTouched': called with any arguments it returns true, and nothing that was in memory before has turned.
  Conditions: that the arguments read as data, as the row's frame hands them over.
-/
import Derived.Test.YtdcbgahfbcemnaaEditI
import Derived.Test.YtdcbgahfbcemnaaEditN
namespace Go.Proofs.Ytdcbgahfbcemnaa
open Go.RowKit
set_option linter.unusedSimpArgs false
set_option linter.unusedVariables false

set_option maxHeartbeats 1000000 in
theorem fnExactNeverTouched_walk (aMarks : Int) (A_aSteps : Option Addr) (c_aSteps : Nat) (aSteps : List GEditStep) (w : World) (f_aMarks : (Lit.int .i64 aMarks).wf = true) (R_aSteps : RdE w 0 w.heap.size A_aSteps aSteps) (f_aSteps : aSteps.length ≤ 9223372036854775807 ∧ ∀ p ∈ aSteps, p.rs.size ≤ maxLen) :
    Calls Try.prog 11 #[.int .i64 aMarks, .slice A_aSteps aSteps.length c_aSteps] w fun e w' => e = .returned (.bool true) ∧ Below w.heap.size w w' := by
  obtain ⟨fl_aSteps, hs_aSteps⟩ := f_aSteps
  have HSZ := Lib.hid hs_aSteps
  clear hs_aSteps
  obtain ⟨y0, y1, hv⟩ : ∃ y0 y1, y0 = (vNeverTouched aMarks aSteps).1 ∧ y1 = (vNeverTouched aMarks aSteps).2 := ⟨_, _, rfl, rfl⟩
  have hb0 : y0.length ≤ 1048576 := by have := vNeverTouched_len0 aMarks aSteps; first | (rw [hv.1]; omega)
  have HV := Lib.hid hv
  clear hv
  go_enter Try.func11, Try.ntmps11
  have BB : Below w.heap.size w w := Below.refl _ _
  go_wp2_with fail
  refine (szEditStepS_any R_aSteps (by omega) fl_aSteps HSZ.out).mono ?_
  rintro e w1 ⟨v_aSteps, rfl, hv_aSteps, B_w1⟩
  have s_w1 := B_w1.size
  replace R_aSteps := R_aSteps.below B_w1 (by omega)
  replace BB := BB.trans (B_w1.mono (by omega))
  rcases hv_aSteps with hv_aSteps | hv_aSteps
  · have qn_aSteps : v_aSteps < 0 := hv_aSteps
    go_wp2_with fail
    go_ret
    exact ⟨rfl, BB⟩
  obtain ⟨v0_aSteps, v1_aSteps, hl_aSteps⟩ := hv_aSteps
  have qn_aSteps : ¬ v_aSteps < 0 := by omega
  go_wp2_with fail
  refine (toEditStepS_any _ _ _ _ _ _ R_aSteps (by omega) (by omega)).mono ?_
  rintro e w2 ⟨A_t1, c_t1, rfl, O_t1, B_w2⟩
  have s_w2 := B_w2.size
  replace R_aSteps := R_aSteps.below B_w2 (by omega)
  replace BB := BB.trans (B_w2.mono (by omega))
  go_wp2_with fail
  refine (sNeverTouched O_t1.rd (by omega) (by omega) O_t1.cap HSZ.out).mono ?_
  rintro e w3 h
  rw [← HV.out.1, ← HV.out.2] at h
  obtain ⟨A_w0, c_w0, rfl, O_w0, B_w3⟩ := h
  have s_w3 := B_w3.size
  replace R_aSteps := R_aSteps.below B_w3 (by omega)
  replace O_t1 := O_t1.below B_w3 (by omega)
  replace BB := BB.trans (B_w3.mono (by omega))
  clear O_t1
  go_wp2_with fail
  refine (toEditStepS_any _ _ _ _ _ _ R_aSteps (by omega) (by omega)).mono ?_
  rintro e w4 ⟨A_x1, c_x1, rfl, O_x1, B_w4⟩
  have s_w4 := B_w4.size
  replace R_aSteps := R_aSteps.below B_w4 (by omega)
  replace O_w0 := O_w0.below B_w4 (by omega)
  replace BB := BB.trans (B_w4.mono (by omega))
  go_wp2_with fail
  refine (iNeverTouched O_x1.rd (by omega) (by omega) O_x1.cap HSZ.out).mono ?_
  rintro e w5 h
  rw [← HV.out.1, ← HV.out.2] at h
  obtain ⟨A_g0, c_g0, rfl, O_g0, B_w5⟩ := h
  have s_w5 := B_w5.size
  replace R_aSteps := R_aSteps.below B_w5 (by omega)
  replace O_w0 := O_w0.below B_w5 (by omega)
  replace O_x1 := O_x1.below B_w5 (by omega)
  replace BB := BB.trans (B_w5.mono (by omega))
  go_wp2_with fail
  refine (eqIntS_same _ _ _ _ _ _ _ _ _ _ O_g0.rd O_w0.rd (by omega)).mono ?_
  rintro e w6 ⟨rfl, n_w6, hn_w6⟩
  have B_w6 := below_of_quiet (B := w5.heap.size) hn_w6
  clear hn_w6
  have s_w6 := B_w6.size
  replace R_aSteps := R_aSteps.below B_w6 (by omega)
  replace O_w0 := O_w0.below B_w6 (by omega)
  replace O_x1 := O_x1.below B_w6 (by omega)
  replace O_g0 := O_g0.below B_w6 (by omega)
  replace BB := BB.trans (B_w6.mono (by omega))
  go_wp2_with fail
  refine (toEditStepS_any _ _ _ _ _ _ R_aSteps (by omega) (by omega)).mono ?_
  rintro e w7 ⟨A_t2, c_t2, rfl, O_t2, B_w7⟩
  have s_w7 := B_w7.size
  replace R_aSteps := R_aSteps.below B_w7 (by omega)
  replace O_w0 := O_w0.below B_w7 (by omega)
  replace O_x1 := O_x1.below B_w7 (by omega)
  replace O_g0 := O_g0.below B_w7 (by omega)
  replace BB := BB.trans (B_w7.mono (by omega))
  go_wp2_with fail
  refine (eqEditStepS_same _ _ _ _ _ _ _ _ _ _ O_x1.rd O_t2.rd (by omega) (by omega) (by omega)).mono ?_
  rintro e w8 ⟨rfl, B_w8⟩
  have s_w8 := B_w8.size
  replace R_aSteps := R_aSteps.below B_w8 (by omega)
  replace O_w0 := O_w0.below B_w8 (by omega)
  replace O_x1 := O_x1.below B_w8 (by omega)
  replace O_g0 := O_g0.below B_w8 (by omega)
  replace O_t2 := O_t2.below B_w8 (by omega)
  replace BB := BB.trans (B_w8.mono (by omega))
  clear O_t2
  go_wp2_with fail
  refine (markEditStepS_any _ _ _ _ _ _ _ O_x1 (by omega) (by omega) (by omega) (by omega)).mono ?_
  rintro e w9 ⟨rfl, M_x1, U_w9, z_w9⟩
  have s_w9 := U_w9.size
  replace R_aSteps := R_aSteps.only U_w9 (by omega) (by omega)
  replace O_w0 := O_w0.only U_w9 (by omega) (by omega)
  replace O_g0 := O_g0.only U_w9 (by omega) (by omega)
  replace BB := BB.trans ((U_w9.below (by omega)).mono (by omega))
  clear O_x1
  go_wp2_with fail
  refine (eqIntS_same _ _ _ _ _ _ _ _ _ _ O_g0.rd O_w0.rd (by omega)).mono ?_
  rintro e w10 ⟨rfl, n_w10, hn_w10⟩
  have B_w10 := below_of_quiet (B := w9.heap.size) hn_w10
  clear hn_w10
  have s_w10 := B_w10.size
  replace R_aSteps := R_aSteps.below B_w10 (by omega)
  replace O_w0 := O_w0.below B_w10 (by omega)
  replace M_x1 := M_x1.below B_w10 (by omega)
  replace O_g0 := O_g0.below B_w10 (by omega)
  replace BB := BB.trans (B_w10.mono (by omega))
  go_wp2_with fail
  refine (markIntS_any _ _ _ _ _ _ _ O_g0 (by omega) (by omega) (by omega)).mono ?_
  rintro e w11 ⟨rfl, M_g0, U_w11, z_w11⟩
  have s_w11 := U_w11.size
  replace R_aSteps := R_aSteps.only U_w11 (by omega) (by omega)
  replace O_w0 := O_w0.only U_w11 (by omega) (by omega)
  replace M_x1 := M_x1.only U_w11 (by omega) (by omega)
  replace BB := BB.trans ((U_w11.below (by omega)).mono (by omega))
  clear O_g0
  go_wp2_with fail
  refine (heldIntS_any _ _ _ _ _ _ _ M_g0.rd (by omega) (by omega) (by omega)).mono ?_
  rintro e w' ⟨rfl, rfl⟩
  go_wp2_with fail
  refine (toEditStepS_any _ _ _ _ _ _ R_aSteps (by omega) (by omega)).mono ?_
  rintro e w12 ⟨A_t3, c_t3, rfl, O_t3, B_w12⟩
  have s_w12 := B_w12.size
  replace R_aSteps := R_aSteps.below B_w12 (by omega)
  replace O_w0 := O_w0.below B_w12 (by omega)
  replace M_x1 := M_x1.below B_w12 (by omega)
  replace M_g0 := M_g0.below B_w12 (by omega)
  replace BB := BB.trans (B_w12.mono (by omega))
  go_wp2_with fail
  refine (iNeverTouched O_t3.rd (by omega) (by omega) O_t3.cap HSZ.out).mono ?_
  rintro e w13 h
  rw [← HV.out.1, ← HV.out.2] at h
  obtain ⟨A_h0, c_h0, rfl, O_h0, B_w13⟩ := h
  have s_w13 := B_w13.size
  replace R_aSteps := R_aSteps.below B_w13 (by omega)
  replace O_w0 := O_w0.below B_w13 (by omega)
  replace M_x1 := M_x1.below B_w13 (by omega)
  replace M_g0 := M_g0.below B_w13 (by omega)
  replace O_t3 := O_t3.below B_w13 (by omega)
  replace BB := BB.trans (B_w13.mono (by omega))
  clear O_t3
  go_wp2_with fail
  refine (eqIntS_same _ _ _ _ _ _ _ _ _ _ O_h0.rd O_w0.rd (by omega)).mono ?_
  rintro e w14 ⟨rfl, n_w14, hn_w14⟩
  have B_w14 := below_of_quiet (B := w13.heap.size) hn_w14
  clear hn_w14
  have s_w14 := B_w14.size
  replace R_aSteps := R_aSteps.below B_w14 (by omega)
  replace O_w0 := O_w0.below B_w14 (by omega)
  replace M_x1 := M_x1.below B_w14 (by omega)
  replace M_g0 := M_g0.below B_w14 (by omega)
  replace O_h0 := O_h0.below B_w14 (by omega)
  replace BB := BB.trans (B_w14.mono (by omega))
  go_wp2_with fail
  refine (heldIntS_any _ _ _ _ _ _ _ M_g0.rd (by omega) (by omega) (by omega)).mono ?_
  rintro e w' ⟨rfl, rfl⟩
  go_wp2_with fail
  go_ret
  exact ⟨rfl, BB⟩

end Go.Proofs.Ytdcbgahfbcemnaa
