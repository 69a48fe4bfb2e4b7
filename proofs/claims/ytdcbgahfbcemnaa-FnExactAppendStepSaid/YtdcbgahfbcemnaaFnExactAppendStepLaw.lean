/-
  This file proves the walk of the law 'FnExactAppendStep': called with any arguments it returns true, and nothing that was in memory before has turned.
  Conditions: that the arguments read as data, as the row's frame hands them over.
-/
import Derived.Test.YtdcbgahfbcemnaaEditJ
import Derived.Test.YtdcbgahfbcemnaaEditN
import Derived.Deep.DeepCutAuto
import Derived.Deep.RegionHeld3
namespace Go.Proofs.Ytdcbgahfbcemnaa
open Go.RowKit
set_option linter.unusedSimpArgs false
set_option linter.unusedVariables false

set_option maxHeartbeats 1000000 in
set_option maxRecDepth 100000 in
theorem fnExactAppendStep_walk (aMarks : Int) (A_aSteps : Option Addr) (c_aSteps : Nat) (aSteps : List GEditStep) (aStep : GEditStep) (w : World) (f_aMarks : (Lit.int .i64 aMarks).wf = true) (R_aSteps : RdE w 0 w.heap.size A_aSteps aSteps) (f_aSteps : aSteps.length ≤ 9223372036854775807 ∧ ∀ p ∈ aSteps, p.rs.size ≤ maxLen) (f_aStep : aStep.rs.size ≤ maxLen) :
    Calls Try.prog 6 #[.int .i64 aMarks, .slice A_aSteps aSteps.length c_aSteps, GEditStep.val aStep] w fun e w' => e = .returned (.bool true) ∧ Below w.heap.size w w' := by
  obtain ⟨fl_aSteps, hs_aSteps⟩ := f_aSteps
  have HSZ := Lib.hid hs_aSteps
  clear hs_aSteps
  obtain ⟨y0, y1, hv⟩ : ∃ y0 y1, y0 = (vAppendStep aMarks aSteps aStep).1 ∧ y1 = (vAppendStep aMarks aSteps aStep).2 := ⟨_, _, rfl, rfl⟩
  have hb0 : y0.length ≤ 1048576 := by have := vAppendStep_len0 aMarks aSteps aStep; first | (rw [hv.1]; omega)
  have HV := Lib.hid hv
  clear hv
  go_enter Try.func6, Try.ntmps6
  have BB := below_alloc1 w (.cells #[.int .i64 aStep.kd, .int .i64 aStep.mr, .int .i64 aStep.sh, .string aStep.rs] 38)
  have HB_aStep := Holds4.new w aStep 38
  replace R_aSteps := R_aSteps.below BB (by omega)
  have s_w0 : w.heap.size < (w.alloc (.cells #[.int .i64 aStep.kd, .int .i64 aStep.mr, .int .i64 aStep.sh, .string aStep.rs] 38)).heap.size := by simp
  go_wp2_with fail
  generalize w.alloc (.cells #[.int .i64 aStep.kd, .int .i64 aStep.mr, .int .i64 aStep.sh, .string aStep.rs] 38) = w0 at BB HB_aStep R_aSteps s_w0 ⊢
  refine (szEditStepS_any R_aSteps (by omega) fl_aSteps HSZ.out).mono ?_
  rintro e w1 ⟨v_aSteps, rfl, hv_aSteps, B_w1⟩
  have s_w1 := B_w1.size
  replace R_aSteps := R_aSteps.below B_w1 (by omega)
  replace HB_aStep := HB_aStep.below B_w1 (by omega)
  replace BB := BB.trans (B_w1.mono (by omega))
  rcases hv_aSteps with hv_aSteps | hv_aSteps
  · have qn_aSteps : v_aSteps < 0 := hv_aSteps
    go_wp2_with fail
    go_ret
    exact ⟨rfl, BB⟩
  obtain ⟨v0_aSteps, v1_aSteps, hl_aSteps⟩ := hv_aSteps
  have qn_aSteps : ¬ v_aSteps < 0 := by omega
  obtain ⟨b0_aStep, b1_aStep, b2_aStep, b3_aStep⟩ := HB_aStep
  go_wp2_with fail
  have HB_aStep : Holds4 _ _ aStep := ⟨b0_aStep, b1_aStep, b2_aStep, b3_aStep⟩
  clear b0_aStep b1_aStep b2_aStep b3_aStep
  refine (szEditStep_any aStep _ _ v0_aSteps v1_aSteps f_aStep).mono ?_
  rintro e w2 ⟨rfl, B_w2⟩
  have s_w2 := B_w2.size
  replace R_aSteps := R_aSteps.below B_w2 (by omega)
  replace HB_aStep := HB_aStep.below B_w2 (by omega)
  replace BB := BB.trans (B_w2.mono (by omega))
  generalize szOne v_aSteps aStep = u_aStep
  by_cases qu_aStep : u_aStep < 0
  · go_wp2_with fail
    go_ret
    exact ⟨rfl, BB⟩
  go_upto_region 8 with fail
  obtain ⟨H_w0, hH_w0⟩ : ∃ H, H = w2.heap.size := ⟨_, rfl⟩
  go_cut [8, 9] (fun p0 p1 wy => ∃ A c, p0 = .slice A y0.length c ∧ p1 = .bool y1 ∧ Own wy 42 H_w0 wy.heap.size 4 A y0.length c (cellsEditStep y0) ∧ Below H_w0 w2 wy)
  case first => as_aux_lemma =>
    have HC : ∀ W, Below H_w0 w2 W → (W.cell? ⟨w.heap.size, 0, none⟩ = some (.int .i64 aStep.kd) ∧ W.cell? ⟨w.heap.size, 1, none⟩ = some (.int .i64 aStep.mr) ∧ W.cell? ⟨w.heap.size, 2, none⟩ = some (.int .i64 aStep.sh) ∧ W.cell? ⟨w.heap.size, 3, none⟩ = some (.string aStep.rs)) := fun W hW => HB_aStep.below hW (by omega)
    have RD : ∀ W, Below H_w0 w2 W → RdE W 0 w.heap.size A_aSteps aSteps := fun W hW => R_aSteps.below hW (by omega)
    have hHw : w.heap.size ≤ H_w0 := by omega
    have hHc : H_w0 ≤ w2.heap.size := by omega
    clear hH_w0
    go_region_held3 (fun w' => (w'.cell? ⟨w.heap.size, 0, none⟩ = some (.int .i64 aStep.kd) ∧ w'.cell? ⟨w.heap.size, 1, none⟩ = some (.int .i64 aStep.mr) ∧ w'.cell? ⟨w.heap.size, 2, none⟩ = some (.int .i64 aStep.sh) ∧ w'.cell? ⟨w.heap.size, 3, none⟩ = some (.string aStep.rs)) ∧ Below H_w0 w2 w')
      ((first | exact ⟨HC _ (Below.refl _ _).drew, (Below.refl _ _).drew⟩ | exact ⟨HC _ L3, L3⟩ | exact ⟨HC _ L2, L2⟩ | exact ⟨HC _ L1, L1⟩))
      ((first | (go_at_call 14; refine (toEditStepS_any _ _ _ _ _ _ (RD _ (by first | assumption | exact And.right (by assumption))) (Nat.le_trans hHw (Nat.le_trans hHc (show Below H_w0 w2 _ from (by first | assumption | exact And.right (by assumption))).size)) (by omega)).mono ?_; rintro e v1 ⟨A1, c1, rfl, O1, B1⟩; have L1 := (show Below H_w0 w2 _ from Below.trans (by first | assumption | exact And.right (by assumption)) (B1.mono (Nat.le_trans hHc (show w2.heap.size ≤ _ from (show Below H_w0 w2 _ from (by first | assumption | exact And.right (by assumption))).size))))) | (go_at_call 27; refine (toEditStep_any aStep _).mono ?_; rintro e v2 ⟨rfl, B2⟩; have L2 := (show Below H_w0 w2 _ from Below.trans (by first | assumption | exact And.right (by assumption)) (B2.mono (Nat.le_trans hHc (show w2.heap.size ≤ _ from (show Below H_w0 w2 _ from (by first | assumption | exact And.right (by assumption))).size))))) | (go_at_call 26; refine (sAppendStep (O1.below B2 (Nat.le_refl _)).rd (by omega) B2.size O1.cap HSZ.out f_aStep).mono ?_; rintro e v3 h; rw [← HV.out.1, ← HV.out.2] at h; obtain ⟨A3, c3, rfl, O3, B3⟩ := h; have L3 := (show Below H_w0 w2 _ from Below.trans (by first | assumption | exact And.right (by assumption)) (B3.mono (Nat.le_trans hHc (show w2.heap.size ≤ _ from (show Below H_w0 w2 _ from (by first | assumption | exact And.right (by assumption))).size))))) | (go_at_call 26; refine (sAppendStep O1.rd (by omega) (Nat.le_refl _) O1.cap HSZ.out f_aStep).mono ?_; rintro e v3 h; rw [← HV.out.1, ← HV.out.2] at h; obtain ⟨A3, c3, rfl, O3, B3⟩ := h; have L3 := (show Below H_w0 w2 _ from Below.trans (by first | assumption | exact And.right (by assumption)) (B3.mono (Nat.le_trans hHc (show w2.heap.size ≤ _ from (show Below H_w0 w2 _ from (by first | assumption | exact And.right (by assumption))).size)))))))
    all_goals
      have hO3 := Nat.le_trans hHc (show Below H_w0 w2 v3 from L3).size
      have hO1 := Nat.le_trans hHc (show Below H_w0 w2 v1 from L1).size
      have hO2 := Nat.le_trans hHc (show Below H_w0 w2 v2 from L2).size
      go_wp2_with fail
      go_meet
      exact ⟨A3, c3, rfl, rfl, O3.more (by omega) (Nat.le_refl _), L3⟩
  obtain ⟨w3, rfl⟩ : ∃ wz : World, wz = wc := ⟨_, rfl⟩
  obtain ⟨A_w0, c_w0, rfl, rfl, O_w0, B_w3⟩ := hcut
  rw [hH_w0] at O_w0 B_w3
  clear hH_w0
  have s_w3 := B_w3.size
  replace R_aSteps := R_aSteps.below B_w3 (by omega)
  replace HB_aStep := HB_aStep.below B_w3 (by omega)
  replace BB := BB.trans (B_w3.mono (by omega))
  go_wp2_with fail
  refine (toEditStepS_any _ _ _ _ _ _ R_aSteps (by omega) (by omega)).mono ?_
  rintro e w4 ⟨A_x1, c_x1, rfl, O_x1, B_w4⟩
  have s_w4 := B_w4.size
  replace R_aSteps := R_aSteps.below B_w4 (by omega)
  replace HB_aStep := HB_aStep.below B_w4 (by omega)
  replace O_w0 := O_w0.below B_w4 (by omega)
  replace BB := BB.trans (B_w4.mono (by omega))
  obtain ⟨b0_aStep, b1_aStep, b2_aStep, b3_aStep⟩ := HB_aStep
  go_wp2_with fail
  have HB_aStep : Holds4 _ _ aStep := ⟨b0_aStep, b1_aStep, b2_aStep, b3_aStep⟩
  clear b0_aStep b1_aStep b2_aStep b3_aStep
  refine (toEditStep_any aStep _).mono ?_
  rintro e w5 ⟨rfl, B_w5⟩
  have s_w5 := B_w5.size
  replace R_aSteps := R_aSteps.below B_w5 (by omega)
  replace HB_aStep := HB_aStep.below B_w5 (by omega)
  replace O_w0 := O_w0.below B_w5 (by omega)
  replace O_x1 := O_x1.below B_w5 (by omega)
  replace BB := BB.trans (B_w5.mono (by omega))
  go_wp2_with fail
  refine (iAppendStep O_x1.rd (by omega) (by omega) O_x1.cap HSZ.out f_aStep).mono ?_
  rintro e w6 h
  rw [← HV.out.1, ← HV.out.2] at h
  obtain ⟨A_g0, c_g0, rfl, O_g0, B_w6⟩ := h
  have s_w6 := B_w6.size
  replace R_aSteps := R_aSteps.below B_w6 (by omega)
  replace HB_aStep := HB_aStep.below B_w6 (by omega)
  replace O_w0 := O_w0.below B_w6 (by omega)
  replace O_x1 := O_x1.below B_w6 (by omega)
  replace BB := BB.trans (B_w6.mono (by omega))
  go_wp2_with fail
  refine (eqEditStepS_same _ _ _ _ _ _ _ _ _ _ O_g0.rd O_w0.rd (by omega) (by omega) (by omega)).mono ?_
  rintro e w7 ⟨rfl, B_w7⟩
  have s_w7 := B_w7.size
  replace R_aSteps := R_aSteps.below B_w7 (by omega)
  replace HB_aStep := HB_aStep.below B_w7 (by omega)
  replace O_w0 := O_w0.below B_w7 (by omega)
  replace O_x1 := O_x1.below B_w7 (by omega)
  replace O_g0 := O_g0.below B_w7 (by omega)
  replace BB := BB.trans (B_w7.mono (by omega))
  go_wp2_with fail
  refine (toEditStepS_any _ _ _ _ _ _ R_aSteps (by omega) (by omega)).mono ?_
  rintro e w8 ⟨A_t1, c_t1, rfl, O_t1, B_w8⟩
  have s_w8 := B_w8.size
  replace R_aSteps := R_aSteps.below B_w8 (by omega)
  replace HB_aStep := HB_aStep.below B_w8 (by omega)
  replace O_w0 := O_w0.below B_w8 (by omega)
  replace O_x1 := O_x1.below B_w8 (by omega)
  replace O_g0 := O_g0.below B_w8 (by omega)
  replace BB := BB.trans (B_w8.mono (by omega))
  go_wp2_with fail
  refine (eqEditStepS_same _ _ _ _ _ _ _ _ _ _ O_x1.rd O_t1.rd (by omega) (by omega) (by omega)).mono ?_
  rintro e w9 ⟨rfl, B_w9⟩
  have s_w9 := B_w9.size
  replace R_aSteps := R_aSteps.below B_w9 (by omega)
  replace HB_aStep := HB_aStep.below B_w9 (by omega)
  replace O_w0 := O_w0.below B_w9 (by omega)
  replace O_x1 := O_x1.below B_w9 (by omega)
  replace O_g0 := O_g0.below B_w9 (by omega)
  replace O_t1 := O_t1.below B_w9 (by omega)
  replace BB := BB.trans (B_w9.mono (by omega))
  clear O_t1
  go_wp2_with fail
  refine (markEditStepS_any _ _ _ _ _ _ _ O_x1 (by omega) (by omega) (by omega) (by omega)).mono ?_
  rintro e w10 ⟨rfl, M_x1, U_w10, z_w10⟩
  have s_w10 := U_w10.size
  replace R_aSteps := R_aSteps.only U_w10 (by omega) (by omega)
  replace HB_aStep := HB_aStep.only U_w10 (by omega) (by omega)
  replace O_w0 := O_w0.only U_w10 (by omega) (by omega)
  replace O_g0 := O_g0.only U_w10 (by omega) (by omega)
  replace BB := BB.trans ((U_w10.below (by omega)).mono (by omega))
  clear O_x1
  go_wp2_with fail
  refine (eqEditStepS_same _ _ _ _ _ _ _ _ _ _ O_g0.rd O_w0.rd (by omega) (by omega) (by omega)).mono ?_
  rintro e w11 ⟨rfl, B_w11⟩
  have s_w11 := B_w11.size
  replace R_aSteps := R_aSteps.below B_w11 (by omega)
  replace HB_aStep := HB_aStep.below B_w11 (by omega)
  replace O_w0 := O_w0.below B_w11 (by omega)
  replace M_x1 := M_x1.below B_w11 (by omega)
  replace O_g0 := O_g0.below B_w11 (by omega)
  replace BB := BB.trans (B_w11.mono (by omega))
  go_wp2_with fail
  refine (markEditStepS_any _ _ _ _ _ _ _ O_g0 (by omega) (by omega) (by omega) (by omega)).mono ?_
  rintro e w12 ⟨rfl, M_g0, U_w12, z_w12⟩
  have s_w12 := U_w12.size
  replace R_aSteps := R_aSteps.only U_w12 (by omega) (by omega)
  replace HB_aStep := HB_aStep.only U_w12 (by omega) (by omega)
  replace O_w0 := O_w0.only U_w12 (by omega) (by omega)
  replace M_x1 := M_x1.only U_w12 (by omega) (by omega)
  replace BB := BB.trans ((U_w12.below (by omega)).mono (by omega))
  clear O_g0
  go_wp2_with fail
  refine (heldEditStepS_any _ _ _ _ _ _ _ M_g0.rd (by omega) (by omega) (by omega) (by omega)).mono ?_
  rintro e w13 ⟨rfl, B_w13⟩
  have s_w13 := B_w13.size
  replace R_aSteps := R_aSteps.below B_w13 (by omega)
  replace HB_aStep := HB_aStep.below B_w13 (by omega)
  replace O_w0 := O_w0.below B_w13 (by omega)
  replace M_x1 := M_x1.below B_w13 (by omega)
  replace M_g0 := M_g0.below B_w13 (by omega)
  replace BB := BB.trans (B_w13.mono (by omega))
  go_upto_region 27 with fail
  obtain ⟨H_h0, hH_h0⟩ : ∃ H, H = w13.heap.size := ⟨_, rfl⟩
  go_cut [16, 17] (fun p0 p1 wy => ∃ A c, p0 = .slice A y0.length c ∧ p1 = .bool y1 ∧ Own wy 42 H_h0 wy.heap.size 4 A y0.length c (cellsEditStep y0) ∧ Below H_h0 w13 wy)
  case first => as_aux_lemma =>
    have HC : ∀ W, Below H_h0 w13 W → (W.cell? ⟨w.heap.size, 0, none⟩ = some (.int .i64 aStep.kd) ∧ W.cell? ⟨w.heap.size, 1, none⟩ = some (.int .i64 aStep.mr) ∧ W.cell? ⟨w.heap.size, 2, none⟩ = some (.int .i64 aStep.sh) ∧ W.cell? ⟨w.heap.size, 3, none⟩ = some (.string aStep.rs)) := fun W hW => HB_aStep.below hW (by omega)
    have RD : ∀ W, Below H_h0 w13 W → RdE W 0 w.heap.size A_aSteps aSteps := fun W hW => R_aSteps.below hW (by omega)
    have hHw : w.heap.size ≤ H_h0 := by omega
    have hHc : H_h0 ≤ w13.heap.size := by omega
    clear O_w0 M_x1 M_g0 hH_h0
    go_region_held3 (fun w' => (w'.cell? ⟨w.heap.size, 0, none⟩ = some (.int .i64 aStep.kd) ∧ w'.cell? ⟨w.heap.size, 1, none⟩ = some (.int .i64 aStep.mr) ∧ w'.cell? ⟨w.heap.size, 2, none⟩ = some (.int .i64 aStep.sh) ∧ w'.cell? ⟨w.heap.size, 3, none⟩ = some (.string aStep.rs)) ∧ Below H_h0 w13 w')
      ((first | exact ⟨HC _ (Below.refl _ _).drew, (Below.refl _ _).drew⟩ | exact ⟨HC _ L3, L3⟩ | exact ⟨HC _ L2, L2⟩ | exact ⟨HC _ L1, L1⟩))
      ((first | (go_at_call 14; refine (toEditStepS_any _ _ _ _ _ _ (RD _ (by first | assumption | exact And.right (by assumption))) (Nat.le_trans hHw (Nat.le_trans hHc (show Below H_h0 w13 _ from (by first | assumption | exact And.right (by assumption))).size)) (by omega)).mono ?_; rintro e v1 ⟨A1, c1, rfl, O1, B1⟩; have L1 := (show Below H_h0 w13 _ from Below.trans (by first | assumption | exact And.right (by assumption)) (B1.mono (Nat.le_trans hHc (show w13.heap.size ≤ _ from (show Below H_h0 w13 _ from (by first | assumption | exact And.right (by assumption))).size))))) | (go_at_call 27; refine (toEditStep_any aStep _).mono ?_; rintro e v2 ⟨rfl, B2⟩; have L2 := (show Below H_h0 w13 _ from Below.trans (by first | assumption | exact And.right (by assumption)) (B2.mono (Nat.le_trans hHc (show w13.heap.size ≤ _ from (show Below H_h0 w13 _ from (by first | assumption | exact And.right (by assumption))).size))))) | (go_at_call 28; refine (iAppendStep (O1.below B2 (Nat.le_refl _)).rd (by omega) B2.size O1.cap HSZ.out f_aStep).mono ?_; rintro e v3 h; rw [← HV.out.1, ← HV.out.2] at h; obtain ⟨A3, c3, rfl, O3, B3⟩ := h; have L3 := (show Below H_h0 w13 _ from Below.trans (by first | assumption | exact And.right (by assumption)) (B3.mono (Nat.le_trans hHc (show w13.heap.size ≤ _ from (show Below H_h0 w13 _ from (by first | assumption | exact And.right (by assumption))).size))))) | (go_at_call 28; refine (iAppendStep O1.rd (by omega) (Nat.le_refl _) O1.cap HSZ.out f_aStep).mono ?_; rintro e v3 h; rw [← HV.out.1, ← HV.out.2] at h; obtain ⟨A3, c3, rfl, O3, B3⟩ := h; have L3 := (show Below H_h0 w13 _ from Below.trans (by first | assumption | exact And.right (by assumption)) (B3.mono (Nat.le_trans hHc (show w13.heap.size ≤ _ from (show Below H_h0 w13 _ from (by first | assumption | exact And.right (by assumption))).size)))))))
    all_goals
      have hO3 := Nat.le_trans hHc (show Below H_h0 w13 v3 from L3).size
      have hO1 := Nat.le_trans hHc (show Below H_h0 w13 v1 from L1).size
      have hO2 := Nat.le_trans hHc (show Below H_h0 w13 v2 from L2).size
      go_wp2_with fail
      go_meet
      exact ⟨A3, c3, rfl, rfl, O3.more (by omega) (Nat.le_refl _), L3⟩
  obtain ⟨w14, rfl⟩ : ∃ wz : World, wz = wc := ⟨_, rfl⟩
  obtain ⟨A_h0, c_h0, rfl, rfl, O_h0, B_w14⟩ := hcut
  rw [hH_h0] at O_h0 B_w14
  clear hH_h0
  have s_w14 := B_w14.size
  replace R_aSteps := R_aSteps.below B_w14 (by omega)
  replace HB_aStep := HB_aStep.below B_w14 (by omega)
  replace O_w0 := O_w0.below B_w14 (by omega)
  replace M_x1 := M_x1.below B_w14 (by omega)
  replace M_g0 := M_g0.below B_w14 (by omega)
  replace BB := BB.trans (B_w14.mono (by omega))
  go_wp2_with fail
  refine (eqEditStepS_same _ _ _ _ _ _ _ _ _ _ O_h0.rd O_w0.rd (by omega) (by omega) (by omega)).mono ?_
  rintro e w15 ⟨rfl, B_w15⟩
  have s_w15 := B_w15.size
  replace R_aSteps := R_aSteps.below B_w15 (by omega)
  replace HB_aStep := HB_aStep.below B_w15 (by omega)
  replace O_w0 := O_w0.below B_w15 (by omega)
  replace M_x1 := M_x1.below B_w15 (by omega)
  replace M_g0 := M_g0.below B_w15 (by omega)
  replace O_h0 := O_h0.below B_w15 (by omega)
  replace BB := BB.trans (B_w15.mono (by omega))
  go_wp2_with fail
  refine (heldEditStepS_any _ _ _ _ _ _ _ M_g0.rd (by omega) (by omega) (by omega) (by omega)).mono ?_
  rintro e w16 ⟨rfl, B_w16⟩
  have s_w16 := B_w16.size
  replace R_aSteps := R_aSteps.below B_w16 (by omega)
  replace HB_aStep := HB_aStep.below B_w16 (by omega)
  replace O_w0 := O_w0.below B_w16 (by omega)
  replace M_x1 := M_x1.below B_w16 (by omega)
  replace M_g0 := M_g0.below B_w16 (by omega)
  replace O_h0 := O_h0.below B_w16 (by omega)
  replace BB := BB.trans (B_w16.mono (by omega))
  go_wp2_with fail
  go_ret
  exact ⟨rfl, BB⟩

end Go.Proofs.Ytdcbgahfbcemnaa
