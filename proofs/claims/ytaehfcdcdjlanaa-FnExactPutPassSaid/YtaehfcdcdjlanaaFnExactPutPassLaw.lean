/-
  This file proves the walk of the law 'FnExactPutPass': called with any arguments it returns true, and nothing that was in memory before has turned.
  Conditions: that the arguments read as data, as the row's frame hands them over.
-/
import Derived.Test.YtaehfcdcdjlanaaPutR
import Derived.Test.YtaehfcdcdjlanaaFramePass
import Derived.Deep.DeepCutAuto
import Derived.Deep.RegionHeld3
namespace Go.Proofs.Ytaehfcdcdjlanaa
open Go.RowKit
set_option linter.unusedSimpArgs false
set_option linter.unusedVariables false

set_option maxHeartbeats 1000000 in
set_option maxRecDepth 100000 in
theorem fnExactPutPass_walk (A_aList : Option Addr) (c_aList : Nat) (aList : List GPass) (aP : GPass) (w : World) (R_aList : RdP w 0 w.heap.size A_aList aList) (f_aList : aList.length ≤ 9223372036854775807) (f_aP : GPass.wf aP) :
    Calls Try.prog 5 #[.slice A_aList aList.length c_aList, GPass.val aP] w fun e w' => e = .returned (.bool true) ∧ Below w.heap.size w w' := by
  by_cases h_aList : 1048576 < aList.length
  · go_enter Try.func5, Try.ntmps5
    have HL := Lib.hid h_aList
    go_wp2_with (go_at_call 24; refine (szPassS_big aList (by omega) (by omega)).mono ?_; rintro e w1 ⟨rfl, rfl⟩)
    go_ret
    exact ⟨rfl, below_alloc1 _ _⟩
  have hl_aList : aList.length ≤ 1048576 := by omega
  clear h_aList
  obtain ⟨y0, y1, hv⟩ : ∃ y0 y1, y0 = (vPutPass aList aP).1 ∧ y1 = (vPutPass aList aP).2 := ⟨_, _, rfl, rfl⟩
  have hb0 : y0.length ≤ 1048576 := by have := vPutPass_len0 aList aP; first | (rw [hv.1]; omega)
  have HV := Lib.hid hv
  clear hv
  go_enter Try.func5, Try.ntmps5
  have BB := below_alloc1 w (.cells #[.int .i64 aP.ln, .int .i64 aP.bg, .int .i64 aP.en, .int .i64 aP.pg, .int .i64 aP.bd, .int .i64 aP.cs] 56)
  have HB_aP : Holds6 (w.alloc (.cells #[.int .i64 aP.ln, .int .i64 aP.bg, .int .i64 aP.en, .int .i64 aP.pg, .int .i64 aP.bd, .int .i64 aP.cs] 56)) w.heap.size aP := pass_cells aP w 56
  replace R_aList := R_aList.below BB (by omega)
  have s_w0 : w.heap.size < (w.alloc (.cells #[.int .i64 aP.ln, .int .i64 aP.bg, .int .i64 aP.en, .int .i64 aP.pg, .int .i64 aP.bd, .int .i64 aP.cs] 56)).heap.size := by simp
  go_wp2_with fail
  generalize w.alloc (.cells #[.int .i64 aP.ln, .int .i64 aP.bg, .int .i64 aP.en, .int .i64 aP.pg, .int .i64 aP.bd, .int .i64 aP.cs] 56) = w0 at BB HB_aP R_aList s_w0 ⊢
  have q_aList : ¬ ((1048576 - (aList.length : Int)) < 0) := by omega
  refine (szPassS_small aList (by omega)).mono ?_
  rintro e w1 ⟨rfl, rfl⟩
  go_upto_region 5 with fail
  obtain ⟨H_w0, hH_w0⟩ : ∃ H, H = w0.heap.size := ⟨_, rfl⟩
  go_cut [6, 7] (fun p0 p1 wy => ∃ A c, p0 = .slice A y0.length c ∧ p1 = .bool y1 ∧ Own wy 40 H_w0 wy.heap.size 6 A y0.length c (passCells y0) ∧ Below H_w0 w0 wy)
  case first => as_aux_lemma =>
    have HC : ∀ W, Below H_w0 w0 W → (W.cell? ⟨w.heap.size, 0, none⟩ = some (.int .i64 aP.ln) ∧ W.cell? ⟨w.heap.size, 1, none⟩ = some (.int .i64 aP.bg) ∧ W.cell? ⟨w.heap.size, 2, none⟩ = some (.int .i64 aP.en) ∧ W.cell? ⟨w.heap.size, 3, none⟩ = some (.int .i64 aP.pg) ∧ W.cell? ⟨w.heap.size, 4, none⟩ = some (.int .i64 aP.bd) ∧ W.cell? ⟨w.heap.size, 5, none⟩ = some (.int .i64 aP.cs)) := fun W hW => HB_aP.below hW (by omega)
    have RD : ∀ W, Below H_w0 w0 W → RdP W 0 w.heap.size A_aList aList := fun W hW => R_aList.below hW (by omega)
    have hHw : w.heap.size ≤ H_w0 := by omega
    have hHc : H_w0 ≤ w0.heap.size := by omega
    clear hH_w0
    go_region_held3 (fun w' => (w'.cell? ⟨w.heap.size, 0, none⟩ = some (.int .i64 aP.ln) ∧ w'.cell? ⟨w.heap.size, 1, none⟩ = some (.int .i64 aP.bg) ∧ w'.cell? ⟨w.heap.size, 2, none⟩ = some (.int .i64 aP.en) ∧ w'.cell? ⟨w.heap.size, 3, none⟩ = some (.int .i64 aP.pg) ∧ w'.cell? ⟨w.heap.size, 4, none⟩ = some (.int .i64 aP.bd) ∧ w'.cell? ⟨w.heap.size, 5, none⟩ = some (.int .i64 aP.cs)) ∧ Below H_w0 w0 w')
      ((first | exact ⟨HC _ (Below.refl _ _).drew, (Below.refl _ _).drew⟩ | exact ⟨HC _ L3, L3⟩ | exact ⟨HC _ L2, L2⟩ | exact ⟨HC _ L1, L1⟩))
      ((first | (go_at_call 33; refine (sPutPass (A := A1) (c := c1) (ps := aList) (q := aP) (hi := v1.heap.size) (by first | exact O1.below B2 (Nat.le_refl _) | exact O1) (by omega) (by first | exact B2.size | exact Nat.le_refl _)).mono ?_; rintro e v3 h; rw [← HV.out.1, ← HV.out.2] at h; obtain ⟨A3, c3, rfl, O3, B3⟩ := h; have L3 := (show Below H_w0 w0 _ from Below.trans (by first | assumption | exact And.right (by assumption)) (B3.mono (Nat.le_trans hHc (show w0.heap.size ≤ _ from (show Below H_w0 w0 _ from (by first | assumption | exact And.right (by assumption))).size))))) | (go_at_call 26; refine (toPassS_any _ _ _ _ _ _ (RD _ (by first | assumption | exact And.right (by assumption))) (Nat.le_trans hHw (Nat.le_trans hHc (show Below H_w0 w0 _ from (by first | assumption | exact And.right (by assumption))).size)) (by omega)).mono ?_; rintro e v1 ⟨A1, c1, rfl, O1, B1⟩; have L1 := (show Below H_w0 w0 _ from Below.trans (by first | assumption | exact And.right (by assumption)) (B1.mono (Nat.le_trans hHc (show w0.heap.size ≤ _ from (show Below H_w0 w0 _ from (by first | assumption | exact And.right (by assumption))).size))))) | (go_at_call 34; refine (toPass_any aP _).mono ?_; rintro e v2 ⟨rfl, B2⟩; have L2 := (show Below H_w0 w0 _ from Below.trans (by first | assumption | exact And.right (by assumption)) (B2.mono (Nat.le_trans hHc (show w0.heap.size ≤ _ from (show Below H_w0 w0 _ from (by first | assumption | exact And.right (by assumption))).size)))))))
    all_goals
      have hO3 := Nat.le_trans hHc (show Below H_w0 w0 v3 from L3).size
      have hO1 := Nat.le_trans hHc (show Below H_w0 w0 v1 from L1).size
      have hO2 := Nat.le_trans hHc (show Below H_w0 w0 v2 from L2).size
      go_wp2_with fail
      go_meet
      exact ⟨A3, c3, rfl, rfl, O3.more (by omega) (Nat.le_refl _), L3⟩
  obtain ⟨w1, rfl⟩ : ∃ wz : World, wz = wc := ⟨_, rfl⟩
  obtain ⟨A_w0, c_w0, rfl, rfl, O_w0, B_w1⟩ := hcut
  rw [hH_w0] at O_w0 B_w1
  clear hH_w0
  have s_w1 := B_w1.size
  replace R_aList := R_aList.below B_w1 (by omega)
  replace HB_aP := HB_aP.below B_w1 (by omega)
  replace BB := BB.trans (B_w1.mono (by omega))
  go_wp2_with fail
  refine (toPassS_any _ _ _ _ _ _ R_aList (by omega) (by omega)).mono ?_
  rintro e w2 ⟨A_x0, c_x0, rfl, O_x0, B_w2⟩
  have s_w2 := B_w2.size
  replace R_aList := R_aList.below B_w2 (by omega)
  replace HB_aP := HB_aP.below B_w2 (by omega)
  replace O_w0 := O_w0.below B_w2 (by omega)
  replace BB := BB.trans (B_w2.mono (by omega))
  obtain ⟨b0_aP, b1_aP, b2_aP, b3_aP, b4_aP, b5_aP⟩ := HB_aP
  go_wp2_with fail
  have HB_aP : Holds6 _ _ aP := ⟨b0_aP, b1_aP, b2_aP, b3_aP, b4_aP, b5_aP⟩
  clear b0_aP b1_aP b2_aP b3_aP b4_aP b5_aP
  refine (toPass_any aP _).mono ?_
  rintro e w3 ⟨rfl, B_w3⟩
  have s_w3 := B_w3.size
  replace R_aList := R_aList.below B_w3 (by omega)
  replace HB_aP := HB_aP.below B_w3 (by omega)
  replace O_w0 := O_w0.below B_w3 (by omega)
  replace O_x0 := O_x0.below B_w3 (by omega)
  replace BB := BB.trans (B_w3.mono (by omega))
  go_wp2_with fail
  refine (iPutPass O_x0 (by omega) (by omega)).mono ?_
  rintro e w4 h
  rw [← HV.out.1, ← HV.out.2] at h
  obtain ⟨A_g0, c_g0, rfl, O_g0, B_w4⟩ := h
  have s_w4 := B_w4.size
  replace R_aList := R_aList.below B_w4 (by omega)
  replace HB_aP := HB_aP.below B_w4 (by omega)
  replace O_w0 := O_w0.below B_w4 (by omega)
  replace O_x0 := O_x0.below B_w4 (by omega)
  replace BB := BB.trans (B_w4.mono (by omega))
  go_wp2_with fail
  refine (eqPassS_same _ _ _ _ _ _ _ _ _ _ O_g0.rd O_w0.rd (by omega) (by omega) (by omega)).mono ?_
  rintro e w5 ⟨rfl, B_w5⟩
  have s_w5 := B_w5.size
  replace R_aList := R_aList.below B_w5 (by omega)
  replace HB_aP := HB_aP.below B_w5 (by omega)
  replace O_w0 := O_w0.below B_w5 (by omega)
  replace O_x0 := O_x0.below B_w5 (by omega)
  replace O_g0 := O_g0.below B_w5 (by omega)
  replace BB := BB.trans (B_w5.mono (by omega))
  go_wp2_with fail
  refine (toPassS_any _ _ _ _ _ _ R_aList (by omega) (by omega)).mono ?_
  rintro e w6 ⟨A_t1, c_t1, rfl, O_t1, B_w6⟩
  have s_w6 := B_w6.size
  replace R_aList := R_aList.below B_w6 (by omega)
  replace HB_aP := HB_aP.below B_w6 (by omega)
  replace O_w0 := O_w0.below B_w6 (by omega)
  replace O_x0 := O_x0.below B_w6 (by omega)
  replace O_g0 := O_g0.below B_w6 (by omega)
  replace BB := BB.trans (B_w6.mono (by omega))
  go_wp2_with fail
  refine (eqPassS_same _ _ _ _ _ _ _ _ _ _ O_x0.rd O_t1.rd (by omega) (by omega) (by omega)).mono ?_
  rintro e w7 ⟨rfl, B_w7⟩
  have s_w7 := B_w7.size
  replace R_aList := R_aList.below B_w7 (by omega)
  replace HB_aP := HB_aP.below B_w7 (by omega)
  replace O_w0 := O_w0.below B_w7 (by omega)
  replace O_x0 := O_x0.below B_w7 (by omega)
  replace O_g0 := O_g0.below B_w7 (by omega)
  replace O_t1 := O_t1.below B_w7 (by omega)
  replace BB := BB.trans (B_w7.mono (by omega))
  clear O_t1
  go_wp2_with fail
  refine (markPassS_any _ _ _ _ _ _ _ O_x0 (by omega) (by omega) (by omega)).mono ?_
  rintro e w8 ⟨rfl, M_x0, U_w8, z_w8⟩
  have s_w8 := U_w8.size
  replace R_aList := R_aList.only U_w8 (by omega) (by omega)
  replace HB_aP := HB_aP.only U_w8 (by omega) (by omega)
  replace O_w0 := O_w0.only U_w8 (by omega) (by omega)
  replace O_g0 := O_g0.only U_w8 (by omega) (by omega)
  replace BB := BB.trans ((U_w8.below (by omega)).mono (by omega))
  clear O_x0
  go_wp2_with fail
  refine (eqPassS_same _ _ _ _ _ _ _ _ _ _ O_g0.rd O_w0.rd (by omega) (by omega) (by omega)).mono ?_
  rintro e w9 ⟨rfl, B_w9⟩
  have s_w9 := B_w9.size
  replace R_aList := R_aList.below B_w9 (by omega)
  replace HB_aP := HB_aP.below B_w9 (by omega)
  replace O_w0 := O_w0.below B_w9 (by omega)
  replace M_x0 := M_x0.below B_w9 (by omega)
  replace O_g0 := O_g0.below B_w9 (by omega)
  replace BB := BB.trans (B_w9.mono (by omega))
  go_wp2_with fail
  refine (markPassS_any _ _ _ _ _ _ _ O_g0 (by omega) (by omega) (by omega)).mono ?_
  rintro e w10 ⟨rfl, M_g0, U_w10, z_w10⟩
  have s_w10 := U_w10.size
  replace R_aList := R_aList.only U_w10 (by omega) (by omega)
  replace HB_aP := HB_aP.only U_w10 (by omega) (by omega)
  replace O_w0 := O_w0.only U_w10 (by omega) (by omega)
  replace M_x0 := M_x0.only U_w10 (by omega) (by omega)
  replace BB := BB.trans ((U_w10.below (by omega)).mono (by omega))
  clear O_g0
  go_wp2_with fail
  refine (heldPassS_any _ _ _ _ _ _ _ M_g0.rd (by omega) (by omega) (by omega)).mono ?_
  rintro e w' ⟨rfl, rfl⟩
  go_upto_region 24 with fail
  obtain ⟨H_h0, hH_h0⟩ : ∃ H, H = w10.heap.size := ⟨_, rfl⟩
  go_cut [14, 15] (fun p0 p1 wy => ∃ A c, p0 = .slice A y0.length c ∧ p1 = .bool y1 ∧ Own wy 40 H_h0 wy.heap.size 6 A y0.length c (passCells y0) ∧ Below H_h0 w10 wy)
  case first => as_aux_lemma =>
    have HC : ∀ W, Below H_h0 w10 W → (W.cell? ⟨w.heap.size, 0, none⟩ = some (.int .i64 aP.ln) ∧ W.cell? ⟨w.heap.size, 1, none⟩ = some (.int .i64 aP.bg) ∧ W.cell? ⟨w.heap.size, 2, none⟩ = some (.int .i64 aP.en) ∧ W.cell? ⟨w.heap.size, 3, none⟩ = some (.int .i64 aP.pg) ∧ W.cell? ⟨w.heap.size, 4, none⟩ = some (.int .i64 aP.bd) ∧ W.cell? ⟨w.heap.size, 5, none⟩ = some (.int .i64 aP.cs)) := fun W hW => HB_aP.below hW (by omega)
    have RD : ∀ W, Below H_h0 w10 W → RdP W 0 w.heap.size A_aList aList := fun W hW => R_aList.below hW (by omega)
    have hHw : w.heap.size ≤ H_h0 := by omega
    have hHc : H_h0 ≤ w10.heap.size := by omega
    clear O_w0 M_x0 M_g0 hH_h0
    go_region_held3 (fun w' => (w'.cell? ⟨w.heap.size, 0, none⟩ = some (.int .i64 aP.ln) ∧ w'.cell? ⟨w.heap.size, 1, none⟩ = some (.int .i64 aP.bg) ∧ w'.cell? ⟨w.heap.size, 2, none⟩ = some (.int .i64 aP.en) ∧ w'.cell? ⟨w.heap.size, 3, none⟩ = some (.int .i64 aP.pg) ∧ w'.cell? ⟨w.heap.size, 4, none⟩ = some (.int .i64 aP.bd) ∧ w'.cell? ⟨w.heap.size, 5, none⟩ = some (.int .i64 aP.cs)) ∧ Below H_h0 w10 w')
      ((first | exact ⟨HC _ (Below.refl _ _).drew, (Below.refl _ _).drew⟩ | exact ⟨HC _ L3, L3⟩ | exact ⟨HC _ L2, L2⟩ | exact ⟨HC _ L1, L1⟩))
      ((first | (go_at_call 35; refine (iPutPass (A := A1) (c := c1) (ps := aList) (q := aP) (hi := v1.heap.size) (by first | exact O1.below B2 (Nat.le_refl _) | exact O1) (by omega) (by first | exact B2.size | exact Nat.le_refl _)).mono ?_; rintro e v3 h; rw [← HV.out.1, ← HV.out.2] at h; obtain ⟨A3, c3, rfl, O3, B3⟩ := h; have L3 := (show Below H_h0 w10 _ from Below.trans (by first | assumption | exact And.right (by assumption)) (B3.mono (Nat.le_trans hHc (show w10.heap.size ≤ _ from (show Below H_h0 w10 _ from (by first | assumption | exact And.right (by assumption))).size))))) | (go_at_call 26; refine (toPassS_any _ _ _ _ _ _ (RD _ (by first | assumption | exact And.right (by assumption))) (Nat.le_trans hHw (Nat.le_trans hHc (show Below H_h0 w10 _ from (by first | assumption | exact And.right (by assumption))).size)) (by omega)).mono ?_; rintro e v1 ⟨A1, c1, rfl, O1, B1⟩; have L1 := (show Below H_h0 w10 _ from Below.trans (by first | assumption | exact And.right (by assumption)) (B1.mono (Nat.le_trans hHc (show w10.heap.size ≤ _ from (show Below H_h0 w10 _ from (by first | assumption | exact And.right (by assumption))).size))))) | (go_at_call 34; refine (toPass_any aP _).mono ?_; rintro e v2 ⟨rfl, B2⟩; have L2 := (show Below H_h0 w10 _ from Below.trans (by first | assumption | exact And.right (by assumption)) (B2.mono (Nat.le_trans hHc (show w10.heap.size ≤ _ from (show Below H_h0 w10 _ from (by first | assumption | exact And.right (by assumption))).size)))))))
    all_goals
      have hO3 := Nat.le_trans hHc (show Below H_h0 w10 v3 from L3).size
      have hO1 := Nat.le_trans hHc (show Below H_h0 w10 v1 from L1).size
      have hO2 := Nat.le_trans hHc (show Below H_h0 w10 v2 from L2).size
      go_wp2_with fail
      go_meet
      exact ⟨A3, c3, rfl, rfl, O3.more (by omega) (Nat.le_refl _), L3⟩
  obtain ⟨w11, rfl⟩ : ∃ wz : World, wz = wc := ⟨_, rfl⟩
  obtain ⟨A_h0, c_h0, rfl, rfl, O_h0, B_w11⟩ := hcut
  rw [hH_h0] at O_h0 B_w11
  clear hH_h0
  have s_w11 := B_w11.size
  replace R_aList := R_aList.below B_w11 (by omega)
  replace HB_aP := HB_aP.below B_w11 (by omega)
  replace O_w0 := O_w0.below B_w11 (by omega)
  replace M_x0 := M_x0.below B_w11 (by omega)
  replace M_g0 := M_g0.below B_w11 (by omega)
  replace BB := BB.trans (B_w11.mono (by omega))
  go_wp2_with fail
  refine (eqPassS_same _ _ _ _ _ _ _ _ _ _ O_h0.rd O_w0.rd (by omega) (by omega) (by omega)).mono ?_
  rintro e w12 ⟨rfl, B_w12⟩
  have s_w12 := B_w12.size
  replace R_aList := R_aList.below B_w12 (by omega)
  replace HB_aP := HB_aP.below B_w12 (by omega)
  replace O_w0 := O_w0.below B_w12 (by omega)
  replace M_x0 := M_x0.below B_w12 (by omega)
  replace M_g0 := M_g0.below B_w12 (by omega)
  replace O_h0 := O_h0.below B_w12 (by omega)
  replace BB := BB.trans (B_w12.mono (by omega))
  go_wp2_with fail
  refine (heldPassS_any _ _ _ _ _ _ _ M_g0.rd (by omega) (by omega) (by omega)).mono ?_
  rintro e w' ⟨rfl, rfl⟩
  go_wp2_with fail
  go_ret
  exact ⟨rfl, BB⟩

end Go.Proofs.Ytaehfcdcdjlanaa
