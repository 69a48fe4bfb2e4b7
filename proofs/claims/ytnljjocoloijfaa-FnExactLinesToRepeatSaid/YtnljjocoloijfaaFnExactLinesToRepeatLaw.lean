/-
  This file proves the walk of the law 'FnExactLinesToRepeat': called with any arguments it returns true, and nothing that was in memory before has turned.
  Conditions: that the arguments read as data, as the row's frame hands them over.
-/
import Derived.Test.YtnljjocoloijfaaPassF
import Derived.Test.YtnljjocoloijfaaPassG
namespace Go.Proofs.Ytnljjocoloijfaa
open Go.RowKit
set_option linter.unusedSimpArgs false
set_option linter.unusedVariables false

set_option maxHeartbeats 1000000 in
theorem fnExactLinesToRepeat_walk (A_aList : Option Addr) (c_aList : Nat) (aList : List GPass) (A_aPlanned : Option Addr) (c_aPlanned : Nat) (aPlanned : List Int) (w : World) (R_aList : RdP w 0 w.heap.size A_aList aList) (f_aList : aList.length ≤ 9223372036854775807) (R_aPlanned : RdI w 0 w.heap.size A_aPlanned aPlanned) (f_aPlanned : ∀ n ∈ aPlanned, (Lit.int .i64 n).wf = true) :
    Calls Try.prog 8 #[.slice A_aList aList.length c_aList, .slice A_aPlanned aPlanned.length c_aPlanned] w fun e w' => e = .returned (.bool true) ∧ Below w.heap.size w w' := by
  by_cases h_aPlanned : 1048576 < aPlanned.length
  · go_enter Try.func8, Try.ntmps8
    go_wp2_with fail
    go_ret
    exact ⟨rfl, Below.refl _ _⟩
  have hl_aPlanned : aPlanned.length ≤ 1048576 := by omega
  clear h_aPlanned
  by_cases h_aList : 1048576 < aList.length
  · go_enter Try.func8, Try.ntmps8
    have HL := Lib.hid h_aList
    go_wp2_with (go_at_call 9; refine (szPassS_big aList (by omega) (by omega)).mono ?_; rintro e w1 ⟨rfl, rfl⟩)
    go_ret
    exact ⟨rfl, Below.refl _ _⟩
  have hl_aList : aList.length ≤ 1048576 := by omega
  clear h_aList
  obtain ⟨y0, y1, hv⟩ : ∃ y0 y1, y0 = (vLinesToRepeat aList aPlanned).1 ∧ y1 = (vLinesToRepeat aList aPlanned).2 := ⟨_, _, rfl, rfl⟩
  have hb0 : y0.length ≤ 1048576 := by have := vLinesToRepeat_len0 aList aPlanned; first | (rw [hv.1]; omega)
  have HV := Lib.hid hv
  clear hv
  go_enter Try.func8, Try.ntmps8
  go_wp2_with fail
  have q_aList : ¬ ((1048576 - (aList.length : Int)) < 0) := by omega
  refine (szPassS_small aList (by omega)).mono ?_
  rintro e w1 ⟨rfl, rfl⟩
  have BB : Below w.heap.size w w := Below.refl _ _
  go_wp2_with fail
  refine (toPassS_any _ _ _ _ _ _ R_aList (by omega) (by omega)).mono ?_
  rintro e w1 ⟨A_t1, c_t1, rfl, O_t1, B_w1⟩
  have s_w1 := B_w1.size
  replace R_aList := R_aList.below B_w1 (by omega)
  replace R_aPlanned := R_aPlanned.below B_w1 (by omega)
  replace BB := BB.trans (B_w1.mono (by omega))
  go_wp2_with fail
  refine (toIntS_any _ _ _ _ _ _ R_aPlanned (by omega) (by omega)).mono ?_
  rintro e w2 ⟨A_t2, c_t2, rfl, O_t2, B_w2⟩
  have s_w2 := B_w2.size
  replace R_aList := R_aList.below B_w2 (by omega)
  replace R_aPlanned := R_aPlanned.below B_w2 (by omega)
  replace O_t1 := O_t1.below B_w2 (by omega)
  replace BB := BB.trans (B_w2.mono (by omega))
  go_wp2_with fail
  refine (sLinesToRepeat O_t1.rd (by omega) (by omega) O_t2.rd (by omega) (by omega)).mono ?_
  rintro e w3 h
  rw [← HV.out.1, ← HV.out.2] at h
  obtain ⟨A_w0, c_w0, rfl, O_w0, B_w3⟩ := h
  have s_w3 := B_w3.size
  replace R_aList := R_aList.below B_w3 (by omega)
  replace R_aPlanned := R_aPlanned.below B_w3 (by omega)
  replace O_t1 := O_t1.below B_w3 (by omega)
  replace O_t2 := O_t2.below B_w3 (by omega)
  replace BB := BB.trans (B_w3.mono (by omega))
  clear O_t1
  clear O_t2
  go_wp2_with fail
  refine (toPassS_any _ _ _ _ _ _ R_aList (by omega) (by omega)).mono ?_
  rintro e w4 ⟨A_x0, c_x0, rfl, O_x0, B_w4⟩
  have s_w4 := B_w4.size
  replace R_aList := R_aList.below B_w4 (by omega)
  replace R_aPlanned := R_aPlanned.below B_w4 (by omega)
  replace O_w0 := O_w0.below B_w4 (by omega)
  replace BB := BB.trans (B_w4.mono (by omega))
  go_wp2_with fail
  refine (toIntS_any _ _ _ _ _ _ R_aPlanned (by omega) (by omega)).mono ?_
  rintro e w5 ⟨A_x1, c_x1, rfl, O_x1, B_w5⟩
  have s_w5 := B_w5.size
  replace R_aList := R_aList.below B_w5 (by omega)
  replace R_aPlanned := R_aPlanned.below B_w5 (by omega)
  replace O_w0 := O_w0.below B_w5 (by omega)
  replace O_x0 := O_x0.below B_w5 (by omega)
  replace BB := BB.trans (B_w5.mono (by omega))
  go_wp2_with fail
  refine (iLinesToRepeat O_x0.rd (by omega) (by omega) O_x1.rd (by omega) (by omega)).mono ?_
  rintro e w6 h
  rw [← HV.out.1, ← HV.out.2] at h
  obtain ⟨A_g0, c_g0, rfl, O_g0, B_w6⟩ := h
  have s_w6 := B_w6.size
  replace R_aList := R_aList.below B_w6 (by omega)
  replace R_aPlanned := R_aPlanned.below B_w6 (by omega)
  replace O_w0 := O_w0.below B_w6 (by omega)
  replace O_x0 := O_x0.below B_w6 (by omega)
  replace O_x1 := O_x1.below B_w6 (by omega)
  replace BB := BB.trans (B_w6.mono (by omega))
  go_wp2_with fail
  refine (eqIntS_same _ _ _ _ _ _ _ _ _ _ O_g0.rd O_w0.rd (by omega)).mono ?_
  rintro e w7 ⟨rfl, n_w7, hn_w7⟩
  have B_w7 := below_of_quiet (B := w6.heap.size) hn_w7
  clear hn_w7
  have s_w7 := B_w7.size
  replace R_aList := R_aList.below B_w7 (by omega)
  replace R_aPlanned := R_aPlanned.below B_w7 (by omega)
  replace O_w0 := O_w0.below B_w7 (by omega)
  replace O_x0 := O_x0.below B_w7 (by omega)
  replace O_x1 := O_x1.below B_w7 (by omega)
  replace O_g0 := O_g0.below B_w7 (by omega)
  replace BB := BB.trans (B_w7.mono (by omega))
  go_wp2_with fail
  refine (toPassS_any _ _ _ _ _ _ R_aList (by omega) (by omega)).mono ?_
  rintro e w8 ⟨A_t3, c_t3, rfl, O_t3, B_w8⟩
  have s_w8 := B_w8.size
  replace R_aList := R_aList.below B_w8 (by omega)
  replace R_aPlanned := R_aPlanned.below B_w8 (by omega)
  replace O_w0 := O_w0.below B_w8 (by omega)
  replace O_x0 := O_x0.below B_w8 (by omega)
  replace O_x1 := O_x1.below B_w8 (by omega)
  replace O_g0 := O_g0.below B_w8 (by omega)
  replace BB := BB.trans (B_w8.mono (by omega))
  go_wp2_with fail
  refine (eqPassS_same _ _ _ _ _ _ _ _ _ _ O_x0.rd O_t3.rd (by omega) (by omega) (by omega)).mono ?_
  rintro e w9 ⟨rfl, B_w9⟩
  have s_w9 := B_w9.size
  replace R_aList := R_aList.below B_w9 (by omega)
  replace R_aPlanned := R_aPlanned.below B_w9 (by omega)
  replace O_w0 := O_w0.below B_w9 (by omega)
  replace O_x0 := O_x0.below B_w9 (by omega)
  replace O_x1 := O_x1.below B_w9 (by omega)
  replace O_g0 := O_g0.below B_w9 (by omega)
  replace O_t3 := O_t3.below B_w9 (by omega)
  replace BB := BB.trans (B_w9.mono (by omega))
  clear O_t3
  go_wp2_with fail
  refine (toIntS_any _ _ _ _ _ _ R_aPlanned (by omega) (by omega)).mono ?_
  rintro e w10 ⟨A_t4, c_t4, rfl, O_t4, B_w10⟩
  have s_w10 := B_w10.size
  replace R_aList := R_aList.below B_w10 (by omega)
  replace R_aPlanned := R_aPlanned.below B_w10 (by omega)
  replace O_w0 := O_w0.below B_w10 (by omega)
  replace O_x0 := O_x0.below B_w10 (by omega)
  replace O_x1 := O_x1.below B_w10 (by omega)
  replace O_g0 := O_g0.below B_w10 (by omega)
  replace BB := BB.trans (B_w10.mono (by omega))
  go_wp2_with fail
  refine (eqIntS_same _ _ _ _ _ _ _ _ _ _ O_x1.rd O_t4.rd (by omega)).mono ?_
  rintro e w11 ⟨rfl, n_w11, hn_w11⟩
  have B_w11 := below_of_quiet (B := w10.heap.size) hn_w11
  clear hn_w11
  have s_w11 := B_w11.size
  replace R_aList := R_aList.below B_w11 (by omega)
  replace R_aPlanned := R_aPlanned.below B_w11 (by omega)
  replace O_w0 := O_w0.below B_w11 (by omega)
  replace O_x0 := O_x0.below B_w11 (by omega)
  replace O_x1 := O_x1.below B_w11 (by omega)
  replace O_g0 := O_g0.below B_w11 (by omega)
  replace O_t4 := O_t4.below B_w11 (by omega)
  replace BB := BB.trans (B_w11.mono (by omega))
  clear O_t4
  go_wp2_with fail
  refine (markPassS_any _ _ _ _ _ _ _ O_x0 (by omega) (by omega) (by omega)).mono ?_
  rintro e w12 ⟨rfl, M_x0, U_w12, z_w12⟩
  have s_w12 := U_w12.size
  replace R_aList := R_aList.only U_w12 (by omega) (by omega)
  replace R_aPlanned := R_aPlanned.only U_w12 (by omega) (by omega)
  replace O_w0 := O_w0.only U_w12 (by omega) (by omega)
  replace O_x1 := O_x1.only U_w12 (by omega) (by omega)
  replace O_g0 := O_g0.only U_w12 (by omega) (by omega)
  replace BB := BB.trans ((U_w12.below (by omega)).mono (by omega))
  clear O_x0
  go_wp2_with fail
  refine (markIntS_any _ _ _ _ _ _ _ O_x1 (by omega) (by omega) (by omega)).mono ?_
  rintro e w13 ⟨rfl, M_x1, U_w13, z_w13⟩
  have s_w13 := U_w13.size
  replace R_aList := R_aList.only U_w13 (by omega) (by omega)
  replace R_aPlanned := R_aPlanned.only U_w13 (by omega) (by omega)
  replace O_w0 := O_w0.only U_w13 (by omega) (by omega)
  replace M_x0 := M_x0.only U_w13 (by omega) (by omega)
  replace O_g0 := O_g0.only U_w13 (by omega) (by omega)
  replace BB := BB.trans ((U_w13.below (by omega)).mono (by omega))
  clear O_x1
  go_wp2_with fail
  refine (eqIntS_same _ _ _ _ _ _ _ _ _ _ O_g0.rd O_w0.rd (by omega)).mono ?_
  rintro e w14 ⟨rfl, n_w14, hn_w14⟩
  have B_w14 := below_of_quiet (B := w13.heap.size) hn_w14
  clear hn_w14
  have s_w14 := B_w14.size
  replace R_aList := R_aList.below B_w14 (by omega)
  replace R_aPlanned := R_aPlanned.below B_w14 (by omega)
  replace O_w0 := O_w0.below B_w14 (by omega)
  replace M_x0 := M_x0.below B_w14 (by omega)
  replace M_x1 := M_x1.below B_w14 (by omega)
  replace O_g0 := O_g0.below B_w14 (by omega)
  replace BB := BB.trans (B_w14.mono (by omega))
  go_wp2_with fail
  refine (markIntS_any _ _ _ _ _ _ _ O_g0 (by omega) (by omega) (by omega)).mono ?_
  rintro e w15 ⟨rfl, M_g0, U_w15, z_w15⟩
  have s_w15 := U_w15.size
  replace R_aList := R_aList.only U_w15 (by omega) (by omega)
  replace R_aPlanned := R_aPlanned.only U_w15 (by omega) (by omega)
  replace O_w0 := O_w0.only U_w15 (by omega) (by omega)
  replace M_x0 := M_x0.only U_w15 (by omega) (by omega)
  replace M_x1 := M_x1.only U_w15 (by omega) (by omega)
  replace BB := BB.trans ((U_w15.below (by omega)).mono (by omega))
  clear O_g0
  go_wp2_with fail
  refine (heldIntS_any _ _ _ _ _ _ _ M_g0.rd (by omega) (by omega) (by omega)).mono ?_
  rintro e w' ⟨rfl, rfl⟩
  go_wp2_with fail
  refine (toPassS_any _ _ _ _ _ _ R_aList (by omega) (by omega)).mono ?_
  rintro e w16 ⟨A_t5, c_t5, rfl, O_t5, B_w16⟩
  have s_w16 := B_w16.size
  replace R_aList := R_aList.below B_w16 (by omega)
  replace R_aPlanned := R_aPlanned.below B_w16 (by omega)
  replace O_w0 := O_w0.below B_w16 (by omega)
  replace M_x0 := M_x0.below B_w16 (by omega)
  replace M_x1 := M_x1.below B_w16 (by omega)
  replace M_g0 := M_g0.below B_w16 (by omega)
  replace BB := BB.trans (B_w16.mono (by omega))
  go_wp2_with fail
  refine (toIntS_any _ _ _ _ _ _ R_aPlanned (by omega) (by omega)).mono ?_
  rintro e w17 ⟨A_t6, c_t6, rfl, O_t6, B_w17⟩
  have s_w17 := B_w17.size
  replace R_aList := R_aList.below B_w17 (by omega)
  replace R_aPlanned := R_aPlanned.below B_w17 (by omega)
  replace O_w0 := O_w0.below B_w17 (by omega)
  replace M_x0 := M_x0.below B_w17 (by omega)
  replace M_x1 := M_x1.below B_w17 (by omega)
  replace M_g0 := M_g0.below B_w17 (by omega)
  replace O_t5 := O_t5.below B_w17 (by omega)
  replace BB := BB.trans (B_w17.mono (by omega))
  go_wp2_with fail
  refine (iLinesToRepeat O_t5.rd (by omega) (by omega) O_t6.rd (by omega) (by omega)).mono ?_
  rintro e w18 h
  rw [← HV.out.1, ← HV.out.2] at h
  obtain ⟨A_h0, c_h0, rfl, O_h0, B_w18⟩ := h
  have s_w18 := B_w18.size
  replace R_aList := R_aList.below B_w18 (by omega)
  replace R_aPlanned := R_aPlanned.below B_w18 (by omega)
  replace O_w0 := O_w0.below B_w18 (by omega)
  replace M_x0 := M_x0.below B_w18 (by omega)
  replace M_x1 := M_x1.below B_w18 (by omega)
  replace M_g0 := M_g0.below B_w18 (by omega)
  replace O_t5 := O_t5.below B_w18 (by omega)
  replace O_t6 := O_t6.below B_w18 (by omega)
  replace BB := BB.trans (B_w18.mono (by omega))
  clear O_t5
  clear O_t6
  go_wp2_with fail
  refine (eqIntS_same _ _ _ _ _ _ _ _ _ _ O_h0.rd O_w0.rd (by omega)).mono ?_
  rintro e w19 ⟨rfl, n_w19, hn_w19⟩
  have B_w19 := below_of_quiet (B := w18.heap.size) hn_w19
  clear hn_w19
  have s_w19 := B_w19.size
  replace R_aList := R_aList.below B_w19 (by omega)
  replace R_aPlanned := R_aPlanned.below B_w19 (by omega)
  replace O_w0 := O_w0.below B_w19 (by omega)
  replace M_x0 := M_x0.below B_w19 (by omega)
  replace M_x1 := M_x1.below B_w19 (by omega)
  replace M_g0 := M_g0.below B_w19 (by omega)
  replace O_h0 := O_h0.below B_w19 (by omega)
  replace BB := BB.trans (B_w19.mono (by omega))
  go_wp2_with fail
  refine (heldIntS_any _ _ _ _ _ _ _ M_g0.rd (by omega) (by omega) (by omega)).mono ?_
  rintro e w' ⟨rfl, rfl⟩
  go_wp2_with fail
  go_ret
  exact ⟨rfl, BB⟩

end Go.Proofs.Ytnljjocoloijfaa
