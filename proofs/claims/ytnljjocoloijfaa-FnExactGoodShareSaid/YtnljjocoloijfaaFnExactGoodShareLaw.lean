/-
  This file proves the walk of the law 'FnExactGoodShare': called with any arguments it returns true, and nothing that was in memory before has turned.
  Conditions: that the arguments read as data, as the row's frame hands them over.
-/
import Derived.Test.YtnljjocoloijfaaPassE
namespace Go.Proofs.Ytnljjocoloijfaa
open Go.RowKit
set_option linter.unusedSimpArgs false
set_option linter.unusedVariables false

set_option maxHeartbeats 1000000 in
theorem fnExactGoodShare_walk (A_aList : Option Addr) (c_aList : Nat) (aList : List GPass) (aLine : Int) (w : World) (R_aList : RdP w 0 w.heap.size A_aList aList) (f_aList : aList.length ≤ 9223372036854775807) (f_aLine : (Lit.int .i64 aLine).wf = true) :
    Calls Try.prog 7 #[.slice A_aList aList.length c_aList, .int .i64 aLine] w fun e w' => e = .returned (.bool true) ∧ Below w.heap.size w w' := by
  by_cases h_aList : 1048576 < aList.length
  · go_enter Try.func7, Try.ntmps7
    have HL := Lib.hid h_aList
    go_wp2_with (go_at_call 9; refine (szPassS_big aList (by omega) (by omega)).mono ?_; rintro e w1 ⟨rfl, rfl⟩)
    go_ret
    exact ⟨rfl, Below.refl _ _⟩
  have hl_aList : aList.length ≤ 1048576 := by omega
  clear h_aList
  obtain ⟨y0, y1, y2, hv⟩ : ∃ y0 y1 y2, y0 = (vGoodShare aList aLine).1 ∧ y1 = (vGoodShare aList aLine).2.1 ∧ y2 = (vGoodShare aList aLine).2.2 := ⟨_, _, _, rfl, rfl, rfl⟩
  have HV := Lib.hid hv
  clear hv
  go_enter Try.func7, Try.ntmps7
  go_wp2_with fail
  have q_aList : ¬ ((1048576 - (aList.length : Int)) < 0) := by omega
  refine (szPassS_small aList (by omega)).mono ?_
  rintro e w1 ⟨rfl, rfl⟩
  have BB : Below w.heap.size w w := Below.refl _ _
  go_wp2_with fail
  refine (toPassS_any _ _ _ _ _ _ R_aList (by omega) (by omega)).mono ?_
  rintro e w1 ⟨A_t1, c_t1, rfl, O_t1, B_w1⟩
  have s_w1 := B_w1.size
  replace R_aList := R_aList.below B_w1 (by omega)
  replace BB := BB.trans (B_w1.mono (by omega))
  go_wp2_with fail
  refine (sGoodShare O_t1.rd (by omega) (by omega)).mono ?_
  rintro e w2 h
  rw [← HV.out.1, ← HV.out.2.1, ← HV.out.2.2] at h
  obtain ⟨rfl, B_w2⟩ := h
  have s_w2 := B_w2.size
  replace R_aList := R_aList.below B_w2 (by omega)
  replace O_t1 := O_t1.below B_w2 (by omega)
  replace BB := BB.trans (B_w2.mono (by omega))
  clear O_t1
  go_wp2_with fail
  refine (toPassS_any _ _ _ _ _ _ R_aList (by omega) (by omega)).mono ?_
  rintro e w3 ⟨A_x0, c_x0, rfl, O_x0, B_w3⟩
  have s_w3 := B_w3.size
  replace R_aList := R_aList.below B_w3 (by omega)
  replace BB := BB.trans (B_w3.mono (by omega))
  go_wp2_with fail
  refine (iGoodShare O_x0.rd (by omega) (by omega)).mono ?_
  rintro e w4 h
  rw [← HV.out.1, ← HV.out.2.1, ← HV.out.2.2] at h
  obtain ⟨rfl, B_w4⟩ := h
  have s_w4 := B_w4.size
  replace R_aList := R_aList.below B_w4 (by omega)
  replace O_x0 := O_x0.below B_w4 (by omega)
  replace BB := BB.trans (B_w4.mono (by omega))
  go_wp2_with fail
  refine (toPassS_any _ _ _ _ _ _ R_aList (by omega) (by omega)).mono ?_
  rintro e w5 ⟨A_t2, c_t2, rfl, O_t2, B_w5⟩
  have s_w5 := B_w5.size
  replace R_aList := R_aList.below B_w5 (by omega)
  replace O_x0 := O_x0.below B_w5 (by omega)
  replace BB := BB.trans (B_w5.mono (by omega))
  go_wp2_with fail
  refine (eqPassS_same _ _ _ _ _ _ _ _ _ _ O_x0.rd O_t2.rd (by omega) (by omega) (by omega)).mono ?_
  rintro e w6 ⟨rfl, B_w6⟩
  have s_w6 := B_w6.size
  replace R_aList := R_aList.below B_w6 (by omega)
  replace O_x0 := O_x0.below B_w6 (by omega)
  replace O_t2 := O_t2.below B_w6 (by omega)
  replace BB := BB.trans (B_w6.mono (by omega))
  clear O_t2
  go_wp2_with fail
  go_ret
  exact ⟨rfl, BB⟩

end Go.Proofs.Ytnljjocoloijfaa
