/-
  This file proves the walk of the law 'FnExactHypothesesOf': called with any arguments it returns true, and nothing that was in memory before has turned.
  Conditions: that the arguments read as data, as the row's frame hands them over.
-/
import Derived.Test.YtiaabojkimboiaaHypD
import Derived.Test.YtiaabojkimboiaaHeldHypothesis
namespace Go.Proofs.Ytiaabojkimboiaa
open Go.RowKit
set_option linter.unusedSimpArgs false
set_option linter.unusedVariables false

set_option maxHeartbeats 1000000 in
theorem fnExactHypothesesOf_walk (A_aVotes : Option Addr) (c_aVotes : Nat) (aVotes : List Int) (aWidth : Int) (w : World) (R_aVotes : RdI w 0 w.heap.size A_aVotes aVotes) (f_aVotes : ∀ n ∈ aVotes, (Lit.int .i64 n).wf = true) (f_aWidth : (Lit.int .i64 aWidth).wf = true) :
    Calls Try.prog 5 #[.slice A_aVotes aVotes.length c_aVotes, .int .i64 aWidth] w fun e w' => e = .returned (.bool true) ∧ Below w.heap.size w w' := by
  by_cases h_aVotes : 1048576 < aVotes.length
  · go_enter Try.func5, Try.ntmps5
    go_wp2_with fail
    go_ret
    exact ⟨rfl, Below.refl _ _⟩
  have hl_aVotes : aVotes.length ≤ 1048576 := by omega
  clear h_aVotes
  obtain ⟨y0, y1, hv⟩ : ∃ y0 y1, y0 = (vHypothesesOf aVotes aWidth).1 ∧ y1 = (vHypothesesOf aVotes aWidth).2 := ⟨_, _, rfl, rfl⟩
  have hb0 : y0.length ≤ 1048576 := by have := vHypothesesOf_len0 aVotes aWidth; first | (rw [hv.1]; omega)
  have HV := Lib.hid hv
  clear hv
  go_enter Try.func5, Try.ntmps5
  have BB : Below w.heap.size w w := Below.refl _ _
  go_wp2_with fail
  refine (toIntS_any _ _ _ _ _ _ R_aVotes (by omega) (by omega)).mono ?_
  rintro e w1 ⟨A_t1, c_t1, rfl, O_t1, B_w1⟩
  have s_w1 := B_w1.size
  replace R_aVotes := R_aVotes.below B_w1 (by omega)
  replace BB := BB.trans (B_w1.mono (by omega))
  go_wp2_with fail
  refine (sHypothesesOf O_t1.rd (by omega) (by omega)).mono ?_
  rintro e w2 h
  rw [← HV.out.1, ← HV.out.2] at h
  obtain ⟨A_w0, c_w0, rfl, O_w0, B_w2⟩ := h
  have s_w2 := B_w2.size
  replace R_aVotes := R_aVotes.below B_w2 (by omega)
  replace O_t1 := O_t1.below B_w2 (by omega)
  replace BB := BB.trans (B_w2.mono (by omega))
  clear O_t1
  go_wp2_with fail
  refine (toIntS_any _ _ _ _ _ _ R_aVotes (by omega) (by omega)).mono ?_
  rintro e w3 ⟨A_x0, c_x0, rfl, O_x0, B_w3⟩
  have s_w3 := B_w3.size
  replace R_aVotes := R_aVotes.below B_w3 (by omega)
  replace O_w0 := O_w0.below B_w3 (by omega)
  replace BB := BB.trans (B_w3.mono (by omega))
  go_wp2_with fail
  refine (iHypothesesOf O_x0.rd (by omega) (by omega)).mono ?_
  rintro e w4 h
  rw [← HV.out.1, ← HV.out.2] at h
  obtain ⟨A_g0, c_g0, rfl, O_g0, B_w4⟩ := h
  have s_w4 := B_w4.size
  replace R_aVotes := R_aVotes.below B_w4 (by omega)
  replace O_w0 := O_w0.below B_w4 (by omega)
  replace O_x0 := O_x0.below B_w4 (by omega)
  replace BB := BB.trans (B_w4.mono (by omega))
  go_wp2_with fail
  refine (eqHypothesisS_same _ _ _ _ _ _ _ _ _ _ O_g0.rd O_w0.rd (by omega) (by omega) (by omega)).mono ?_
  rintro e w5 ⟨rfl, B_w5⟩
  have s_w5 := B_w5.size
  replace R_aVotes := R_aVotes.below B_w5 (by omega)
  replace O_w0 := O_w0.below B_w5 (by omega)
  replace O_x0 := O_x0.below B_w5 (by omega)
  replace O_g0 := O_g0.below B_w5 (by omega)
  replace BB := BB.trans (B_w5.mono (by omega))
  go_wp2_with fail
  refine (toIntS_any _ _ _ _ _ _ R_aVotes (by omega) (by omega)).mono ?_
  rintro e w6 ⟨A_t2, c_t2, rfl, O_t2, B_w6⟩
  have s_w6 := B_w6.size
  replace R_aVotes := R_aVotes.below B_w6 (by omega)
  replace O_w0 := O_w0.below B_w6 (by omega)
  replace O_x0 := O_x0.below B_w6 (by omega)
  replace O_g0 := O_g0.below B_w6 (by omega)
  replace BB := BB.trans (B_w6.mono (by omega))
  go_wp2_with fail
  refine (eqIntS_same _ _ _ _ _ _ _ _ _ _ O_x0.rd O_t2.rd (by omega)).mono ?_
  rintro e w7 ⟨rfl, n_w7, hn_w7⟩
  have B_w7 := below_of_quiet (B := w6.heap.size) hn_w7
  clear hn_w7
  have s_w7 := B_w7.size
  replace R_aVotes := R_aVotes.below B_w7 (by omega)
  replace O_w0 := O_w0.below B_w7 (by omega)
  replace O_x0 := O_x0.below B_w7 (by omega)
  replace O_g0 := O_g0.below B_w7 (by omega)
  replace O_t2 := O_t2.below B_w7 (by omega)
  replace BB := BB.trans (B_w7.mono (by omega))
  clear O_t2
  go_wp2_with fail
  refine (markIntS_any _ _ _ _ _ _ _ O_x0 (by omega) (by omega) (by omega)).mono ?_
  rintro e w8 ⟨rfl, M_x0, U_w8, z_w8⟩
  have s_w8 := U_w8.size
  replace R_aVotes := R_aVotes.only U_w8 (by omega) (by omega)
  replace O_w0 := O_w0.only U_w8 (by omega) (by omega)
  replace O_g0 := O_g0.only U_w8 (by omega) (by omega)
  replace BB := BB.trans ((U_w8.below (by omega)).mono (by omega))
  clear O_x0
  go_wp2_with fail
  refine (eqHypothesisS_same _ _ _ _ _ _ _ _ _ _ O_g0.rd O_w0.rd (by omega) (by omega) (by omega)).mono ?_
  rintro e w9 ⟨rfl, B_w9⟩
  have s_w9 := B_w9.size
  replace R_aVotes := R_aVotes.below B_w9 (by omega)
  replace O_w0 := O_w0.below B_w9 (by omega)
  replace M_x0 := M_x0.below B_w9 (by omega)
  replace O_g0 := O_g0.below B_w9 (by omega)
  replace BB := BB.trans (B_w9.mono (by omega))
  go_wp2_with fail
  refine (markHypothesisS_any _ _ _ _ _ _ _ O_g0 (by omega) (by omega) (by omega)).mono ?_
  rintro e w10 ⟨rfl, M_g0, U_w10, z_w10⟩
  have s_w10 := U_w10.size
  replace R_aVotes := R_aVotes.only U_w10 (by omega) (by omega)
  replace O_w0 := O_w0.only U_w10 (by omega) (by omega)
  replace M_x0 := M_x0.only U_w10 (by omega) (by omega)
  replace BB := BB.trans ((U_w10.below (by omega)).mono (by omega))
  clear O_g0
  go_wp2_with fail
  refine (heldHypothesisS_any _ _ _ _ _ _ _ M_g0.rd (by omega) (by omega) (by omega)).mono ?_
  rintro e w' ⟨rfl, rfl⟩
  go_wp2_with fail
  refine (toIntS_any _ _ _ _ _ _ R_aVotes (by omega) (by omega)).mono ?_
  rintro e w11 ⟨A_t3, c_t3, rfl, O_t3, B_w11⟩
  have s_w11 := B_w11.size
  replace R_aVotes := R_aVotes.below B_w11 (by omega)
  replace O_w0 := O_w0.below B_w11 (by omega)
  replace M_x0 := M_x0.below B_w11 (by omega)
  replace M_g0 := M_g0.below B_w11 (by omega)
  replace BB := BB.trans (B_w11.mono (by omega))
  go_wp2_with fail
  refine (iHypothesesOf O_t3.rd (by omega) (by omega)).mono ?_
  rintro e w12 h
  rw [← HV.out.1, ← HV.out.2] at h
  obtain ⟨A_h0, c_h0, rfl, O_h0, B_w12⟩ := h
  have s_w12 := B_w12.size
  replace R_aVotes := R_aVotes.below B_w12 (by omega)
  replace O_w0 := O_w0.below B_w12 (by omega)
  replace M_x0 := M_x0.below B_w12 (by omega)
  replace M_g0 := M_g0.below B_w12 (by omega)
  replace O_t3 := O_t3.below B_w12 (by omega)
  replace BB := BB.trans (B_w12.mono (by omega))
  clear O_t3
  go_wp2_with fail
  refine (eqHypothesisS_same _ _ _ _ _ _ _ _ _ _ O_h0.rd O_w0.rd (by omega) (by omega) (by omega)).mono ?_
  rintro e w13 ⟨rfl, B_w13⟩
  have s_w13 := B_w13.size
  replace R_aVotes := R_aVotes.below B_w13 (by omega)
  replace O_w0 := O_w0.below B_w13 (by omega)
  replace M_x0 := M_x0.below B_w13 (by omega)
  replace M_g0 := M_g0.below B_w13 (by omega)
  replace O_h0 := O_h0.below B_w13 (by omega)
  replace BB := BB.trans (B_w13.mono (by omega))
  go_wp2_with fail
  refine (heldHypothesisS_any _ _ _ _ _ _ _ M_g0.rd (by omega) (by omega) (by omega)).mono ?_
  rintro e w' ⟨rfl, rfl⟩
  go_wp2_with fail
  go_ret
  exact ⟨rfl, BB⟩

end Go.Proofs.Ytiaabojkimboiaa
