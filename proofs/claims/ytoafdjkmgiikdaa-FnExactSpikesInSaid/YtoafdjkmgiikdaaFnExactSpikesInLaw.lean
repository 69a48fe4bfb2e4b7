/-
  This file proves the walk of the law 'FnExactSpikesIn': called with any arguments it returns true, and nothing that was in memory before has turned.
  Conditions: that the arguments read as data, as the row's frame hands them over.
-/
import Derived.Test.YtoafdjkmgiikdaaTrackF
namespace Go.Proofs.Ytoafdjkmgiikdaa
open Go.RowKit
set_option linter.unusedSimpArgs false
set_option linter.unusedVariables false

set_option maxHeartbeats 1000000 in
theorem fnExactSpikesIn_walk (A_aTrack : Option Addr) (c_aTrack : Nat) (aTrack : List Int) (aLimit : Int) (w : World) (R_aTrack : RdI w 0 w.heap.size A_aTrack aTrack) (f_aTrack : ∀ n ∈ aTrack, (Lit.int .i64 n).wf = true) (f_aLimit : (Lit.int .i64 aLimit).wf = true) :
    Calls Try.prog 8 #[.slice A_aTrack aTrack.length c_aTrack, .int .i64 aLimit] w fun e w' => e = .returned (.bool true) ∧ Below w.heap.size w w' := by
  by_cases h_aTrack : 1048576 < aTrack.length
  · go_enter Try.func8, Try.ntmps8
    go_wp2_with fail
    go_ret
    exact ⟨rfl, Below.refl _ _⟩
  have hl_aTrack : aTrack.length ≤ 1048576 := by omega
  clear h_aTrack
  obtain ⟨y0, y1, y2, hv⟩ : ∃ y0 y1 y2, y0 = (vSpikesIn aTrack aLimit).1 ∧ y1 = (vSpikesIn aTrack aLimit).2.1 ∧ y2 = (vSpikesIn aTrack aLimit).2.2 := ⟨_, _, _, rfl, rfl, rfl⟩
  have hb0 : y0.length ≤ 1048576 := by have := vSpikesIn_len0 aTrack aLimit; first | (rw [hv.1]; omega)
  have hb1 : y1.length ≤ 1048576 := by have := vSpikesIn_len1 aTrack aLimit; first | (rw [hv.2.1]; omega)
  have HV := Lib.hid hv
  clear hv
  go_enter Try.func8, Try.ntmps8
  have BB : Below w.heap.size w w := Below.refl _ _
  go_wp2_with fail
  refine (toIntS_any _ _ _ _ _ _ R_aTrack (by omega) (by omega)).mono ?_
  rintro e w1 ⟨A_t1, c_t1, rfl, O_t1, B_w1⟩
  have s_w1 := B_w1.size
  replace R_aTrack := R_aTrack.below B_w1 (by omega)
  replace BB := BB.trans (B_w1.mono (by omega))
  go_wp2_with fail
  refine (sSpikesIn O_t1.rd (by omega) (by omega)).mono ?_
  rintro e w2 h
  rw [← HV.out.1, ← HV.out.2.1, ← HV.out.2.2] at h
  obtain ⟨A_w0, c_w0, A_w1, c_w1, l1_w2, h1_w2, l2_w2, h2_w2, rfl, O_w0, O_w1, i1_w2, i1b_w2, i2_w2, i3_w2, i3b_w2, i4_w2, i5_w2, B_w2⟩ := h
  have s_w2 := B_w2.size
  replace R_aTrack := R_aTrack.below B_w2 (by omega)
  replace O_t1 := O_t1.below B_w2 (by omega)
  replace BB := BB.trans (B_w2.mono (by omega))
  clear O_t1
  go_wp2_with fail
  refine (toIntS_any _ _ _ _ _ _ R_aTrack (by omega) (by omega)).mono ?_
  rintro e w3 ⟨A_x0, c_x0, rfl, O_x0, B_w3⟩
  have s_w3 := B_w3.size
  replace R_aTrack := R_aTrack.below B_w3 (by omega)
  replace O_w0 := O_w0.below B_w3 (by omega)
  replace O_w1 := O_w1.below B_w3 (by omega)
  replace BB := BB.trans (B_w3.mono (by omega))
  go_wp2_with fail
  refine (iSpikesIn O_x0.rd (by omega) (by omega)).mono ?_
  rintro e w4 h
  rw [← HV.out.1, ← HV.out.2.1, ← HV.out.2.2] at h
  obtain ⟨A_g0, c_g0, A_g1, c_g1, l1_w4, h1_w4, l2_w4, h2_w4, rfl, O_g0, O_g1, i1_w4, i1b_w4, i2_w4, i3_w4, i3b_w4, i4_w4, i5_w4, B_w4⟩ := h
  have s_w4 := B_w4.size
  replace R_aTrack := R_aTrack.below B_w4 (by omega)
  replace O_w0 := O_w0.below B_w4 (by omega)
  replace O_w1 := O_w1.below B_w4 (by omega)
  replace O_x0 := O_x0.below B_w4 (by omega)
  replace BB := BB.trans (B_w4.mono (by omega))
  go_wp2_with fail
  refine (eqIntS_same _ _ _ _ _ _ _ _ _ _ O_g0.rd O_w0.rd (by omega)).mono ?_
  rintro e w5 ⟨rfl, n_w5, hn_w5⟩
  have B_w5 := below_of_quiet (B := w4.heap.size) hn_w5
  clear hn_w5
  have s_w5 := B_w5.size
  replace R_aTrack := R_aTrack.below B_w5 (by omega)
  replace O_w0 := O_w0.below B_w5 (by omega)
  replace O_w1 := O_w1.below B_w5 (by omega)
  replace O_x0 := O_x0.below B_w5 (by omega)
  replace O_g0 := O_g0.below B_w5 (by omega)
  replace O_g1 := O_g1.below B_w5 (by omega)
  replace BB := BB.trans (B_w5.mono (by omega))
  go_wp2_with fail
  refine (eqIntS_same _ _ _ _ _ _ _ _ _ _ O_g1.rd O_w1.rd (by omega)).mono ?_
  rintro e w6 ⟨rfl, n_w6, hn_w6⟩
  have B_w6 := below_of_quiet (B := w5.heap.size) hn_w6
  clear hn_w6
  have s_w6 := B_w6.size
  replace R_aTrack := R_aTrack.below B_w6 (by omega)
  replace O_w0 := O_w0.below B_w6 (by omega)
  replace O_w1 := O_w1.below B_w6 (by omega)
  replace O_x0 := O_x0.below B_w6 (by omega)
  replace O_g0 := O_g0.below B_w6 (by omega)
  replace O_g1 := O_g1.below B_w6 (by omega)
  replace BB := BB.trans (B_w6.mono (by omega))
  go_wp2_with fail
  refine (toIntS_any _ _ _ _ _ _ R_aTrack (by omega) (by omega)).mono ?_
  rintro e w7 ⟨A_t2, c_t2, rfl, O_t2, B_w7⟩
  have s_w7 := B_w7.size
  replace R_aTrack := R_aTrack.below B_w7 (by omega)
  replace O_w0 := O_w0.below B_w7 (by omega)
  replace O_w1 := O_w1.below B_w7 (by omega)
  replace O_x0 := O_x0.below B_w7 (by omega)
  replace O_g0 := O_g0.below B_w7 (by omega)
  replace O_g1 := O_g1.below B_w7 (by omega)
  replace BB := BB.trans (B_w7.mono (by omega))
  go_wp2_with fail
  refine (eqIntS_same _ _ _ _ _ _ _ _ _ _ O_x0.rd O_t2.rd (by omega)).mono ?_
  rintro e w8 ⟨rfl, n_w8, hn_w8⟩
  have B_w8 := below_of_quiet (B := w7.heap.size) hn_w8
  clear hn_w8
  have s_w8 := B_w8.size
  replace R_aTrack := R_aTrack.below B_w8 (by omega)
  replace O_w0 := O_w0.below B_w8 (by omega)
  replace O_w1 := O_w1.below B_w8 (by omega)
  replace O_x0 := O_x0.below B_w8 (by omega)
  replace O_g0 := O_g0.below B_w8 (by omega)
  replace O_g1 := O_g1.below B_w8 (by omega)
  replace O_t2 := O_t2.below B_w8 (by omega)
  replace BB := BB.trans (B_w8.mono (by omega))
  clear O_t2
  go_wp2_with fail
  refine (markIntS_any _ _ _ _ _ _ _ O_x0 (by omega) (by omega) (by omega)).mono ?_
  rintro e w9 ⟨rfl, M_x0, U_w9, z_w9⟩
  have s_w9 := U_w9.size
  replace R_aTrack := R_aTrack.only U_w9 (by omega) (by omega)
  replace O_w0 := O_w0.only U_w9 (by omega) (by omega)
  replace O_w1 := O_w1.only U_w9 (by omega) (by omega)
  replace O_g0 := O_g0.only U_w9 (by omega) (by omega)
  replace O_g1 := O_g1.only U_w9 (by omega) (by omega)
  replace BB := BB.trans ((U_w9.below (by omega)).mono (by omega))
  clear O_x0
  go_wp2_with fail
  refine (eqIntS_same _ _ _ _ _ _ _ _ _ _ O_g0.rd O_w0.rd (by omega)).mono ?_
  rintro e w10 ⟨rfl, n_w10, hn_w10⟩
  have B_w10 := below_of_quiet (B := w9.heap.size) hn_w10
  clear hn_w10
  have s_w10 := B_w10.size
  replace R_aTrack := R_aTrack.below B_w10 (by omega)
  replace O_w0 := O_w0.below B_w10 (by omega)
  replace O_w1 := O_w1.below B_w10 (by omega)
  replace M_x0 := M_x0.below B_w10 (by omega)
  replace O_g0 := O_g0.below B_w10 (by omega)
  replace O_g1 := O_g1.below B_w10 (by omega)
  replace BB := BB.trans (B_w10.mono (by omega))
  go_wp2_with fail
  refine (eqIntS_same _ _ _ _ _ _ _ _ _ _ O_g1.rd O_w1.rd (by omega)).mono ?_
  rintro e w11 ⟨rfl, n_w11, hn_w11⟩
  have B_w11 := below_of_quiet (B := w10.heap.size) hn_w11
  clear hn_w11
  have s_w11 := B_w11.size
  replace R_aTrack := R_aTrack.below B_w11 (by omega)
  replace O_w0 := O_w0.below B_w11 (by omega)
  replace O_w1 := O_w1.below B_w11 (by omega)
  replace M_x0 := M_x0.below B_w11 (by omega)
  replace O_g0 := O_g0.below B_w11 (by omega)
  replace O_g1 := O_g1.below B_w11 (by omega)
  replace BB := BB.trans (B_w11.mono (by omega))
  go_wp2_with fail
  refine (markIntS_any _ _ _ _ _ _ _ O_g0 (by omega) (by omega) (by omega)).mono ?_
  rintro e w12 ⟨rfl, M_g0, U_w12, z_w12⟩
  have s_w12 := U_w12.size
  replace R_aTrack := R_aTrack.only U_w12 (by omega) (by omega)
  replace O_w0 := O_w0.only U_w12 (by omega) (by omega)
  replace O_w1 := O_w1.only U_w12 (by omega) (by omega)
  replace M_x0 := M_x0.only U_w12 (by omega) (by omega)
  replace O_g1 := O_g1.only U_w12 (by omega) (by omega)
  replace BB := BB.trans ((U_w12.below (by omega)).mono (by omega))
  clear O_g0
  go_wp2_with fail
  refine (markIntS_any _ _ _ _ _ _ _ O_g1 (by omega) (by omega) (by omega)).mono ?_
  rintro e w13 ⟨rfl, M_g1, U_w13, z_w13⟩
  have s_w13 := U_w13.size
  replace R_aTrack := R_aTrack.only U_w13 (by omega) (by omega)
  replace O_w0 := O_w0.only U_w13 (by omega) (by omega)
  replace O_w1 := O_w1.only U_w13 (by omega) (by omega)
  replace M_x0 := M_x0.only U_w13 (by omega) (by omega)
  replace M_g0 := M_g0.only U_w13 (by omega) (by omega)
  replace BB := BB.trans ((U_w13.below (by omega)).mono (by omega))
  clear O_g1
  go_wp2_with fail
  refine (heldIntS_any _ _ _ _ _ _ _ M_g0.rd (by omega) (by omega) (by omega)).mono ?_
  rintro e w' ⟨rfl, rfl⟩
  go_wp2_with fail
  refine (heldIntS_any _ _ _ _ _ _ _ M_g1.rd (by omega) (by omega) (by omega)).mono ?_
  rintro e w' ⟨rfl, rfl⟩
  go_wp2_with fail
  refine (toIntS_any _ _ _ _ _ _ R_aTrack (by omega) (by omega)).mono ?_
  rintro e w14 ⟨A_t3, c_t3, rfl, O_t3, B_w14⟩
  have s_w14 := B_w14.size
  replace R_aTrack := R_aTrack.below B_w14 (by omega)
  replace O_w0 := O_w0.below B_w14 (by omega)
  replace O_w1 := O_w1.below B_w14 (by omega)
  replace M_x0 := M_x0.below B_w14 (by omega)
  replace M_g0 := M_g0.below B_w14 (by omega)
  replace M_g1 := M_g1.below B_w14 (by omega)
  replace BB := BB.trans (B_w14.mono (by omega))
  go_wp2_with fail
  refine (iSpikesIn O_t3.rd (by omega) (by omega)).mono ?_
  rintro e w15 h
  rw [← HV.out.1, ← HV.out.2.1, ← HV.out.2.2] at h
  obtain ⟨A_h0, c_h0, A_h1, c_h1, l1_w15, h1_w15, l2_w15, h2_w15, rfl, O_h0, O_h1, i1_w15, i1b_w15, i2_w15, i3_w15, i3b_w15, i4_w15, i5_w15, B_w15⟩ := h
  have s_w15 := B_w15.size
  replace R_aTrack := R_aTrack.below B_w15 (by omega)
  replace O_w0 := O_w0.below B_w15 (by omega)
  replace O_w1 := O_w1.below B_w15 (by omega)
  replace M_x0 := M_x0.below B_w15 (by omega)
  replace M_g0 := M_g0.below B_w15 (by omega)
  replace M_g1 := M_g1.below B_w15 (by omega)
  replace O_t3 := O_t3.below B_w15 (by omega)
  replace BB := BB.trans (B_w15.mono (by omega))
  clear O_t3
  go_wp2_with fail
  refine (eqIntS_same _ _ _ _ _ _ _ _ _ _ O_h0.rd O_w0.rd (by omega)).mono ?_
  rintro e w16 ⟨rfl, n_w16, hn_w16⟩
  have B_w16 := below_of_quiet (B := w15.heap.size) hn_w16
  clear hn_w16
  have s_w16 := B_w16.size
  replace R_aTrack := R_aTrack.below B_w16 (by omega)
  replace O_w0 := O_w0.below B_w16 (by omega)
  replace O_w1 := O_w1.below B_w16 (by omega)
  replace M_x0 := M_x0.below B_w16 (by omega)
  replace M_g0 := M_g0.below B_w16 (by omega)
  replace M_g1 := M_g1.below B_w16 (by omega)
  replace O_h0 := O_h0.below B_w16 (by omega)
  replace O_h1 := O_h1.below B_w16 (by omega)
  replace BB := BB.trans (B_w16.mono (by omega))
  go_wp2_with fail
  refine (eqIntS_same _ _ _ _ _ _ _ _ _ _ O_h1.rd O_w1.rd (by omega)).mono ?_
  rintro e w17 ⟨rfl, n_w17, hn_w17⟩
  have B_w17 := below_of_quiet (B := w16.heap.size) hn_w17
  clear hn_w17
  have s_w17 := B_w17.size
  replace R_aTrack := R_aTrack.below B_w17 (by omega)
  replace O_w0 := O_w0.below B_w17 (by omega)
  replace O_w1 := O_w1.below B_w17 (by omega)
  replace M_x0 := M_x0.below B_w17 (by omega)
  replace M_g0 := M_g0.below B_w17 (by omega)
  replace M_g1 := M_g1.below B_w17 (by omega)
  replace O_h0 := O_h0.below B_w17 (by omega)
  replace O_h1 := O_h1.below B_w17 (by omega)
  replace BB := BB.trans (B_w17.mono (by omega))
  go_wp2_with fail
  refine (heldIntS_any _ _ _ _ _ _ _ M_g0.rd (by omega) (by omega) (by omega)).mono ?_
  rintro e w' ⟨rfl, rfl⟩
  go_wp2_with fail
  refine (heldIntS_any _ _ _ _ _ _ _ M_g1.rd (by omega) (by omega) (by omega)).mono ?_
  rintro e w' ⟨rfl, rfl⟩
  go_wp2_with fail
  go_ret
  exact ⟨rfl, BB⟩

end Go.Proofs.Ytoafdjkmgiikdaa
