/-
  This file proves the walk of the law 'FnExactStrongestOf': called with any arguments it returns true, and nothing that was in memory before has turned.
  Conditions: that the arguments read as data, as the row's frame hands them over.
-/
import Derived.Test.YtiaabojkimboiaaHypE
namespace Go.Proofs.Ytiaabojkimboiaa
open Go.RowKit
set_option linter.unusedSimpArgs false
set_option linter.unusedVariables false

set_option maxHeartbeats 1000000 in
theorem fnExactStrongestOf_walk (A_aVotes : Option Addr) (c_aVotes : Nat) (aVotes : List Int) (aWidth : Int) (w : World) (R_aVotes : RdI w 0 w.heap.size A_aVotes aVotes) (f_aVotes : ∀ n ∈ aVotes, (Lit.int .i64 n).wf = true) (f_aWidth : (Lit.int .i64 aWidth).wf = true) :
    Calls Try.prog 3 #[.slice A_aVotes aVotes.length c_aVotes, .int .i64 aWidth] w fun e w' => e = .returned (.bool true) ∧ Below w.heap.size w w' := by
  by_cases h_aVotes : 1048576 < aVotes.length
  · go_enter Try.func3, Try.ntmps3
    go_wp2_with fail
    go_ret
    exact ⟨rfl, Below.refl _ _⟩
  have hl_aVotes : aVotes.length ≤ 1048576 := by omega
  clear h_aVotes
  obtain ⟨y0, y1, hv⟩ : ∃ y0 y1, y0 = (vStrongestOf aVotes aWidth).1 ∧ y1 = (vStrongestOf aVotes aWidth).2 := ⟨_, _, rfl, rfl⟩
  have HV := Lib.hid hv
  clear hv
  go_enter Try.func3, Try.ntmps3
  have BB : Below w.heap.size w w := Below.refl _ _
  go_wp2_with fail
  refine (toIntS_any _ _ _ _ _ _ R_aVotes (by omega) (by omega)).mono ?_
  rintro e w1 ⟨A_t1, c_t1, rfl, O_t1, B_w1⟩
  have s_w1 := B_w1.size
  replace R_aVotes := R_aVotes.below B_w1 (by omega)
  replace BB := BB.trans (B_w1.mono (by omega))
  go_wp2_with fail
  refine (sStrongestOf O_t1.rd (by omega) (by omega)).mono ?_
  rintro e w2 h
  rw [← HV.out.1, ← HV.out.2] at h
  obtain ⟨rfl, B_w2⟩ := h
  have s_w2 := B_w2.size
  replace R_aVotes := R_aVotes.below B_w2 (by omega)
  replace O_t1 := O_t1.below B_w2 (by omega)
  replace BB := BB.trans (B_w2.mono (by omega))
  clear O_t1
  have B_w3 := below_alloc1 w2 (.cells #[.int .i64 y0.lw, .int .i64 y0.hg, .int .i64 y0.vt] 24)
  have D_w0 := Cells3.new w2 y0 24
  replace R_aVotes := R_aVotes.below B_w3 (by omega)
  replace BB := BB.trans (B_w3.mono (by omega))
  have s_w3 := B_w3.size
  have l_w0 := D_w0.lt
  clear B_w3
  have E_w0 := D_w0.1
  obtain ⟨e0_w0, e1_w0, e2_w0⟩ := E_w0
  go_wp2_with fail
  generalize w2.alloc (.cells #[.int .i64 y0.lw, .int .i64 y0.hg, .int .i64 y0.vt] 24) = w3 at s_w3 l_w0 BB R_aVotes D_w0 e0_w0 e1_w0 e2_w0 ⊢
  skip
  clear e0_w0 e1_w0 e2_w0
  go_wp2_with fail
  refine (toIntS_any _ _ _ _ _ _ R_aVotes (by omega) (by omega)).mono ?_
  rintro e w4 ⟨A_x0, c_x0, rfl, O_x0, B_w4⟩
  have s_w4 := B_w4.size
  replace R_aVotes := R_aVotes.below B_w4 (by omega)
  replace D_w0 := D_w0.below B_w4 (by omega)
  replace BB := BB.trans (B_w4.mono (by omega))
  go_wp2_with fail
  refine (iStrongestOf O_x0.rd (by omega) (by omega)).mono ?_
  rintro e w5 h
  rw [← HV.out.1, ← HV.out.2] at h
  obtain ⟨rfl, B_w5⟩ := h
  have s_w5 := B_w5.size
  replace R_aVotes := R_aVotes.below B_w5 (by omega)
  replace D_w0 := D_w0.below B_w5 (by omega)
  replace O_x0 := O_x0.below B_w5 (by omega)
  replace BB := BB.trans (B_w5.mono (by omega))
  have B_w6 := below_alloc1 w5 (.cells #[.int .i64 y0.lw, .int .i64 y0.hg, .int .i64 y0.vt] 24)
  have D_g0 := Cells3.new w5 y0 24
  replace R_aVotes := R_aVotes.below B_w6 (by omega)
  replace D_w0 := D_w0.below B_w6 (by omega)
  replace O_x0 := O_x0.below B_w6 (by omega)
  replace BB := BB.trans (B_w6.mono (by omega))
  have s_w6 := B_w6.size
  have l_g0 := D_g0.lt
  clear B_w6
  have E_w0 := D_w0.1
  obtain ⟨e0_w0, e1_w0, e2_w0⟩ := E_w0
  have E_g0 := D_g0.1
  obtain ⟨e0_g0, e1_g0, e2_g0⟩ := E_g0
  go_wp2_with fail
  generalize w5.alloc (.cells #[.int .i64 y0.lw, .int .i64 y0.hg, .int .i64 y0.vt] 24) = w6 at s_w6 l_g0 BB R_aVotes D_w0 O_x0 D_g0 e0_w0 e1_w0 e2_w0 e0_g0 e1_g0 e2_g0 ⊢
  skip
  clear e0_w0 e1_w0 e2_w0 e0_g0 e1_g0 e2_g0
  have E_w0 := D_w0.1
  obtain ⟨e0_w0, e1_w0, e2_w0⟩ := E_w0
  have E_g0 := D_g0.1
  obtain ⟨e0_g0, e1_g0, e2_g0⟩ := E_g0
  go_wp2_with fail
  refine (eqHypothesis_same y0 _).mono ?_
  rintro e w7 ⟨rfl, B_w7⟩
  clear e0_w0 e1_w0 e2_w0 e0_g0 e1_g0 e2_g0
  have s_w7 := B_w7.size
  replace R_aVotes := R_aVotes.below B_w7 (by omega)
  replace D_w0 := D_w0.below B_w7 (by omega)
  replace O_x0 := O_x0.below B_w7 (by omega)
  replace D_g0 := D_g0.below B_w7 (by omega)
  replace BB := BB.trans (B_w7.mono (by omega))
  go_wp2_with fail
  refine (toIntS_any _ _ _ _ _ _ R_aVotes (by omega) (by omega)).mono ?_
  rintro e w8 ⟨A_t2, c_t2, rfl, O_t2, B_w8⟩
  have s_w8 := B_w8.size
  replace R_aVotes := R_aVotes.below B_w8 (by omega)
  replace D_w0 := D_w0.below B_w8 (by omega)
  replace O_x0 := O_x0.below B_w8 (by omega)
  replace D_g0 := D_g0.below B_w8 (by omega)
  replace BB := BB.trans (B_w8.mono (by omega))
  go_wp2_with fail
  refine (eqIntS_same _ _ _ _ _ _ _ _ _ _ O_x0.rd O_t2.rd (by omega)).mono ?_
  rintro e w9 ⟨rfl, n_w9, hn_w9⟩
  have B_w9 := below_of_quiet (B := w8.heap.size) hn_w9
  clear hn_w9
  have s_w9 := B_w9.size
  replace R_aVotes := R_aVotes.below B_w9 (by omega)
  replace D_w0 := D_w0.below B_w9 (by omega)
  replace O_x0 := O_x0.below B_w9 (by omega)
  replace D_g0 := D_g0.below B_w9 (by omega)
  replace O_t2 := O_t2.below B_w9 (by omega)
  replace BB := BB.trans (B_w9.mono (by omega))
  clear O_t2
  go_wp2_with fail
  go_ret
  exact ⟨rfl, BB⟩

end Go.Proofs.Ytiaabojkimboiaa
