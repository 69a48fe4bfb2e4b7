/-
  This file proves the walk of the law 'FnExactAmbiguityOf': called with any arguments it returns true, and nothing that was in memory before has turned.
  Conditions: that the arguments read as data, as the row's frame hands them over.
-/
import Derived.Test.YtiaabojkimboiaaHypE
namespace Go.Proofs.Ytiaabojkimboiaa
open Go.RowKit
set_option linter.unusedSimpArgs false
set_option linter.unusedVariables false

set_option maxHeartbeats 1000000 in
theorem fnExactAmbiguityOf_walk (A_aVotes : Option Addr) (c_aVotes : Nat) (aVotes : List Int) (aWidth : Int) (w : World) (R_aVotes : RdI w 0 w.heap.size A_aVotes aVotes) (f_aVotes : ∀ n ∈ aVotes, (Lit.int .i64 n).wf = true) (f_aWidth : (Lit.int .i64 aWidth).wf = true) :
    Calls Try.prog 4 #[.slice A_aVotes aVotes.length c_aVotes, .int .i64 aWidth] w fun e w' => e = .returned (.bool true) ∧ Below w.heap.size w w' := by
  by_cases h_aVotes : 1048576 < aVotes.length
  · go_enter Try.func4, Try.ntmps4
    go_wp2_with fail
    go_ret
    exact ⟨rfl, Below.refl _ _⟩
  have hl_aVotes : aVotes.length ≤ 1048576 := by omega
  clear h_aVotes
  obtain ⟨y0, y1, y2, hv⟩ : ∃ y0 y1 y2, y0 = (vAmbiguityOf aVotes aWidth).1 ∧ y1 = (vAmbiguityOf aVotes aWidth).2.1 ∧ y2 = (vAmbiguityOf aVotes aWidth).2.2 := ⟨_, _, _, rfl, rfl, rfl⟩
  have HV := Lib.hid hv
  clear hv
  go_enter Try.func4, Try.ntmps4
  have BB : Below w.heap.size w w := Below.refl _ _
  go_wp2_with fail
  refine (toIntS_any _ _ _ _ _ _ R_aVotes (by omega) (by omega)).mono ?_
  rintro e w1 ⟨A_t1, c_t1, rfl, O_t1, B_w1⟩
  have s_w1 := B_w1.size
  replace R_aVotes := R_aVotes.below B_w1 (by omega)
  replace BB := BB.trans (B_w1.mono (by omega))
  go_wp2_with fail
  refine (sAmbiguityOf O_t1.rd (by omega) (by omega)).mono ?_
  rintro e w2 h
  rw [← HV.out.1, ← HV.out.2.1, ← HV.out.2.2] at h
  obtain ⟨rfl, B_w2⟩ := h
  have s_w2 := B_w2.size
  replace R_aVotes := R_aVotes.below B_w2 (by omega)
  replace O_t1 := O_t1.below B_w2 (by omega)
  replace BB := BB.trans (B_w2.mono (by omega))
  clear O_t1
  go_wp2_with fail
  refine (toIntS_any _ _ _ _ _ _ R_aVotes (by omega) (by omega)).mono ?_
  rintro e w3 ⟨A_x0, c_x0, rfl, O_x0, B_w3⟩
  have s_w3 := B_w3.size
  replace R_aVotes := R_aVotes.below B_w3 (by omega)
  replace BB := BB.trans (B_w3.mono (by omega))
  go_wp2_with fail
  refine (iAmbiguityOf O_x0.rd (by omega) (by omega)).mono ?_
  rintro e w4 h
  rw [← HV.out.1, ← HV.out.2.1, ← HV.out.2.2] at h
  obtain ⟨rfl, B_w4⟩ := h
  have s_w4 := B_w4.size
  replace R_aVotes := R_aVotes.below B_w4 (by omega)
  replace O_x0 := O_x0.below B_w4 (by omega)
  replace BB := BB.trans (B_w4.mono (by omega))
  go_wp2_with fail
  refine (toIntS_any _ _ _ _ _ _ R_aVotes (by omega) (by omega)).mono ?_
  rintro e w5 ⟨A_t2, c_t2, rfl, O_t2, B_w5⟩
  have s_w5 := B_w5.size
  replace R_aVotes := R_aVotes.below B_w5 (by omega)
  replace O_x0 := O_x0.below B_w5 (by omega)
  replace BB := BB.trans (B_w5.mono (by omega))
  go_wp2_with fail
  refine (eqIntS_same _ _ _ _ _ _ _ _ _ _ O_x0.rd O_t2.rd (by omega)).mono ?_
  rintro e w6 ⟨rfl, n_w6, hn_w6⟩
  have B_w6 := below_of_quiet (B := w5.heap.size) hn_w6
  clear hn_w6
  have s_w6 := B_w6.size
  replace R_aVotes := R_aVotes.below B_w6 (by omega)
  replace O_x0 := O_x0.below B_w6 (by omega)
  replace O_t2 := O_t2.below B_w6 (by omega)
  replace BB := BB.trans (B_w6.mono (by omega))
  clear O_t2
  go_wp2_with fail
  go_ret
  exact ⟨rfl, BB⟩

end Go.Proofs.Ytiaabojkimboiaa
