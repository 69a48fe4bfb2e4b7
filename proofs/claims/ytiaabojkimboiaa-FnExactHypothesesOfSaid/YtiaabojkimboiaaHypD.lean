/-
  This file proves contracts of HypothesesOf, of the program and of the reference.
  Conditions: each contract's own hypotheses (that a slice reads as a list, that it is not too long).
-/
import Derived.Test.YtiaabojkimboiaaHypC
namespace Go.Proofs.Ytiaabojkimboiaa
open Go.RowKit
set_option linter.unusedSimpArgs false
set_option linter.unusedVariables false

def vHypothesesOf (xs : List Int) (wd : Int) : List GHypothesis × Bool := if canV xs wd = true then (hypV xs wd, true) else ([], false)
theorem vHypothesesOf_len0 (xs : List Int) (wd : Int) : (vHypothesesOf xs wd).1.length ≤ 20 := by
  unfold vHypothesesOf
  split
  · rename_i h
    exact (hypV_facts h).1
  · simp

theorem canVote_any {A : Option Addr} {c lo hi : Nat} {xs : List Int} {wd : Int} {w : World} (hr : RdI w lo hi A xs) (hl : xs.length ≤ 4194304) (hh : hi ≤ w.heap.size) :
    Calls Try.prog 21 #[.slice A xs.length c, .int .i64 wd] w fun e w' => e = .returned (.bool (canV xs wd)) ∧ w = w' := by
  by_cases h1 : isVts xs = true
  rotate_left
  · have h1' : isVts xs = false := by simpa using h1
    clear h1
    go_enter Try.func21, Try.ntmps21
    go_wp2_with (first | (go_at_call 29; refine (areVotes_any _ _ _ _ _ _ hr (by omega)).mono ?_; rintro e w' ⟨rfl, rfl⟩) | (go_at_call 30; refine (inside_any _ _ _ _).mono ?_; rintro e w' ⟨rfl, rfl⟩))
    go_ret
    exact ⟨ret_bool (by simp [canV, h1']), rfl⟩
  go_enter Try.func21, Try.ntmps21
  go_wp2_with (first | (go_at_call 29; refine (areVotes_any _ _ _ _ _ _ hr (by omega)).mono ?_; rintro e w' ⟨rfl, rfl⟩) | (go_at_call 30; refine (inside_any _ _ _ _).mono ?_; rintro e w' ⟨rfl, rfl⟩))
  go_ret
  exact ⟨ret_bool (by simp [canV, h1]), rfl⟩

theorem l13Asked_any {A : Option Addr} {c lo hi : Nat} {xs : List Int} {wd : Int} {w : World} (hr : RdI w lo hi A xs) (hl : xs.length ≤ 4194304) (hh : hi ≤ w.heap.size) :
    Calls Try.prog 19 #[.slice A xs.length c, .int .i64 wd] w fun e w' => e = .returned (.bool (canV xs wd)) ∧ w = w' := by
  by_cases h1 : isVts xs = true
  rotate_left
  · have h1' : isVts xs = false := by simpa using h1
    clear h1
    go_enter Try.func19, Try.ntmps19
    go_wp2_with (first | (go_at_call 27; refine (l13Good_any _ _ _ _ _ _ hr (by omega)).mono ?_; rintro e w' ⟨rfl, rfl⟩) | (go_at_call 28; refine (l1In_any _ _ _ _).mono ?_; rintro e w' ⟨rfl, rfl⟩))
    go_ret
    exact ⟨ret_bool (by simp [canV, h1']), rfl⟩
  go_enter Try.func19, Try.ntmps19
  go_wp2_with (first | (go_at_call 27; refine (l13Good_any _ _ _ _ _ _ hr (by omega)).mono ?_; rintro e w' ⟨rfl, rfl⟩) | (go_at_call 28; refine (l1In_any _ _ _ _).mono ?_; rintro e w' ⟨rfl, rfl⟩))
  go_ret
  exact ⟨ret_bool (by simp [canV, h1]), rfl⟩

set_option maxHeartbeats 1000000 in
theorem iHypothesesOf {A : Option Addr} {c lo hi : Nat} {xs : List Int} {wd : Int} {w : World} (hr : RdI w lo hi A xs) (hl : xs.length ≤ 4194304) (hh : hi ≤ w.heap.size) :
    Calls Try.prog 14 #[.slice A xs.length c, .int .i64 wd] w (RetHypothesisSB (vHypothesesOf xs wd).1 (vHypothesesOf xs wd).2 w) := by
  by_cases h1 : canV xs wd = true
  rotate_left
  · have h1' : canV xs wd = false := by simpa using h1
    have HE := Lib.hid (show vHypothesesOf xs wd = ([], false) from by unfold vHypothesesOf; rw [if_neg (by simp [h1'])])
    clear h1
    go_enter Try.func14, Try.ntmps14
    go_wp2_with fail
    refine (canVote_any hr hl hh).mono ?_
    rintro e w' ⟨rfl, rfl⟩
    rw [h1']
    go_wp2_with fail
    go_ret2
    rw [HE.out]
    exact retHypSB_nil _ _ _ (Below.refl _ _)
  have HE := Lib.hid (show vHypothesesOf xs wd = (hypV xs wd, true) from by unfold vHypothesesOf; rw [if_pos h1])
  have H1 := Lib.hid h1
  go_enter Try.func14, Try.ntmps14
  go_wp2_with fail
  refine (canVote_any hr hl hh).mono ?_
  rintro e w' ⟨rfl, rfl⟩
  rw [h1]
  clear h1
  go_wp2_with fail
  refine (hypothesesOf_any hr hh H1.out).mono ?_
  rintro e w1 ⟨A1, c1, rfl, O1, B1⟩
  go_wp2_with fail
  go_ret2
  rw [HE.out]
  exact ⟨A1, c1, rfl, O1, B1⟩

set_option maxHeartbeats 1000000 in
theorem sHypothesesOf {A : Option Addr} {c lo hi : Nat} {xs : List Int} {wd : Int} {w : World} (hr : RdI w lo hi A xs) (hl : xs.length ≤ 4194304) (hh : hi ≤ w.heap.size) :
    Calls Try.prog 13 #[.slice A xs.length c, .int .i64 wd] w (RetHypothesisSB (vHypothesesOf xs wd).1 (vHypothesesOf xs wd).2 w) := by
  by_cases h1 : canV xs wd = true
  rotate_left
  · have h1' : canV xs wd = false := by simpa using h1
    have HE := Lib.hid (show vHypothesesOf xs wd = ([], false) from by unfold vHypothesesOf; rw [if_neg (by simp [h1'])])
    clear h1
    go_enter Try.func13, Try.ntmps13
    go_wp2_with fail
    refine (l13Asked_any hr hl hh).mono ?_
    rintro e w' ⟨rfl, rfl⟩
    rw [h1']
    go_wp2_with fail
    go_ret2
    rw [HE.out]
    exact retHypSB_of (ps := []) (row_empty_at _ _ _ (Nat.le_refl _)) (below_alloc1 _ _)
  have HE := Lib.hid (show vHypothesesOf xs wd = (hypV xs wd, true) from by unfold vHypothesesOf; rw [if_pos h1])
  have H1 := Lib.hid h1
  go_enter Try.func13, Try.ntmps13
  go_wp2_with fail
  refine (l13Asked_any hr hl hh).mono ?_
  rintro e w' ⟨rfl, rfl⟩
  rw [h1]
  clear h1
  go_wp2_with fail
  refine (l13Of_any hr hh H1.out).mono ?_
  rintro e w1 ⟨A1, c1, rfl, O1, B1⟩
  go_wp2_with fail
  go_ret2
  rw [HE.out]
  exact ⟨A1, c1, rfl, O1, B1⟩

end Go.Proofs.Ytiaabojkimboiaa
