/-
  This file proves contracts of HypothesesOf, of the program and of the reference.
  Conditions: each contract's own hypotheses (that a slice reads as a list, that it is not too long).
-/
import Derived.Test.YtdllhdfoinobjaaHypC
namespace Go.Proofs.Ytdllhdfoinobjaa
open Go.RowKit
set_option linter.unusedSimpArgs false
set_option linter.unusedVariables false

def vHypothesesOf (xs : List Int) (wd : Int) : List GHypothesis × Bool := if canV xs wd = true then (hypV xs wd, true) else ([], false)
theorem vHypothesesOf_len0 (xs : List Int) (wd : Int) : (vHypothesesOf xs wd).1.length ≤ 20 := by
  unfold vHypothesesOf
  split
  · rename_i h
    exact (hypV_facts h).1
  · simp

theorem canVote_any {A : Option Addr} {c lo hi : Nat} {xs : List Int} {wd : Int} {w : World} (hr : RdI w lo hi A xs) (hl : xs.length ≤ 4194304) (hh : hi ≤ w.heap.size) :
    Calls Try.prog 48 #[.slice A xs.length c, .int .i64 wd] w fun e w' => e = .returned (.bool (canV xs wd)) ∧ w = w' := by
  by_cases h1 : isVts xs = true
  rotate_left
  · have h1' : isVts xs = false := by simpa using h1
    clear h1
    go_enter Try.func48, Try.ntmps48
    go_wp2_with (first | (go_at_call 13; refine (areVotes_any _ _ _ _ _ _ hr (by omega)).mono ?_; rintro e w' ⟨rfl, rfl⟩) | (go_at_call 53; refine (inside_any _ _ _ _).mono ?_; rintro e w' ⟨rfl, rfl⟩))
    go_ret
    exact ⟨ret_bool (by simp [canV, h1']), rfl⟩
  go_enter Try.func48, Try.ntmps48
  go_wp2_with (first | (go_at_call 13; refine (areVotes_any _ _ _ _ _ _ hr (by omega)).mono ?_; rintro e w' ⟨rfl, rfl⟩) | (go_at_call 53; refine (inside_any _ _ _ _).mono ?_; rintro e w' ⟨rfl, rfl⟩))
  go_ret
  exact ⟨ret_bool (by simp [canV, h1]), rfl⟩

theorem l13Asked_any {A : Option Addr} {c lo hi : Nat} {xs : List Int} {wd : Int} {w : World} (hr : RdI w lo hi A xs) (hl : xs.length ≤ 4194304) (hh : hi ≤ w.heap.size) :
    Calls Try.prog 50 #[.slice A xs.length c, .int .i64 wd] w fun e w' => e = .returned (.bool (canV xs wd)) ∧ w = w' := by
  by_cases h1 : isVts xs = true
  rotate_left
  · have h1' : isVts xs = false := by simpa using h1
    clear h1
    go_enter Try.func50, Try.ntmps50
    go_wp2_with (first | (go_at_call 54; refine (l13Good_any _ _ _ _ _ _ hr (by omega)).mono ?_; rintro e w' ⟨rfl, rfl⟩) | (go_at_call 63; refine (l1In_any _ _ _ _).mono ?_; rintro e w' ⟨rfl, rfl⟩))
    go_ret
    exact ⟨ret_bool (by simp [canV, h1']), rfl⟩
  go_enter Try.func50, Try.ntmps50
  go_wp2_with (first | (go_at_call 54; refine (l13Good_any _ _ _ _ _ _ hr (by omega)).mono ?_; rintro e w' ⟨rfl, rfl⟩) | (go_at_call 63; refine (l1In_any _ _ _ _).mono ?_; rintro e w' ⟨rfl, rfl⟩))
  go_ret
  exact ⟨ret_bool (by simp [canV, h1]), rfl⟩

set_option maxHeartbeats 1000000 in
theorem iHypothesesOf {A : Option Addr} {c lo hi : Nat} {xs : List Int} {wd : Int} {w : World} (hr : RdI w lo hi A xs) (hl : xs.length ≤ 4194304) (hh : hi ≤ w.heap.size) :
    Calls Try.prog 10 #[.slice A xs.length c, .int .i64 wd] w (RetHypothesisSB (vHypothesesOf xs wd).1 (vHypothesesOf xs wd).2 w) := by
  by_cases h1 : canV xs wd = true
  rotate_left
  · have h1' : canV xs wd = false := by simpa using h1
    have HE := Lib.hid (show vHypothesesOf xs wd = ([], false) from by unfold vHypothesesOf; rw [if_neg (by simp [h1'])])
    clear h1
    go_enter Try.func10, Try.ntmps10
    go_wp2_with fail
    refine (canVote_any hr hl hh).mono ?_
    rintro e w' ⟨rfl, rfl⟩
    rw [h1']
    go_wp2_with fail
    go_ret2
    rw [HE.out]
    exact retHypSB_nil _ _ _ (Below.refl _ _)
  have HE := Lib.hid (show vHypothesesOf xs wd = (hypV xs wd, true) from by unfold vHypothesesOf; rw [if_pos h1])
  have H1 := Lib.hid h1
  go_enter Try.func10, Try.ntmps10
  go_wp2_with fail
  refine (canVote_any hr hl hh).mono ?_
  rintro e w' ⟨rfl, rfl⟩
  rw [h1]
  clear h1
  go_wp2_with fail
  refine (hypothesesOf_any hr hh H1.out).mono ?_
  rintro e w1 ⟨A1, c1, rfl, O1, B1⟩
  go_wp2_with fail
  go_ret2
  rw [HE.out]
  exact ⟨A1, c1, rfl, O1, B1⟩

set_option maxHeartbeats 1000000 in
theorem sHypothesesOf {A : Option Addr} {c lo hi : Nat} {xs : List Int} {wd : Int} {w : World} (hr : RdI w lo hi A xs) (hl : xs.length ≤ 4194304) (hh : hi ≤ w.heap.size) :
    Calls Try.prog 11 #[.slice A xs.length c, .int .i64 wd] w (RetHypothesisSB (vHypothesesOf xs wd).1 (vHypothesesOf xs wd).2 w) := by
  by_cases h1 : canV xs wd = true
  rotate_left
  · have h1' : canV xs wd = false := by simpa using h1
    have HE := Lib.hid (show vHypothesesOf xs wd = ([], false) from by unfold vHypothesesOf; rw [if_neg (by simp [h1'])])
    clear h1
    go_enter Try.func11, Try.ntmps11
    go_wp2_with fail
    refine (l13Asked_any hr hl hh).mono ?_
    rintro e w' ⟨rfl, rfl⟩
    rw [h1']
    go_wp2_with fail
    go_ret2
    rw [HE.out]
    exact retHypSB_of (ps := []) (row_empty_at _ _ _ (Nat.le_refl _)) (below_alloc1 _ _)
  have HE := Lib.hid (show vHypothesesOf xs wd = (hypV xs wd, true) from by unfold vHypothesesOf; rw [if_pos h1])
  have H1 := Lib.hid h1
  go_enter Try.func11, Try.ntmps11
  go_wp2_with fail
  refine (l13Asked_any hr hl hh).mono ?_
  rintro e w' ⟨rfl, rfl⟩
  rw [h1]
  clear h1
  go_wp2_with fail
  refine (l13Of_any hr hh H1.out).mono ?_
  rintro e w1 ⟨A1, c1, rfl, O1, B1⟩
  go_wp2_with fail
  go_ret2
  rw [HE.out]
  exact ⟨A1, c1, rfl, O1, B1⟩

end Go.Proofs.Ytdllhdfoinobjaa
