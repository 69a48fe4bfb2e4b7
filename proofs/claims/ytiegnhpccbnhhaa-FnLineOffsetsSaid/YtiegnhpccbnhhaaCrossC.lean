/-
  This file proves contracts of NotTolerated, of the program and of the reference.
  Conditions: each contract's own hypotheses (that a slice reads as a list of crossings, that it is not too long).
-/
import Derived.Test.YtiegnhpccbnhhaaCrossB
namespace Go.Proofs.Ytiegnhpccbnhhaa
open Go.RowKit
set_option linter.unusedSimpArgs false
set_option linter.unusedVariables false

def canTol (ps : List GCrossing) (fx pc : Int) : Bool := isCL ps && (inR fx 0 500 && inR pc 0 100)

set_option maxHeartbeats 1000000 in
theorem canTolerate_any {A : Option Addr} {c lo hi : Nat} {ps : List GCrossing} {fx pc : Int} {w : World} (hr : RdC w lo hi A ps) (hl : ps.length ≤ 2097152) (hh : hi ≤ w.heap.size) (hcap : ps.length ≤ c) :
    Calls Try.prog 56 #[.slice A ps.length c, .int .i64 fx, .int .i64 pc] w (RetB (canTol ps fx pc) w) := by
  by_cases h1 : isCL ps = true
  rotate_left
  · have h1' : isCL ps = false := by simpa using h1
    go_enter Try.func56, Try.ntmps56
    go_wp2_with fail
    refine (areCrossings_any hr hl hh hcap).mono ?_
    rintro e w1 ⟨rfl, B1⟩
    go_wp2_with (go_at_call 59; refine (inside_any _ _ _ _).mono ?_; rintro e w' ⟨rfl, rfl⟩)
    go_ret
    exact ⟨ret_bool (by simp [canTol, h1']), B1⟩
  by_cases h2 : inR fx 0 500 = true
  rotate_left
  · have h2' : inR fx 0 500 = false := by simpa using h2
    go_enter Try.func56, Try.ntmps56
    go_wp2_with fail
    refine (areCrossings_any hr hl hh hcap).mono ?_
    rintro e w1 ⟨rfl, B1⟩
    go_wp2_with (go_at_call 59; refine (inside_any _ _ _ _).mono ?_; rintro e w' ⟨rfl, rfl⟩)
    go_ret
    exact ⟨ret_bool (by simp [canTol, h1, h2']), B1⟩
  by_cases h3 : inR pc 0 100 = true
  rotate_left
  · have h3' : inR pc 0 100 = false := by simpa using h3
    go_enter Try.func56, Try.ntmps56
    go_wp2_with fail
    refine (areCrossings_any hr hl hh hcap).mono ?_
    rintro e w1 ⟨rfl, B1⟩
    go_wp2_with (go_at_call 59; refine (inside_any _ _ _ _).mono ?_; rintro e w' ⟨rfl, rfl⟩)
    go_ret
    exact ⟨ret_bool (by simp [canTol, h1, h2, h3']), B1⟩
  go_enter Try.func56, Try.ntmps56
  go_wp2_with fail
  refine (areCrossings_any hr hl hh hcap).mono ?_
  rintro e w1 ⟨rfl, B1⟩
  go_wp2_with (go_at_call 59; refine (inside_any _ _ _ _).mono ?_; rintro e w' ⟨rfl, rfl⟩)
  go_ret
  exact ⟨ret_bool (by simp [canTol, h1, h2, h3]), B1⟩

set_option maxHeartbeats 1000000 in
theorem l10Test_any {A : Option Addr} {c lo hi : Nat} {ps : List GCrossing} {fx pc : Int} {w : World} (hr : RdC w lo hi A ps) (hl : ps.length ≤ 2097152) (hh : hi ≤ w.heap.size) :
    Calls Try.prog 66 #[.slice A ps.length c, .int .i64 fx, .int .i64 pc] w (RetB (canTol ps fx pc) w) := by
  by_cases h1 : isCL ps = true
  rotate_left
  · have h1' : isCL ps = false := by simpa using h1
    go_enter Try.func66, Try.ntmps66
    go_wp2_with fail
    refine (l10Good_any hr hl hh).mono ?_
    rintro e w1 ⟨rfl, B1⟩
    go_wp2_with (go_at_call 52; refine (l1In_any _ _ _ _).mono ?_; rintro e w' ⟨rfl, rfl⟩)
    go_ret
    exact ⟨ret_bool (by simp [canTol, h1']), B1⟩
  by_cases h2 : inR fx 0 500 = true
  rotate_left
  · have h2' : inR fx 0 500 = false := by simpa using h2
    go_enter Try.func66, Try.ntmps66
    go_wp2_with fail
    refine (l10Good_any hr hl hh).mono ?_
    rintro e w1 ⟨rfl, B1⟩
    go_wp2_with (go_at_call 52; refine (l1In_any _ _ _ _).mono ?_; rintro e w' ⟨rfl, rfl⟩)
    go_ret
    exact ⟨ret_bool (by simp [canTol, h1, h2']), B1⟩
  by_cases h3 : inR pc 0 100 = true
  rotate_left
  · have h3' : inR pc 0 100 = false := by simpa using h3
    go_enter Try.func66, Try.ntmps66
    go_wp2_with fail
    refine (l10Good_any hr hl hh).mono ?_
    rintro e w1 ⟨rfl, B1⟩
    go_wp2_with (go_at_call 52; refine (l1In_any _ _ _ _).mono ?_; rintro e w' ⟨rfl, rfl⟩)
    go_ret
    exact ⟨ret_bool (by simp [canTol, h1, h2, h3']), B1⟩
  go_enter Try.func66, Try.ntmps66
  go_wp2_with fail
  refine (l10Good_any hr hl hh).mono ?_
  rintro e w1 ⟨rfl, B1⟩
  go_wp2_with (go_at_call 52; refine (l1In_any _ _ _ _).mono ?_; rintro e w' ⟨rfl, rfl⟩)
  go_ret
  exact ⟨ret_bool (by simp [canTol, h1, h2, h3]), B1⟩

end Go.Proofs.Ytiegnhpccbnhhaa
