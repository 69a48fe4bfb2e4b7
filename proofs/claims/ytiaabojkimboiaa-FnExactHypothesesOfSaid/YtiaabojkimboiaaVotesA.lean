/-
  This file proves contracts of the program's and the reference's functions on votes: the test of votes, and the vote that is added.
  Conditions: each contract's own hypotheses (that a slice reads as a list, that it is not too long).
-/
import Derived.Test.YtiaabojkimboiaaCopy
namespace Go.Proofs.Ytiaabojkimboiaa
open Go.RowKit
set_option linter.unusedSimpArgs false
set_option linter.unusedVariables false

/-- Votes: all depths, from 1 to 20 of them. -/
def isVts (xs : List Int) : Bool := allDepth xs && inR xs.length 1 20
theorem isVts_all {xs : List Int} (h : isVts xs = true) : allDepth xs = true ∧ 1 ≤ xs.length ∧ xs.length ≤ 20 := by
  unfold isVts at h
  rw [Bool.and_eq_true, inR_true] at h
  obtain ⟨h1, h2, h3⟩ := h
  exact ⟨h1, by omega, by omega⟩

theorem areVotes_any (A : Option Addr) (c lo hi : Nat) (xs : List Int) (w : World) (hr : RdI w lo hi A xs) (hl : xs.length ≤ 4611686018427387904) :
    Calls Try.prog 29 #[.slice A xs.length c] w fun e w' => e = .returned (.bool (isVts xs)) ∧ w = w' := by
  go_enter Try.func29, Try.ntmps29
  go_wp2_with fail
  go_loop [7] (fun i => ∃ k : Nat, k ≤ xs.length ∧ i = .int .i64 k ∧ allDepth (xs.take k) = true) (fun i => xs.length - (intOf i).toNat)
  case atStart => exact ⟨0, Nat.zero_le _, rfl, rfl⟩
  case round =>
    obtain ⟨k, hk, rfl, hall⟩ := hrel
    by_cases hlt : k < xs.length
    · obtain ⟨b, off, x, rfl, hx, hcell⟩ := hr.geti hlt
      have HX := Lib.hid hx
      have HA := Lib.hid hall
      clear hall hx
      by_cases hd : inR x (-1000) 20000 = true
      · go_wp2_with (go_at_call 36; refine (isDepth_any _ _).mono ?_; rintro e w' ⟨rfl, rfl⟩)
        go_round
        case rel => exact ⟨k + 1, by omega, by go_num, allDepth_step HX.out HA.out hd⟩
        case measure => simp [intOf]; omega
      · have hd' : inR x (-1000) 20000 = false := by simpa using hd
        clear hd
        go_wp2_with (go_at_call 36; refine (isDepth_any _ _).mono ?_; rintro e w' ⟨rfl, rfl⟩)
        go_ret
        exact ⟨ret_bool (by rw [isVts, allDepth_bad HX.out hd']; rfl), rfl⟩
    · have HA := Lib.hid hall
      clear hall
      go_wp2_with (go_at_call 30; refine (inside_any _ _ _ _).mono ?_; rintro e w' ⟨rfl, rfl⟩)
      go_ret
      exact ⟨ret_bool (by have := HA.out; rw [take_all hlt] at this; rw [isVts, this]; rfl), rfl⟩

theorem l13Good_any (A : Option Addr) (c lo hi : Nat) (xs : List Int) (w : World) (hr : RdI w lo hi A xs) (hl : xs.length ≤ 4611686018427387904) :
    Calls Try.prog 27 #[.slice A xs.length c] w fun e w' => e = .returned (.bool (isVts xs)) ∧ w = w' := by
  go_enter Try.func27, Try.ntmps27
  go_wp2_with fail
  go_loop [3] (fun i => ∃ k : Nat, k ≤ xs.length ∧ i = .int .i64 k ∧ allDepth (xs.take k) = true) (fun i => xs.length - (intOf i).toNat)
  case atStart => exact ⟨0, Nat.zero_le _, rfl, rfl⟩
  case round =>
    obtain ⟨k, hk, rfl, hall⟩ := hrel
    by_cases hlt : k < xs.length
    · obtain ⟨b, off, x, rfl, hx, hcell⟩ := hr.geti hlt
      have HX := Lib.hid hx
      have HA := Lib.hid hall
      clear hall hx
      by_cases hd : inR x (-1000) 20000 = true
      · go_wp2_with (go_at_call 35; refine (l2Depth_any _ _).mono ?_; rintro e w' ⟨rfl, rfl⟩)
        go_round
        case rel => exact ⟨k + 1, by omega, by go_num, allDepth_step HX.out HA.out hd⟩
        case measure => simp [intOf]; omega
      · have hd' : inR x (-1000) 20000 = false := by simpa using hd
        clear hd
        go_wp2_with (go_at_call 35; refine (l2Depth_any _ _).mono ?_; rintro e w' ⟨rfl, rfl⟩)
        go_ret
        exact ⟨ret_bool (by rw [isVts, allDepth_bad HX.out hd']; rfl), rfl⟩
    · have HA := Lib.hid hall
      clear hall
      go_wp2_with (go_at_call 28; refine (l1In_any _ _ _ _).mono ?_; rintro e w' ⟨rfl, rfl⟩)
      go_ret
      exact ⟨ret_bool (by have := HA.out; rw [take_all hlt] at this; rw [isVts, this]; rfl), rfl⟩

/-! ### a vote that is added -/
def vAddVote (xs : List Int) (d : Int) : List Int × Bool := if isVts xs = true ∧ isVts (xs ++ [d]) = true then (xs ++ [d], true) else ([], false)
theorem vAddVote_len0 (xs : List Int) (d : Int) : (vAddVote xs d).1.length ≤ 1048576 := by
  unfold vAddVote
  split
  · rename_i h
    have := (isVts_all h.2).2.2
    simp only
    omega
  · simp

end Go.Proofs.Ytiaabojkimboiaa
