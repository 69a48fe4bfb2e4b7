/-
  This file proves contracts of the program's and the reference's functions on tracks of depths: each returns what one plain function returns.
  Conditions: each contract's own hypotheses (that a slice reads as a list, that it is not too long).
-/
import Derived.Test.YtchgcpdmomeofaaBase
namespace Go.Proofs.Ytchgcpdmomeofaa
open Go.RowKit
set_option linter.unusedSimpArgs false
set_option linter.unusedVariables false

/-- A track: all depths, from 3 to 30 of them. -/
def isTrk (xs : List Int) : Bool := allDepth xs && inR xs.length 3 30
theorem isTrk_all {xs : List Int} (h : isTrk xs = true) : allDepth xs = true ∧ 3 ≤ xs.length ∧ xs.length ≤ 30 := by
  unfold isTrk at h
  rw [Bool.and_eq_true, inR_true] at h
  obtain ⟨h1, h2, h3⟩ := h
  exact ⟨h1, by omega, by omega⟩

theorem isTrack_any (A : Option Addr) (c lo hi : Nat) (xs : List Int) (w : World) (hr : RdI w lo hi A xs) (hl : xs.length ≤ 4611686018427387904) :
    Calls Try.prog 10 #[.slice A xs.length c] w fun e w' => e = .returned (.bool (isTrk xs)) ∧ w = w' := by
  go_enter Try.func10, Try.ntmps10
  go_wp2_with fail
  go_loop [7] (fun i => ∃ k : Nat, k ≤ xs.length ∧ i = .int .i64 k ∧ allDepth (xs.take k) = true) (fun i => xs.length - (intOf i).toNat)
  case atStart => exact ⟨0, Nat.zero_le _, rfl, rfl⟩
  case round =>
    obtain ⟨k, hk, rfl, hall⟩ := hrel
    by_cases hlt : k < xs.length
    · obtain ⟨b, off, x, rfl, hx, hcell⟩ := hr.geti hlt
      have HX := Lib.hid hx
      have HA := Lib.hid hall
      clear hall hx
      by_cases hd : inR x (-1000) 20000 = true
      · go_wp2_with (go_at_call 44; refine (isDepth_any _ _).mono ?_; rintro e w' ⟨rfl, rfl⟩)
        go_round
        case rel => exact ⟨k + 1, by omega, by go_num, allDepth_step HX.out HA.out hd⟩
        case measure => simp [intOf]; omega
      · have hd' : inR x (-1000) 20000 = false := by simpa using hd
        clear hd
        go_wp2_with (go_at_call 44; refine (isDepth_any _ _).mono ?_; rintro e w' ⟨rfl, rfl⟩)
        go_ret
        exact ⟨ret_bool (by rw [isTrk, allDepth_bad HX.out hd']; rfl), rfl⟩
    · have HA := Lib.hid hall
      clear hall
      go_wp2_with (go_at_call 45; refine (inside_any _ _ _ _).mono ?_; rintro e w' ⟨rfl, rfl⟩)
      go_ret
      exact ⟨ret_bool (by have := HA.out; rw [take_all hlt] at this; rw [isTrk, this]; rfl), rfl⟩

theorem l12Good_any (A : Option Addr) (c lo hi : Nat) (xs : List Int) (w : World) (hr : RdI w lo hi A xs) (hl : xs.length ≤ 4611686018427387904) :
    Calls Try.prog 46 #[.slice A xs.length c] w fun e w' => e = .returned (.bool (isTrk xs)) ∧ w = w' := by
  go_enter Try.func46, Try.ntmps46
  go_wp2_with fail
  go_loop [3] (fun i => ∃ k : Nat, k ≤ xs.length ∧ i = .int .i64 k ∧ allDepth (xs.take k) = true) (fun i => xs.length - (intOf i).toNat)
  case atStart => exact ⟨0, Nat.zero_le _, rfl, rfl⟩
  case round =>
    obtain ⟨k, hk, rfl, hall⟩ := hrel
    by_cases hlt : k < xs.length
    · obtain ⟨b, off, x, rfl, hx, hcell⟩ := hr.geti hlt
      have HX := Lib.hid hx
      have HA := Lib.hid hall
      clear hall hx
      by_cases hd : inR x (-1000) 20000 = true
      · go_wp2_with (go_at_call 63; refine (l2Depth_any _ _).mono ?_; rintro e w' ⟨rfl, rfl⟩)
        go_round
        case rel => exact ⟨k + 1, by omega, by go_num, allDepth_step HX.out HA.out hd⟩
        case measure => simp [intOf]; omega
      · have hd' : inR x (-1000) 20000 = false := by simpa using hd
        clear hd
        go_wp2_with (go_at_call 63; refine (l2Depth_any _ _).mono ?_; rintro e w' ⟨rfl, rfl⟩)
        go_ret
        exact ⟨ret_bool (by rw [isTrk, allDepth_bad HX.out hd']; rfl), rfl⟩
    · have HA := Lib.hid hall
      clear hall
      go_wp2_with (go_at_call 55; refine (l1In_any _ _ _ _).mono ?_; rintro e w' ⟨rfl, rfl⟩)
      go_ret
      exact ⟨ret_bool (by have := HA.out; rw [take_all hlt] at this; rw [isTrk, this]; rfl), rfl⟩

theorem isLimit_any (n : Int) (w : World) : Calls Try.prog 40 #[.int .i64 n] w fun e w' => e = .returned (.bool (inR n 1 5000)) ∧ w = w' := by
  go_enter Try.func40, Try.ntmps40
  go_wp2_with (go_at_call 45; refine (inside_any _ _ _ _).mono ?_; rintro e w' ⟨rfl, rfl⟩)
  go_ret
  exact ⟨rfl, rfl⟩

theorem l12Asked_any (A : Option Addr) (c lo hi : Nat) (xs : List Int) (n : Int) (w : World) (hr : RdI w lo hi A xs) (hl : xs.length ≤ 4611686018427387904) :
    Calls Try.prog 42 #[.slice A xs.length c, .int .i64 n] w fun e w' => e = .returned (.bool (isTrk xs && inR n 1 5000)) ∧ w = w' := by
  by_cases h : isTrk xs = true
  · go_enter Try.func42, Try.ntmps42
    go_wp2_with (first
      | (go_at_call 46; refine (l12Good_any _ _ _ _ _ _ hr hl).mono ?_; rintro e w' ⟨rfl, rfl⟩)
      | (go_at_call 55; refine (l1In_any _ _ _ _).mono ?_; rintro e w' ⟨rfl, rfl⟩))
    go_ret
    exact ⟨by simp [h], rfl⟩
  · have h' : isTrk xs = false := by simpa using h
    clear h
    go_enter Try.func42, Try.ntmps42
    go_wp2_with (first
      | (go_at_call 46; refine (l12Good_any _ _ _ _ _ _ hr hl).mono ?_; rintro e w' ⟨rfl, rfl⟩)
      | (go_at_call 55; refine (l1In_any _ _ _ _).mono ?_; rintro e w' ⟨rfl, rfl⟩))
    go_ret
    exact ⟨by simp [h'], rfl⟩

def vIsTrack (xs : List Int) : Bool := isTrk xs
theorem sIsTrack {A : Option Addr} {c lo hi : Nat} {xs : List Int} {w : World} (hr : RdI w lo hi A xs) (hl : xs.length ≤ 4194304) (hh : hi ≤ w.heap.size) :
    Calls Try.prog 11 #[.slice A xs.length c] w (RetB (vIsTrack xs) w) := by
  go_enter Try.func11, Try.ntmps11
  go_wp2_with (go_at_call 46; refine (l12Good_any _ _ _ _ _ _ hr (by omega)).mono ?_; rintro e w' ⟨rfl, rfl⟩)
  go_ret
  exact ⟨rfl, Below.refl _ _⟩
theorem iIsTrack {A : Option Addr} {c lo hi : Nat} {xs : List Int} {w : World} (hr : RdI w lo hi A xs) (hl : xs.length ≤ 4194304) (hh : hi ≤ w.heap.size) :
    Calls Try.prog 10 #[.slice A xs.length c] w (RetB (vIsTrack xs) w) :=
  (isTrack_any A c lo hi xs w hr (by omega)).mono fun _ _ ⟨he, hw⟩ => ⟨he, by subst hw; exact Below.refl _ _⟩

end Go.Proofs.Ytchgcpdmomeofaa
