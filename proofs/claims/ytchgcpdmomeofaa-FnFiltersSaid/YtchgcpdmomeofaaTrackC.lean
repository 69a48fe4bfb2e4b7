/-
  This file proves contracts of functions on tracks: the roughness, the kept depths, the longest smooth part; the program's and the reference's return the same plain function.
  Conditions: each contract's own hypotheses (that a slice reads as a list, that it is not too long).
-/
import Derived.Test.YtchgcpdmomeofaaTrackA
import Derived.Test.YtchgcpdmomeofaaBase2
namespace Go.Proofs.Ytchgcpdmomeofaa
open Go.RowKit
set_option linter.unusedSimpArgs false
set_option linter.unusedVariables false

/-! ### the roughness -/
def stepSize (xs : List Int) (j : Nat) : Int := absI (xs.getD (j + 1) 0 - xs.getD j 0)
def vRoughnessOf (xs : List Int) : Int × Bool := if isTrk xs = true then (rsum (stepSize xs) (xs.length - 1), true) else (0, false)
theorem stepSize_is {xs : List Int} {j : Nat} {x y : Int} (hx : xs[j + 1]? = some x) (hy : xs[j]? = some y) : stepSize xs j = absI (x - y) := by
  unfold stepSize
  rw [getD_of hx, getD_of hy]
theorem stepSize_bound {xs : List Int} (h : allDepth xs = true) {j : Nat} (hj : j + 1 < xs.length) : 0 ≤ stepSize xs j ∧ stepSize xs j ≤ (21000 : Nat) := by
  have hx : xs[j + 1]? = some xs[j + 1] := List.getElem?_eq_getElem hj
  have hy : xs[j]? = some xs[j] := List.getElem?_eq_getElem (by omega)
  have h1 := allDepth_get h hx
  have h2 := allDepth_get h hy
  rw [stepSize_is hx hy]
  exact ⟨absI_nonneg _, absI_le (by omega) (by omega)⟩
theorem rough_bound {xs : List Int} (h : isTrk xs = true) {k : Nat} (hk : k + 1 ≤ xs.length) : 0 ≤ rsum (stepSize xs) k ∧ rsum (stepSize xs) k ≤ 630000 := by
  obtain ⟨h1, _, h3⟩ := isTrk_all h
  have := rsum_bound (f := stepSize xs) (B := 21000) (k := k) (fun i hi => stepSize_bound h1 (by omega))
  omega

set_option maxHeartbeats 1000000 in
theorem iRoughnessOf {A : Option Addr} {c lo hi : Nat} {xs : List Int} {w : World} (hr : RdI w lo hi A xs) (hl : xs.length ≤ 4194304) (hh : hi ≤ w.heap.size) :
    Calls Try.prog 29 #[.slice A xs.length c] w (RetIB (vRoughnessOf xs).1 (vRoughnessOf xs).2 w) := by
  by_cases h1 : isTrk xs = true
  rotate_left
  · have h1' : isTrk xs = false := by simpa using h1
    clear h1
    have HE := Lib.hid (show vRoughnessOf xs = (0, false) from by unfold vRoughnessOf; rw [if_neg (by simp [h1'])])
    go_enter Try.func29, Try.ntmps29
    go_wp2_with (go_at_call 10; refine (isTrack_any _ _ _ _ _ _ hr (by omega)).mono ?_; rintro e w' ⟨rfl, rfl⟩)
    go_ret2
    rw [HE.out]
    exact ⟨rfl, Below.refl _ _⟩
  · have HE := Lib.hid (show vRoughnessOf xs = (rsum (stepSize xs) (xs.length - 1), true) from by unfold vRoughnessOf; rw [if_pos h1])
    have HD := Lib.hid (isTrk_all h1).1
    have hn3 := (isTrk_all h1).2.1
    go_enter Try.func29, Try.ntmps29
    go_wp2_with (go_at_call 10; refine (isTrack_any _ _ _ _ _ _ hr (by omega)).mono ?_; rintro e w' ⟨rfl, rfl⟩)
    go_loopw [4, 5] (fun s i wr => ∃ k : Nat, k + 1 ≤ xs.length ∧ i = .int .i64 ((k : Int) + 1) ∧ s = .int .i64 (rsum (stepSize xs) k) ∧ Below w.heap.size w wr) (fun _ i _ => xs.length - (intOf i).toNat)
    case atStart => exact ⟨0, by omega, rfl, rfl, Below.refl _ _⟩
    case round =>
      obtain ⟨k, hk, rfl, rfl, hb⟩ := hrel
      have hsb := rough_bound h1 hk
      obtain ⟨s, hs⟩ : ∃ s, s = rsum (stepSize xs) k := ⟨_, rfl⟩
      rw [← hs] at hsb ⊢
      have HS := Lib.hid hs
      clear hs
      by_cases hlt : k + 1 < xs.length
      · obtain ⟨b, off, y, rfl, hy, hcell'⟩ := (hr.below hb hh).geti (show k < xs.length by omega)
        obtain ⟨b2, off2, x, hA, hx, hcell⟩ := (hr.below hb hh).geti hlt
        obtain ⟨rfl, rfl⟩ : b2 = b ∧ off2 = off := by cases hA; exact ⟨rfl, rfl⟩
        have hbx := allDepth_get HD.out hx
        have hby := allDepth_get HD.out hy
        have hab := absI_nonneg (x - y)
        have hab' := absI_le (n := x - y) (b := 21000) (by omega) (by omega)
        have HN := Lib.hid (stepSize_is hx hy)
        clear hx hy hA
        have q1 : (k : Int) + 1 < (xs.length : Int) := by omega
        have q2 : (0 : Int) ≤ (k : Int) + 1 := by omega
        have q3 : ((k : Int) + 1).toNat = k + 1 := by omega
        have q7 : k < xs.length := by omega
        have q4 : IntKind.i64.wrap (k : Int) = k := wr64 (by omega) (by omega)
        have q5 : IntKind.i64.wrap (x - y) = x - y := wr64 (by omega) (by omega)
        have q6 : IntKind.i64.wrap (s + absI (x - y)) = s + absI (x - y) := wr64 (by omega) (by omega)
        go_wp2_with fail
        go_quiet ((go_at_call 60; exact quiet_left (absOf_any _ _ (by omega) (by omega))))
        clear q1 q2 q3 q4 q5 q6 q7
        go_wp2_with fail
        go_roundw
        case rel => exact ⟨k + 1, by omega, by go_num, by rw [rsum_succ, HN.out, ← HS.out], below_drewN hb _⟩
        case measure => simp [intOf]; omega
      · obtain rfl : k = xs.length - 1 := by omega
        go_wp2_with fail
        go_ret2
        rw [HE.out, ← HS.out]
        exact ⟨rfl, hb⟩

set_option maxHeartbeats 1000000 in
theorem sRoughnessOf {A : Option Addr} {c lo hi : Nat} {xs : List Int} {w : World} (hr : RdI w lo hi A xs) (hl : xs.length ≤ 4194304) (hh : hi ≤ w.heap.size) :
    Calls Try.prog 30 #[.slice A xs.length c] w (RetIB (vRoughnessOf xs).1 (vRoughnessOf xs).2 w) := by
  by_cases h1 : isTrk xs = true
  rotate_left
  · have h1' : isTrk xs = false := by simpa using h1
    clear h1
    have HE := Lib.hid (show vRoughnessOf xs = (0, false) from by unfold vRoughnessOf; rw [if_neg (by simp [h1'])])
    go_enter Try.func30, Try.ntmps30
    go_wp2_with (go_at_call 46; refine (l12Good_any _ _ _ _ _ _ hr (by omega)).mono ?_; rintro e w' ⟨rfl, rfl⟩)
    go_ret2
    rw [HE.out]
    exact ⟨rfl, Below.refl _ _⟩
  · have HE := Lib.hid (show vRoughnessOf xs = (rsum (stepSize xs) (xs.length - 1), true) from by unfold vRoughnessOf; rw [if_pos h1])
    have HD := Lib.hid (isTrk_all h1).1
    have hn3 := (isTrk_all h1).2.1
    go_enter Try.func30, Try.ntmps30
    go_wp2_with (go_at_call 46; refine (l12Good_any _ _ _ _ _ _ hr (by omega)).mono ?_; rintro e w' ⟨rfl, rfl⟩)
    go_loopw [4, 5] (fun s i wr => ∃ k : Nat, k + 1 ≤ xs.length ∧ i = .int .i64 ((k : Int) + 1) ∧ s = .int .i64 (rsum (stepSize xs) k) ∧ Below w.heap.size w wr) (fun _ i _ => xs.length - (intOf i).toNat)
    case atStart => exact ⟨0, by omega, rfl, rfl, Below.refl _ _⟩
    case round =>
      obtain ⟨k, hk, rfl, rfl, hb⟩ := hrel
      have hsb := rough_bound h1 hk
      obtain ⟨s, hs⟩ : ∃ s, s = rsum (stepSize xs) k := ⟨_, rfl⟩
      rw [← hs] at hsb ⊢
      have HS := Lib.hid hs
      clear hs
      by_cases hlt : k + 1 < xs.length
      · obtain ⟨b, off, y, rfl, hy, hcell'⟩ := (hr.below hb hh).geti (show k < xs.length by omega)
        obtain ⟨b2, off2, x, hA, hx, hcell⟩ := (hr.below hb hh).geti hlt
        obtain ⟨rfl, rfl⟩ : b2 = b ∧ off2 = off := by cases hA; exact ⟨rfl, rfl⟩
        have hbx := allDepth_get HD.out hx
        have hby := allDepth_get HD.out hy
        have hab := absI_nonneg (x - y)
        have hab' := absI_le (n := x - y) (b := 21000) (by omega) (by omega)
        have HN := Lib.hid (stepSize_is hx hy)
        clear hx hy hA
        have q1 : (k : Int) + 1 < (xs.length : Int) := by omega
        have q2 : (0 : Int) ≤ (k : Int) + 1 := by omega
        have q3 : ((k : Int) + 1).toNat = k + 1 := by omega
        have q7 : k < xs.length := by omega
        have q4 : IntKind.i64.wrap (k : Int) = k := wr64 (by omega) (by omega)
        have q5 : IntKind.i64.wrap (x - y) = x - y := wr64 (by omega) (by omega)
        have q6 : IntKind.i64.wrap (s + absI (x - y)) = s + absI (x - y) := wr64 (by omega) (by omega)
        go_wp2_with fail
        go_quiet ((go_at_call 61; exact quiet_left (l10Size_any _ _ (by omega) (by omega))))
        clear q1 q2 q3 q4 q5 q6 q7
        go_wp2_with fail
        go_roundw
        case rel => exact ⟨k + 1, by omega, by go_num, by rw [rsum_succ, HN.out, ← HS.out], below_drewN hb _⟩
        case measure => simp [intOf]; omega
      · obtain rfl : k = xs.length - 1 := by omega
        go_wp2_with fail
        go_ret2
        rw [HE.out, ← HS.out]
        exact ⟨rfl, hb⟩

end Go.Proofs.Ytchgcpdmomeofaa
