/-
  This file proves contracts of the median filter, of the program and of the reference: each inner depth is replaced by the median of three.
  Conditions: each contract's own hypotheses (that a slice reads as a list, that it is a track).
-/
import Derived.Test.YtchgcpdmomeofaaMed
import Derived.Test.YtchgcpdmomeofaaCopy
import Derived.StillTailTactics
namespace Go.Proofs.Ytchgcpdmomeofaa
open Go.RowKit
set_option linter.unusedSimpArgs false
set_option linter.unusedVariables false

set_option maxHeartbeats 2000000 in
set_option maxRecDepth 100000 in
theorem l12Filter_any {A : Option Addr} {c lo hi : Nat} {xs : List Int} {w : World} (hr : RdI w lo hi A xs) (hh : hi ≤ w.heap.size) (h1 : isTrk xs = true) :
    Calls Try.prog 52 #[.slice A xs.length c] w (RetInts (medL xs) w) := by
  obtain ⟨hall, hn3, hn30⟩ := isTrk_all h1
  clear h1 hall
  go_enter Try.func52, Try.ntmps52
  go_wp2_with fail
  refine (l1Own_any hr (by omega) hh).mono ?_
  rintro e w1 ⟨A0, c0, rfl, O0, B0⟩
  obtain ⟨g0, rfl, hg1, hg2⟩ := O0.length_pos (by omega)
  obtain ⟨h0, hh0⟩ : ∃ h0, h0 = w1.heap.size := ⟨_, rfl⟩
  have hh1 : h0 ≤ w1.heap.size := by omega
  have hs0 : w.heap.size ≤ h0 := by rw [hh0]; exact B0.size
  rw [← hh0] at O0 hg2
  clear hh0
  go_wp2_with fail
  go_loopw [4] (fun i wr => ∃ k : Nat, 1 ≤ k ∧ k + 1 ≤ xs.length ∧ i = .int .i64 k ∧ Own wr 3 w.heap.size h0 1 (some ⟨g0, 0, none⟩) xs.length c0 (ints (medTo xs k)) ∧ h0 ≤ wr.heap.size ∧ Below w.heap.size w wr) (fun i _ => xs.length - (intOf i).toNat)
  case atStart => exact ⟨1, Nat.le_refl _, by omega, rfl, by rw [medTo_one (by omega)]; exact O0, hh1, B0⟩
  case round =>
    obtain ⟨k, hk1, hk, rfl, hown, hsz, hb⟩ := hrel
    clear O0 B0 hh1
    by_cases hlt : k + 1 < xs.length
    rotate_left
    · obtain rfl : k = xs.length - 1 := by omega
      have q0 : ¬ ((xs.length - 1 : Nat) : Int) + 1 < (xs.length : Int) := by omega
      go_wp2_with fail
      go_ret
      have hl : (medL xs).length = xs.length := medL_length xs
      exact ⟨some ⟨g0, 0, none⟩, c0, by rw [hl]; rfl, by rw [OwnI, hl]; exact hown.more (Nat.le_refl _) hsz, hb⟩
    · obtain ⟨ba, off, hA, hblk, hcells⟩ := hr.rowi (show 0 < xs.length by omega)
      subst hA
      have hblk' : ba < w.heap.size := by omega
      obtain ⟨a, ha⟩ : ∃ a, xs[k - 1]? = some a := ⟨_, List.getElem?_eq_getElem (by omega)⟩
      obtain ⟨b, hbb⟩ : ∃ b, xs[k]? = some b := ⟨_, List.getElem?_eq_getElem (by omega)⟩
      obtain ⟨c2, hc⟩ : ∃ c2, xs[k + 1]? = some c2 := ⟨_, List.getElem?_eq_getElem (by omega)⟩
      have HM := Lib.hid (medF_is hk1 ha hbb hc)
      have HOWN := Lib.hid hown
      have hca := (hb.cell (p := ⟨ba, off + (k - 1), none⟩) hblk').trans (hcells _ _ ha)
      have hcb := (hb.cell (p := ⟨ba, off + k, none⟩) hblk').trans (hcells _ _ hbb)
      have hcc := (hb.cell (p := ⟨ba, off + (k + 1), none⟩) hblk').trans (hcells _ _ hc)
      have HW := Lib.hid hcells
      clear hcells ha hbb hc
      have hfr : wr.frozen? ⟨g0, k, none⟩ = false := hown.frozen k
      obtain ⟨u, hu⟩ : ∃ u, wr.cell? ⟨g0, k, none⟩ = some u := by
        have e1 := hown.1.cellAt k (by omega)
        have e2 : k < (ints (medTo xs k)).length := by rw [hown.length]; omega
        exact ⟨_, e1.trans (List.getElem?_eq_getElem e2)⟩
      clear hown
      have q1 : (k : Int) < (xs.length : Int) := by omega
      have q2 : (0 : Int) ≤ (k : Int) - 1 := by omega
      have q10 : (0 : Int) ≤ (k : Int) + 1 := by omega
      have q2b : (1 : Int) ≤ (k : Int) := by omega
      have q3 : ((k : Int) - 1).toNat = k - 1 := by omega
      have q7 : (k : Int) - 1 < (xs.length : Int) := by omega
      have q8 : (k : Int) + 1 < (xs.length : Int) := by omega
      have q9 : ((k : Int) + 1).toNat = k + 1 := by omega
      have q4 : IntKind.i64.wrap ((k : Int) - 1) = (k : Int) - 1 := wr64 (by omega) (by omega)
      have q5 : IntKind.i64.wrap ((k : Int) + 1) = (k : Int) + 1 := wr64 (by omega) (by omega)
      have HCALL := Lib.hid (show Calls Try.prog 66 #[.int .i64 a, .int .i64 b, .int .i64 c2] wr.drew (fun e w'' => e = .returned (.int .i64 (med3 a b c2)) ∧ w'' = wr.drew) from (l12Median_any a b c2 wr.drew).mono fun _ _ ⟨h1, h2⟩ => ⟨h1, h2.symm⟩)
      go_wp2_with fail
      refine wp_region_still_tail 18 (by kernel_rfl) (by kernel_rfl) ?_
      simp only [List.take_succ_cons, List.take_zero, List.drop_succ_cons, List.drop_zero]
      repeat still_step
      still_call (HCALL.out)
      repeat still_step
      refine wpStill_nil ?_
      change wpList _ _ _ _ _ wr.drew
      generalize hwx : wr.drew = wx
      have hown2 := own_drew hwx HOWN.out
      have hb2 := below_drew hwx hb
      have hsz2 : h0 ≤ wx.heap.size := by rw [← hwx]; exact hsz
      have hu2 : wx.cell? ⟨g0, k, none⟩ = some u := by rw [← hwx]; exact hu
      have hfr2 : wx.frozen? ⟨g0, k, none⟩ = false := by rw [← hwx]; exact hfr
      clear hwx hu hfr hca hcb hcc hb hsz q3 q4 q5 q9
      have hown' := hown2.store k (.int .i64 (med3 a b c2))
      rw [medTo_step (by omega) HM.out] at hown'
      go_wp2_with fail
      go_roundw
      case rel => exact ⟨k + 1, by omega, by omega, by go_num, hown', by simpa [World.setCell] using hsz2, hb2.setCell (by show _ ≤ g0; omega) _⟩
      case measure => simp [intOf]; omega

set_option maxHeartbeats 2000000 in
set_option maxRecDepth 100000 in
theorem medianFilter_any {A : Option Addr} {c lo hi : Nat} {xs : List Int} {w : World} (hr : RdI w lo hi A xs) (hh : hi ≤ w.heap.size) (h1 : isTrk xs = true) (hcap : xs.length ≤ c) :
    Calls Try.prog 50 #[.slice A xs.length c] w (RetInts (medL xs) w) := by
  obtain ⟨hall, hn3, hn30⟩ := isTrk_all h1
  clear h1 hall
  go_enter Try.func50, Try.ntmps50
  go_wp2_with fail
  refine (copyInts_any hr (by omega) hh).mono ?_
  rintro e w1 ⟨A0, c0, rfl, O0, B0⟩
  obtain ⟨g0, rfl, hg1, hg2⟩ := O0.length_pos (by omega)
  obtain ⟨h0, hh0⟩ : ∃ h0, h0 = w1.heap.size := ⟨_, rfl⟩
  have hh1 : h0 ≤ w1.heap.size := by omega
  have hs0 : w.heap.size ≤ h0 := by rw [hh0]; exact B0.size
  rw [← hh0] at O0 hg2
  clear hh0
  go_wp2_with fail
  go_loopw [4] (fun i wr => ∃ k : Nat, 1 ≤ k ∧ k + 1 ≤ xs.length ∧ i = .int .i64 k ∧ Own wr 3 w.heap.size h0 1 (some ⟨g0, 0, none⟩) xs.length c0 (ints (medTo xs k)) ∧ h0 ≤ wr.heap.size ∧ Below w.heap.size w wr) (fun i _ => xs.length - (intOf i).toNat)
  case atStart => exact ⟨1, Nat.le_refl _, by omega, rfl, by rw [medTo_one (by omega)]; exact O0, hh1, B0⟩
  case round =>
    obtain ⟨k, hk1, hk, rfl, hown, hsz, hb⟩ := hrel
    clear O0 B0 hh1
    by_cases hlt : k + 1 < xs.length
    rotate_left
    · obtain rfl : k = xs.length - 1 := by omega
      have q0 : ¬ ((xs.length - 1 : Nat) : Int) + 1 < (xs.length : Int) := by omega
      go_wp2_with fail
      go_ret
      have hl : (medL xs).length = xs.length := medL_length xs
      exact ⟨some ⟨g0, 0, none⟩, c0, by rw [hl]; rfl, by rw [OwnI, hl]; exact hown.more (Nat.le_refl _) hsz, hb⟩
    · obtain ⟨ba, off, hA, hblk, hcells⟩ := hr.rowi (show 0 < xs.length by omega)
      subst hA
      have hblk' : ba < w.heap.size := by omega
      obtain ⟨a, ha⟩ : ∃ a, xs[k - 1]? = some a := ⟨_, List.getElem?_eq_getElem (by omega)⟩
      obtain ⟨b, hbb⟩ : ∃ b, xs[k]? = some b := ⟨_, List.getElem?_eq_getElem (by omega)⟩
      obtain ⟨c2, hc⟩ : ∃ c2, xs[k + 1]? = some c2 := ⟨_, List.getElem?_eq_getElem (by omega)⟩
      have HM := Lib.hid (medF_is hk1 ha hbb hc)
      have HOWN := Lib.hid hown
      obtain ⟨ys, hys⟩ : ∃ ys, ys = [a, b, c2] := ⟨_, rfl⟩
      have hyl : ys.length ≤ 3 ∧ 3 ≤ ys.length := by rw [hys]; simp
      have hwy : wnd xs (k - 1) (k + 2) = ys := by rw [hys]; exact wnd_three hk1 ha hbb hc
      have hrd : Rd wr 0 (ba + 1) 1 (some ⟨ba, off + (k - 1), none⟩) (k + 2 - (k - 1)) (ints ys) := by
        rw [← hwy]
        exact rd_wnd (fun j x hx => (hb.cell (p := ⟨ba, off + j, none⟩) hblk').trans (hcells j x hx)) (by omega)
      have HS := Lib.hid (show (sortI ys)[1]? = some (med3 a b c2) from by rw [hys]; exact sortI_three a b c2)
      obtain ⟨hyl1, hyl2⟩ := hyl
      have hy1 : 1 < ys.length := by omega
      clear hys hwy hcells ha hbb hc
      have q1 : (0 : Int) ≤ (k : Int) - 1 := by omega
      have q2 : (k : Int) - 1 ≤ (k : Int) + 2 := by omega
      have q3 : (k : Int) + 2 ≤ (c : Int) := by omega
      have q4 : ¬ c = k - 1 := by omega
      have hba : ba + 1 ≤ wr.heap.size := by have := hb.size; omega
      go_wp2_with fail
      refine (copyIntsN_any hrd (by omega) hba).mono ?_
      rintro e w2 ⟨A2, c3, rfl, O2, B2⟩
      have hs2 := B2.size
      have hown2 := hown.below B2 hsz
      obtain ⟨g2, rfl, hg3, hg4⟩ := O2.length_pos (by omega)
      clear hown
      go_wp2_with fail
      refine (sort_any O2 (by omega)).mono ?_
      rintro e w3 ⟨rfl, O3, U3⟩
      have hs3 := U3.size
      have hown3 := hown2.only U3 (by omega) (by omega)
      have hb3 : Below w.heap.size w w3 := (hb.trans (B2.mono (by omega))).trans ((U3.below (by omega)).mono (by omega))
      have hc1 : w3.cell? ⟨g2, 1, none⟩ = some (.int .i64 (med3 a b c2)) := by
        rw [O3.1.cellAt 1 (by omega), ints, List.getElem?_map, HS.out]
        rfl
      have hfr : w3.frozen? ⟨g0, k, none⟩ = false := hown3.frozen k
      obtain ⟨u, hu⟩ : ∃ u, w3.cell? ⟨g0, k, none⟩ = some u := by
        have e1 := hown3.1.cellAt k (by omega)
        have e2 : k < (ints (medTo xs k)).length := by rw [hown3.length]; omega
        exact ⟨_, e1.trans (List.getElem?_eq_getElem e2)⟩
      have hown' := hown3.store k (.int .i64 (med3 a b c2))
      rw [medTo_step (by omega) HM.out] at hown'
      clear hown2 O2
      go_wp2_with fail
      go_roundw
      case rel => exact ⟨k + 1, by omega, by omega, by go_num, hown', by simp [World.setCell]; omega, hb3.setCell (by show _ ≤ g0; omega) _⟩
      case measure => simp [intOf]; omega

def vMedianFilter (xs : List Int) : List Int × Bool := if isTrk xs = true then (medL xs, true) else ([], false)
theorem vMedianFilter_len0 (xs : List Int) : (vMedianFilter xs).1.length ≤ xs.length := by
  unfold vMedianFilter
  split
  · simp only [medL_length]; omega
  · simp

set_option maxHeartbeats 1000000 in
theorem iMedianFilter {A : Option Addr} {c lo hi : Nat} {xs : List Int} {w : World} (hr : RdI w lo hi A xs) (hl : xs.length ≤ 4194304) (hh : hi ≤ w.heap.size) (hcap : xs.length ≤ c) :
    Calls Try.prog 23 #[.slice A xs.length c] w (RetLB (vMedianFilter xs).1 (vMedianFilter xs).2 w) := by
  by_cases h1 : isTrk xs = true
  rotate_left
  · have h1' : isTrk xs = false := by simpa using h1
    clear h1
    have HE := Lib.hid (show vMedianFilter xs = ([], false) from by unfold vMedianFilter; rw [if_neg (by simp [h1'])])
    go_enter Try.func23, Try.ntmps23
    go_wp2_with (go_at_call 10; refine (isTrack_any _ _ _ _ _ _ hr (by omega)).mono ?_; rintro e w' ⟨rfl, rfl⟩)
    go_ret2
    rw [HE.out]
    exact retLB_nil _ _ _ (Below.refl _ _)
  have HE := Lib.hid (show vMedianFilter xs = (medL xs, true) from by unfold vMedianFilter; rw [if_pos h1])
  go_enter Try.func23, Try.ntmps23
  go_wp2_with (go_at_call 10; refine (isTrack_any _ _ _ _ _ _ hr (by omega)).mono ?_; rintro e w' ⟨rfl, rfl⟩)
  refine (medianFilter_any hr hh h1 hcap).mono ?_
  rintro e w1 ⟨A1, c1, rfl, O1, B1⟩
  have HL := Lib.hid (medL_length xs)
  go_wp2_with fail
  go_ret2
  rw [HE.out]
  exact ⟨A1, c1, rfl, O1, B1⟩

set_option maxHeartbeats 1000000 in
theorem sMedianFilter {A : Option Addr} {c lo hi : Nat} {xs : List Int} {w : World} (hr : RdI w lo hi A xs) (hl : xs.length ≤ 4194304) (hh : hi ≤ w.heap.size) :
    Calls Try.prog 24 #[.slice A xs.length c] w (RetLB (vMedianFilter xs).1 (vMedianFilter xs).2 w) := by
  by_cases h1 : isTrk xs = true
  rotate_left
  · have h1' : isTrk xs = false := by simpa using h1
    clear h1
    have HE := Lib.hid (show vMedianFilter xs = ([], false) from by unfold vMedianFilter; rw [if_neg (by simp [h1'])])
    go_enter Try.func24, Try.ntmps24
    go_wp2_with (go_at_call 46; refine (l12Good_any _ _ _ _ _ _ hr (by omega)).mono ?_; rintro e w' ⟨rfl, rfl⟩)
    go_ret2
    rw [HE.out]
    exact retLB_of (row_empty _ _ _) (below_alloc1 _ _)
  have HE := Lib.hid (show vMedianFilter xs = (medL xs, true) from by unfold vMedianFilter; rw [if_pos h1])
  go_enter Try.func24, Try.ntmps24
  go_wp2_with (go_at_call 46; refine (l12Good_any _ _ _ _ _ _ hr (by omega)).mono ?_; rintro e w' ⟨rfl, rfl⟩)
  refine (l12Filter_any hr hh h1).mono ?_
  rintro e w1 ⟨A1, c1, rfl, O1, B1⟩
  have HL := Lib.hid (medL_length xs)
  go_wp2_with fail
  go_ret2
  rw [HE.out]
  exact ⟨A1, c1, rfl, O1, B1⟩

end Go.Proofs.Ytchgcpdmomeofaa
