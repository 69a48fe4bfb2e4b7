/-
  This file proves contracts of functions on tracks: where one track is shoaler, the roughness, the kept depths, the longest smooth part; the program's and the reference's return the same plain function.
  Conditions: each contract's own hypotheses (that a slice reads as a list, that it is not too long).
-/
import Derived.Test.YtchgcpdmomeofaaTrackA
namespace Go.Proofs.Ytchgcpdmomeofaa
open Go.RowKit
set_option linter.unusedSimpArgs false
set_option linter.unusedVariables false

/-! ### where one track is shoaler -/
def pShoal (xs ys : List Int) (i : Nat) : Bool := decide (xs.getD i 0 < ys.getD i 0)
def vWhereShoaler (xs ys : List Int) : List Int × Bool :=
  if isTrk xs = true ∧ isTrk ys = true ∧ xs.length = ys.length then (gath (pShoal xs ys) (fun i => (i : Int)) xs.length, true) else ([], false)
theorem vWhereShoaler_len0 (xs ys : List Int) : (vWhereShoaler xs ys).1.length ≤ xs.length := by
  unfold vWhereShoaler
  split
  · exact gath_le _ _ _
  · simp
theorem pShoal_is {xs ys : List Int} {k : Nat} {x y : Int} (hx : xs[k]? = some x) (hy : ys[k]? = some y) {b : Bool} (h : decide (x < y) = b) : pShoal xs ys k = b := by
  unfold pShoal
  rw [getD_of hx, getD_of hy]
  exact h

set_option maxHeartbeats 1000000 in
theorem iWhereShoaler {A B : Option Addr} {c d lo hi lo' hi' : Nat} {xs ys : List Int} {w : World} (hr : RdI w lo hi A xs) (hl : xs.length ≤ 4194304) (hh : hi ≤ w.heap.size) (hr' : RdI w lo' hi' B ys) (hl' : ys.length ≤ 4194304) (hh' : hi' ≤ w.heap.size) :
    Calls Try.prog 36 #[.slice A xs.length c, .slice B ys.length d] w (RetLB (vWhereShoaler xs ys).1 (vWhereShoaler xs ys).2 w) := by
  obtain ⟨i0, hi0, hz0, hz1, hz2⟩ := info_parts int_info
  by_cases h1 : isTrk xs = true
  rotate_left
  · have h1' : isTrk xs = false := by simpa using h1
    clear h1
    have HE := Lib.hid (show vWhereShoaler xs ys = ([], false) from by unfold vWhereShoaler; rw [if_neg (by simp [h1'])])
    go_enter Try.func36, Try.ntmps36
    go_wp2_with fail
    refine (isTrack_any _ _ _ _ _ _ hr (by omega)).mono ?_
    rintro e w' ⟨rfl, rfl⟩
    go_wp2_with fail
    go_ret2
    rw [HE.out]
    exact retLB_nil _ _ _ (Below.refl _ _)
  by_cases h2 : isTrk ys = true
  rotate_left
  · have h2' : isTrk ys = false := by simpa using h2
    clear h2
    have HE := Lib.hid (show vWhereShoaler xs ys = ([], false) from by unfold vWhereShoaler; rw [if_neg (by simp [h2'])])
    go_enter Try.func36, Try.ntmps36
    go_wp2_with fail
    refine (isTrack_any _ _ _ _ _ _ hr (by omega)).mono ?_
    rintro e w' ⟨rfl, rfl⟩
    go_wp2_with fail
    refine (isTrack_any _ _ _ _ _ _ hr' (by omega)).mono ?_
    rintro e w' ⟨rfl, rfl⟩
    go_wp2_with fail
    go_ret2
    rw [HE.out]
    exact retLB_nil _ _ _ (Below.refl _ _)
  by_cases h3 : xs.length = ys.length
  rotate_left
  · have h3' : ((xs.length : Int) != (ys.length : Int)) = true := by rw [bne_iff_ne]; omega
    have HE := Lib.hid (show vWhereShoaler xs ys = ([], false) from by unfold vWhereShoaler; rw [if_neg (by simp [h3])])
    clear h3
    go_enter Try.func36, Try.ntmps36
    go_wp2_with fail
    refine (isTrack_any _ _ _ _ _ _ hr (by omega)).mono ?_
    rintro e w' ⟨rfl, rfl⟩
    go_wp2_with fail
    refine (isTrack_any _ _ _ _ _ _ hr' (by omega)).mono ?_
    rintro e w' ⟨rfl, rfl⟩
    go_wp2_with fail
    go_ret2
    rw [HE.out]
    exact retLB_nil _ _ _ (Below.refl _ _)
  · have h3' : ((xs.length : Int) != (ys.length : Int)) = false := by rw [bne_eq_false_iff_eq]; omega
    have HE := Lib.hid (show vWhereShoaler xs ys = (gath (pShoal xs ys) (fun i => (i : Int)) xs.length, true) from by unfold vWhereShoaler; rw [if_pos ⟨h1, h2, h3⟩])
    have HL := Lib.hid h3
    clear h3
    go_enter Try.func36, Try.ntmps36
    go_wp2_with fail
    refine (isTrack_any _ _ _ _ _ _ hr (by omega)).mono ?_
    rintro e w' ⟨rfl, rfl⟩
    go_wp2_with fail
    refine (isTrack_any _ _ _ _ _ _ hr' (by omega)).mono ?_
    rintro e w' ⟨rfl, rfl⟩
    go_wp2_with fail
    go_loopw [6, 27] (fun v i wr => ∃ k : Nat, k ≤ xs.length ∧ i = .int .i64 k ∧ wr.ownsRow w.heap.size 3 1 v (gath (pShoal xs ys) (fun i => (i : Int)) k).length (ints (gath (pShoal xs ys) (fun i => (i : Int)) k)) ∧ Below w.heap.size w wr) (fun _ i _ => xs.length - (intOf i).toNat)
    case atStart => exact ⟨0, Nat.zero_le _, rfl, row_empty _ _ _, below_alloc1 _ _⟩
    case round =>
      obtain ⟨k, hk, rfl, hown, hb⟩ := hrel
      have hgl := gath_le (pShoal xs ys) (fun i => (i : Int)) k
      by_cases hlt : k < xs.length
      · obtain ⟨b, off, x, rfl, hx, hcell⟩ := (hr.below hb hh).geti hlt
        obtain ⟨b', off', y, rfl, hy, hcell'⟩ := (hr'.below hb hh').geti (show k < ys.length by have := HL.out; omega)
        have hlt' : k < ys.length := by have := HL.out; omega
        have HX := Lib.hid hx
        have HY := Lib.hid hy
        clear hx hy
        by_cases hxy : x < y
        · have HP := Lib.hid (pShoal_is HX.out HY.out (decide_eq_true hxy))
          go_wp2_with (at_builtin; refine wpList_push _ rfl _ _ 24 rfl w.heap.size 3 i0 (.int .i64 0) 1 8 Try.underlying24 hi0 hz0 hz1 hz2 rfl (by decide) _ _ _ rfl hown [.int .i64 ↑k] rfl (one_int _) rfl (by omega) (by decide) hb.size ?_; intro v1 w1 hown1 hb1 hs1 _ _)
          go_roundw
          case rel => exact ⟨k + 1, by omega, by go_num, push_rel (gath_yes HP.out rfl) hown1, hb1 _ hb⟩
          case measure => simp [intOf]; omega
        · have HP := Lib.hid (pShoal_is HX.out HY.out (decide_eq_false hxy))
          have hge : y ≤ x := by omega
          clear hxy
          go_wp2_with fail
          go_roundw
          case rel => exact ⟨k + 1, by omega, by go_num, by rw [gath_no HP.out]; exact hown, hb⟩
          case measure => simp [intOf]; omega
      · obtain rfl : k = xs.length := by omega
        go_wp2_with fail
        go_ret2
        rw [HE.out]
        exact retLB_of hown hb

set_option maxHeartbeats 1000000 in
theorem sWhereShoaler {A B : Option Addr} {c d lo hi lo' hi' : Nat} {xs ys : List Int} {w : World} (hr : RdI w lo hi A xs) (hl : xs.length ≤ 4194304) (hh : hi ≤ w.heap.size) (hr' : RdI w lo' hi' B ys) (hl' : ys.length ≤ 4194304) (hh' : hi' ≤ w.heap.size) :
    Calls Try.prog 37 #[.slice A xs.length c, .slice B ys.length d] w (RetLB (vWhereShoaler xs ys).1 (vWhereShoaler xs ys).2 w) := by
  obtain ⟨i0, hi0, hz0, hz1, hz2⟩ := info_parts int_info
  by_cases h1 : isTrk xs = true
  rotate_left
  · have h1' : isTrk xs = false := by simpa using h1
    clear h1
    have HE := Lib.hid (show vWhereShoaler xs ys = ([], false) from by unfold vWhereShoaler; rw [if_neg (by simp [h1'])])
    go_enter Try.func37, Try.ntmps37
    go_wp2_with fail
    refine (l12Good_any _ _ _ _ _ _ (hr.below (below_alloc1 _ _) hh) (by omega)).mono ?_
    rintro e w' ⟨rfl, rfl⟩
    go_wp2_with fail
    go_ret2
    rw [HE.out]
    exact retLB_of (row_empty _ _ _) (below_alloc1 _ _)
  by_cases h2 : isTrk ys = true
  rotate_left
  · have h2' : isTrk ys = false := by simpa using h2
    clear h2
    have HE := Lib.hid (show vWhereShoaler xs ys = ([], false) from by unfold vWhereShoaler; rw [if_neg (by simp [h2'])])
    go_enter Try.func37, Try.ntmps37
    go_wp2_with fail
    refine (l12Good_any _ _ _ _ _ _ (hr.below (below_alloc1 _ _) hh) (by omega)).mono ?_
    rintro e w' ⟨rfl, rfl⟩
    go_wp2_with fail
    refine (l12Good_any _ _ _ _ _ _ (hr'.below (below_alloc1 _ _) hh') (by omega)).mono ?_
    rintro e w' ⟨rfl, rfl⟩
    go_wp2_with fail
    go_ret2
    rw [HE.out]
    exact retLB_of (row_empty _ _ _) (below_alloc1 _ _)
  by_cases h3 : xs.length = ys.length
  rotate_left
  · have h3' : ((ys.length : Int) != (xs.length : Int)) = true := by rw [bne_iff_ne]; omega
    have HE := Lib.hid (show vWhereShoaler xs ys = ([], false) from by unfold vWhereShoaler; rw [if_neg (by simp [h3])])
    clear h3
    go_enter Try.func37, Try.ntmps37
    go_wp2_with fail
    refine (l12Good_any _ _ _ _ _ _ (hr.below (below_alloc1 _ _) hh) (by omega)).mono ?_
    rintro e w' ⟨rfl, rfl⟩
    go_wp2_with fail
    refine (l12Good_any _ _ _ _ _ _ (hr'.below (below_alloc1 _ _) hh') (by omega)).mono ?_
    rintro e w' ⟨rfl, rfl⟩
    go_wp2_with fail
    go_ret2
    rw [HE.out]
    exact retLB_of (row_empty _ _ _) (below_alloc1 _ _)
  · have h3' : ((ys.length : Int) != (xs.length : Int)) = false := by rw [bne_eq_false_iff_eq]; omega
    have HE := Lib.hid (show vWhereShoaler xs ys = (gath (pShoal xs ys) (fun i => (i : Int)) xs.length, true) from by unfold vWhereShoaler; rw [if_pos ⟨h1, h2, h3⟩])
    have HL := Lib.hid h3
    clear h3
    go_enter Try.func37, Try.ntmps37
    go_wp2_with fail
    refine (l12Good_any _ _ _ _ _ _ (hr.below (below_alloc1 _ _) hh) (by omega)).mono ?_
    rintro e w' ⟨rfl, rfl⟩
    go_wp2_with fail
    refine (l12Good_any _ _ _ _ _ _ (hr'.below (below_alloc1 _ _) hh') (by omega)).mono ?_
    rintro e w' ⟨rfl, rfl⟩
    go_wp2_with fail
    go_loopw [6, 7] (fun v i wr => ∃ k : Nat, k ≤ xs.length ∧ i = .int .i64 k ∧ wr.ownsRow w.heap.size 3 1 v (gath (pShoal xs ys) (fun i => (i : Int)) k).length (ints (gath (pShoal xs ys) (fun i => (i : Int)) k)) ∧ Below w.heap.size w wr) (fun _ i _ => xs.length - (intOf i).toNat)
    case atStart => exact ⟨0, Nat.zero_le _, rfl, row_empty _ _ _, below_alloc1 _ _⟩
    case round =>
      obtain ⟨k, hk, rfl, hown, hb⟩ := hrel
      have hgl := gath_le (pShoal xs ys) (fun i => (i : Int)) k
      by_cases hlt : k < xs.length
      · obtain ⟨b, off, x, rfl, hx, hcell⟩ := (hr.below hb hh).geti hlt
        obtain ⟨b', off', y, rfl, hy, hcell'⟩ := (hr'.below hb hh').geti (show k < ys.length by have := HL.out; omega)
        have hlt' : k < ys.length := by have := HL.out; omega
        have HX := Lib.hid hx
        have HY := Lib.hid hy
        clear hx hy
        by_cases hxy : x < y
        · have HP := Lib.hid (pShoal_is HX.out HY.out (decide_eq_true hxy))
          go_wp2_with fail
          go_quiet (fail)
          generalize hwx : World.drewN wr _ = wx
          have hown2 := own_eq hwx hown
          have hb2 := below_eq hwx hb
          clear hwx hown hb hcell hcell'
          have hown := hown2
          have hb := hb2
          clear hown2 hb2
          go_wp2_with (at_builtin; refine wpList_push _ rfl _ _ 24 rfl w.heap.size 3 i0 (.int .i64 0) 1 8 Try.underlying24 hi0 hz0 hz1 hz2 rfl (by decide) _ _ _ rfl hown [.int .i64 ↑k] rfl (one_int _) rfl (by omega) (by decide) hb.size ?_; intro v1 w1 hown1 hb1 hs1 _ _)
          go_roundw
          case rel => exact ⟨k + 1, by omega, by go_num, push_rel (gath_yes HP.out rfl) hown1, hb1 _ hb⟩
          case measure => simp [intOf]; omega
        · have HP := Lib.hid (pShoal_is HX.out HY.out (decide_eq_false hxy))
          have hge : y ≤ x := by omega
          clear hxy
          go_wp2_with fail
          go_quiet (fail)
          go_wp2_with fail
          go_roundw
          case rel => exact ⟨k + 1, by omega, by go_num, by rw [gath_no HP.out]; exact hown, below_drewN hb _⟩
          case measure => simp [intOf]; omega
      · obtain rfl : k = xs.length := by omega
        go_wp2_with fail
        go_ret2
        rw [HE.out]
        exact retLB_of hown hb

end Go.Proofs.Ytchgcpdmomeofaa
