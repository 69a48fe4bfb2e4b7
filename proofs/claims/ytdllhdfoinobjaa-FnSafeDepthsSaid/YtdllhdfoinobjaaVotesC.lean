/-
  This file proves contracts of MedianVote and NarrowestSingle, of the program and of the reference.
  Conditions: each contract's own hypotheses (that a slice reads as a list, that it is not too long).
-/
import Derived.Test.YtdllhdfoinobjaaVotesA
import Derived.Test.YtdllhdfoinobjaaVotesB
import Derived.Test.YtdllhdfoinobjaaBase2
namespace Go.Proofs.Ytdllhdfoinobjaa
open Go.RowKit
set_option linter.unusedSimpArgs false
set_option linter.unusedVariables false

theorem sortI_depth {xs : List Int} (h : allDepth xs = true) : allDepth (sortI xs) = true := by
  unfold allDepth at h ⊢
  rw [List.all_eq_true] at h ⊢
  exact fun x hx => h x ((sortI_perm xs).mem_iff.1 hx)

def vMedianVote (xs : List Int) : Int × Bool := if isVts xs = true then ((sortI xs).getD ((xs.length - 1) / 2) 0, true) else (0, false)

/-- The greatest step up of the first k + 1 numbers. -/
def wid (ys : List Int) : Nat → Int
  | 0 => 0
  | k + 1 => mostI (wid ys k) (ys.getD (k + 1) 0 - ys.getD k 0)
def vNarrowestSingle (xs : List Int) : Int × Bool := if isVts xs = true then (wid (sortI xs) (xs.length - 1), true) else (0, false)
theorem wid_step {ys : List Int} {k : Nat} {x y : Int} (hx : ys[k + 1]? = some x) (hy : ys[k]? = some y) : wid ys (k + 1) = mostI (wid ys k) (x - y) := by rw [wid, getD_of hx, getD_of hy]

set_option maxHeartbeats 2000000 in
set_option maxRecDepth 100000 in
theorem iMedianVote {A : Option Addr} {c lo hi : Nat} {xs : List Int} {w : World} (hr : RdI w lo hi A xs) (hl : xs.length ≤ 4194304) (hh : hi ≤ w.heap.size) :
    Calls Try.prog 44 #[.slice A xs.length c] w (RetIB (vMedianVote xs).1 (vMedianVote xs).2 w) := by
  by_cases h1 : isVts xs = true
  rotate_left
  · have h1' : isVts xs = false := by simpa using h1
    clear h1
    have HE := Lib.hid (show vMedianVote xs = (0, false) from by unfold vMedianVote; rw [if_neg (by simp [h1'])])
    go_enter Try.func44, Try.ntmps44
    go_wp2_with (go_at_call 13; refine (areVotes_any _ _ _ _ _ _ hr (by omega)).mono ?_; rintro e w' ⟨rfl, rfl⟩)
    go_ret2
    rw [HE.out]
    exact ⟨rfl, Below.refl _ _⟩
  obtain ⟨hall, hn1, hn20⟩ := isVts_all h1
  obtain ⟨ys, hys⟩ : ∃ ys, ys = sortI xs := ⟨_, rfl⟩
  have hyl : ys.length = xs.length := by rw [hys, sortI_length]
  obtain ⟨m, hm⟩ : ∃ m, ys[(xs.length - 1) / 2]? = some m := ⟨_, List.getElem?_eq_getElem (by omega)⟩
  have HE := Lib.hid (show vMedianVote xs = (m, true) from by unfold vMedianVote; rw [if_pos h1, ← hys, getD_of hm])
  have HM := Lib.hid hm
  have HY := Lib.hid hys
  clear hall hys hm
  go_enter Try.func44, Try.ntmps44
  go_wp2_with (go_at_call 13; refine (areVotes_any _ _ _ _ _ _ hr (by omega)).mono ?_; rintro e w' ⟨rfl, rfl⟩)
  refine (sortedInts_any hr (by omega) hh).mono ?_
  rintro e w1 ⟨A0, c0, rfl, O0, B0⟩
  rw [← HY.out] at O0 ⊢
  obtain ⟨g, rfl, hg1, hg2⟩ := O0.length_pos (by omega)
  have hcm : w1.cell? ⟨g, (xs.length - 1) / 2, none⟩ = some (.int .i64 m) := by
    obtain ⟨g', o', e, _, _, hc⟩ := O0.rd.2 (by omega)
    cases e
    have := hc ((xs.length - 1) / 2) (.int .i64 m) (by simp [ints, HM.out])
    rwa [Nat.zero_add] at this
  have q0 : IntKind.i64.wrap ((xs.length : Int) - 1) = (xs.length : Int) - 1 := wr64 (by omega) (by omega)
  have q1 : IntKind.i64.wrap (((xs.length : Int) - 1).tdiv 2) = ((xs.length : Int) - 1).tdiv 2 := by rw [Int.tdiv_eq_ediv_of_nonneg (by omega)]; exact wr64 (by omega) (by omega)
  have q2 : ((xs.length : Int) - 1).tdiv 2 = (((xs.length - 1) / 2 : Nat) : Int) := by rw [Int.tdiv_eq_ediv_of_nonneg (by omega)]; omega
  have q3 : (((xs.length - 1) / 2 : Nat) : Int) < (ys.length : Int) := by omega
  have q4 : (0 : Int) ≤ (((xs.length - 1) / 2 : Nat) : Int) := by omega
  have q5 : (xs.length - 1) / 2 < ys.length := by omega
  go_wp2_with fail
  go_ret2
  rw [HE.out]
  exact ⟨rfl, B0⟩

set_option maxHeartbeats 2000000 in
set_option maxRecDepth 100000 in
theorem iNarrowestSingle {A : Option Addr} {c lo hi : Nat} {xs : List Int} {w : World} (hr : RdI w lo hi A xs) (hl : xs.length ≤ 4194304) (hh : hi ≤ w.heap.size) :
    Calls Try.prog 21 #[.slice A xs.length c] w (RetIB (vNarrowestSingle xs).1 (vNarrowestSingle xs).2 w) := by
  by_cases h1 : isVts xs = true
  rotate_left
  · have h1' : isVts xs = false := by simpa using h1
    clear h1
    have HE := Lib.hid (show vNarrowestSingle xs = (0, false) from by unfold vNarrowestSingle; rw [if_neg (by simp [h1'])])
    go_enter Try.func21, Try.ntmps21
    go_wp2_with (go_at_call 13; refine (areVotes_any _ _ _ _ _ _ hr (by omega)).mono ?_; rintro e w' ⟨rfl, rfl⟩)
    go_ret2
    rw [HE.out]
    exact ⟨rfl, Below.refl _ _⟩
  obtain ⟨hall, hn1, hn20⟩ := isVts_all h1
  obtain ⟨ys, hys⟩ : ∃ ys, ys = sortI xs := ⟨_, rfl⟩
  have hyl : ys.length = xs.length := by rw [hys, sortI_length]
  have HE := Lib.hid (show vNarrowestSingle xs = (wid ys (xs.length - 1), true) from by unfold vNarrowestSingle; rw [if_pos h1, ← hys])
  have HD := Lib.hid (show allDepth ys = true from by rw [hys]; exact sortI_depth hall)
  have HY := Lib.hid hys
  clear hall hys
  go_enter Try.func21, Try.ntmps21
  go_wp2_with (go_at_call 13; refine (areVotes_any _ _ _ _ _ _ hr (by omega)).mono ?_; rintro e w' ⟨rfl, rfl⟩)
  refine (sortedInts_any hr (by omega) hh).mono ?_
  rintro e w1 ⟨A0, c0, rfl, O0, B0⟩
  rw [← HY.out] at O0 ⊢
  obtain ⟨g, rfl, hg1, hg2⟩ := O0.length_pos (by omega)
  clear h1
  go_wp2_with fail
  go_loopw [5, 6] (fun m i wr => ∃ k : Nat, k + 1 ≤ ys.length ∧ i = .int .i64 ((k : Int) + 1) ∧ m = .int .i64 (wid ys k) ∧ Own wr 3 w.heap.size w1.heap.size 1 (some ⟨g, 0, none⟩) ys.length c0 (ints ys) ∧ Below w.heap.size w wr) (fun _ i _ => ys.length - (intOf i).toNat)
  case atStart => exact ⟨0, by omega, rfl, rfl, O0, B0⟩
  case round =>
    obtain ⟨k, hk, rfl, rfl, hown, hb⟩ := hrel
    by_cases hlt : k + 1 < ys.length
    rotate_left
    · have hlt' : ¬ ((k : Int) + 1 < (ys.length : Int)) := by omega
      have HK := Lib.hid (show xs.length - 1 = k from by omega)
      go_wp2_with fail
      go_ret2
      rw [HE.out, HK.out]
      exact ⟨rfl, hb⟩
    have q1 : (k : Int) + 1 < (ys.length : Int) := by omega
    obtain ⟨x, hx⟩ : ∃ x, ys[k + 1]? = some x := ⟨_, List.getElem?_eq_getElem hlt⟩
    obtain ⟨y, hy⟩ : ∃ y, ys[k]? = some y := ⟨_, List.getElem?_eq_getElem (by omega)⟩
    have hbx := allDepth_get HD.out hx
    have hby := allDepth_get HD.out hy
    obtain ⟨g', o', e, _, _, hc⟩ := hown.rd.2 (by omega)
    cases e
    have hcx : wr.cell? ⟨g, k + 1, none⟩ = some (.int .i64 x) := by have := hc (k + 1) (.int .i64 x) (by simp [ints, hx]); rwa [Nat.zero_add] at this
    have hcy : wr.cell? ⟨g, k, none⟩ = some (.int .i64 y) := by have := hc k (.int .i64 y) (by simp [ints, hy]); rwa [Nat.zero_add] at this
    have HW := Lib.hid (wid_step hx hy)
    clear hc hx hy
    have q2 : (0 : Int) ≤ (k : Int) + 1 := by omega
    have q3 : ((k : Int) + 1).toNat = k + 1 := by omega
    have q4 : IntKind.i64.wrap ((k : Int) + 1 - 1) = (k : Int) := by rw [Int.add_sub_cancel]; exact wr64 (by omega) (by omega)
    have q5 : (k : Int) < (ys.length : Int) := by omega
    have q5b : k < ys.length := by omega
    have q6 : IntKind.i64.wrap (x - y) = x - y := wr64 (by omega) (by omega)
    generalize wid ys k = m at HW ⊢
    obtain ⟨d, hd⟩ : ∃ d, d = x - y := ⟨_, rfl⟩
    go_wp2_with fail
    go_quiet (fail)
    go_wp2_with fail
    go_roundw
    case rel => exact ⟨k + 1, by omega, by go_num, by rw [HW.out, mostI_eq], hown, below_drewN hb _⟩
    case measure => simp [intOf]; omega

set_option maxHeartbeats 2000000 in
set_option maxRecDepth 100000 in
theorem sMedianVote {A : Option Addr} {c lo hi : Nat} {xs : List Int} {w : World} (hr : RdI w lo hi A xs) (hl : xs.length ≤ 4194304) (hh : hi ≤ w.heap.size) :
    Calls Try.prog 45 #[.slice A xs.length c] w (RetIB (vMedianVote xs).1 (vMedianVote xs).2 w) := by
  by_cases h1 : isVts xs = true
  rotate_left
  · have h1' : isVts xs = false := by simpa using h1
    clear h1
    have HE := Lib.hid (show vMedianVote xs = (0, false) from by unfold vMedianVote; rw [if_neg (by simp [h1'])])
    go_enter Try.func45, Try.ntmps45
    go_wp2_with (go_at_call 54; refine (l13Good_any _ _ _ _ _ _ hr (by omega)).mono ?_; rintro e w' ⟨rfl, rfl⟩)
    go_ret2
    rw [HE.out]
    exact ⟨rfl, Below.refl _ _⟩
  obtain ⟨hall, hn1, hn20⟩ := isVts_all h1
  obtain ⟨ys, hys⟩ : ∃ ys, ys = sortI xs := ⟨_, rfl⟩
  have hyl : ys.length = xs.length := by rw [hys, sortI_length]
  obtain ⟨m, hm⟩ : ∃ m, ys[(xs.length - 1) / 2]? = some m := ⟨_, List.getElem?_eq_getElem (by omega)⟩
  have HE := Lib.hid (show vMedianVote xs = (m, true) from by unfold vMedianVote; rw [if_pos h1, ← hys, getD_of hm])
  have HM := Lib.hid hm
  have HY := Lib.hid hys
  clear hall hys hm
  go_enter Try.func45, Try.ntmps45
  go_wp2_with (go_at_call 54; refine (l13Good_any _ _ _ _ _ _ hr (by omega)).mono ?_; rintro e w' ⟨rfl, rfl⟩)
  refine (l13Sorted_any hr (by omega) hh).mono ?_
  rintro e w1 ⟨A0, c0, rfl, O0, B0⟩
  rw [← HY.out] at O0 ⊢
  obtain ⟨g, rfl, hg1, hg2⟩ := O0.length_pos (by omega)
  have hcm : w1.cell? ⟨g, (xs.length - 1) / 2, none⟩ = some (.int .i64 m) := by
    obtain ⟨g', o', e, _, _, hc⟩ := O0.rd.2 (by omega)
    cases e
    have := hc ((xs.length - 1) / 2) (.int .i64 m) (by simp [ints, HM.out])
    rwa [Nat.zero_add] at this
  have q0 : IntKind.i64.wrap ((xs.length : Int) - 1) = (xs.length : Int) - 1 := wr64 (by omega) (by omega)
  have q1 : IntKind.i64.wrap (((xs.length : Int) - 1).tdiv 2) = ((xs.length : Int) - 1).tdiv 2 := by rw [Int.tdiv_eq_ediv_of_nonneg (by omega)]; exact wr64 (by omega) (by omega)
  have q2 : ((xs.length : Int) - 1).tdiv 2 = (((xs.length - 1) / 2 : Nat) : Int) := by rw [Int.tdiv_eq_ediv_of_nonneg (by omega)]; omega
  have q3 : (((xs.length - 1) / 2 : Nat) : Int) < (ys.length : Int) := by omega
  have q4 : (0 : Int) ≤ (((xs.length - 1) / 2 : Nat) : Int) := by omega
  have q5 : (xs.length - 1) / 2 < ys.length := by omega
  go_wp2_with fail
  go_ret2
  rw [HE.out]
  exact ⟨rfl, B0⟩

set_option maxHeartbeats 2000000 in
set_option maxRecDepth 100000 in
theorem sNarrowestSingle {A : Option Addr} {c lo hi : Nat} {xs : List Int} {w : World} (hr : RdI w lo hi A xs) (hl : xs.length ≤ 4194304) (hh : hi ≤ w.heap.size) :
    Calls Try.prog 22 #[.slice A xs.length c] w (RetIB (vNarrowestSingle xs).1 (vNarrowestSingle xs).2 w) := by
  by_cases h1 : isVts xs = true
  rotate_left
  · have h1' : isVts xs = false := by simpa using h1
    clear h1
    have HE := Lib.hid (show vNarrowestSingle xs = (0, false) from by unfold vNarrowestSingle; rw [if_neg (by simp [h1'])])
    go_enter Try.func22, Try.ntmps22
    go_wp2_with (go_at_call 54; refine (l13Good_any _ _ _ _ _ _ hr (by omega)).mono ?_; rintro e w' ⟨rfl, rfl⟩)
    go_ret2
    rw [HE.out]
    exact ⟨rfl, Below.refl _ _⟩
  obtain ⟨hall, hn1, hn20⟩ := isVts_all h1
  obtain ⟨ys, hys⟩ : ∃ ys, ys = sortI xs := ⟨_, rfl⟩
  have hyl : ys.length = xs.length := by rw [hys, sortI_length]
  have HE := Lib.hid (show vNarrowestSingle xs = (wid ys (xs.length - 1), true) from by unfold vNarrowestSingle; rw [if_pos h1, ← hys])
  have HD := Lib.hid (show allDepth ys = true from by rw [hys]; exact sortI_depth hall)
  have HY := Lib.hid hys
  clear hall hys
  go_enter Try.func22, Try.ntmps22
  go_wp2_with (go_at_call 54; refine (l13Good_any _ _ _ _ _ _ hr (by omega)).mono ?_; rintro e w' ⟨rfl, rfl⟩)
  refine (l13Sorted_any hr (by omega) hh).mono ?_
  rintro e w1 ⟨A0, c0, rfl, O0, B0⟩
  rw [← HY.out] at O0 ⊢
  obtain ⟨g, rfl, hg1, hg2⟩ := O0.length_pos (by omega)
  clear h1
  go_wp2_with fail
  go_loopw [5, 6] (fun m i wr => ∃ k : Nat, k + 1 ≤ ys.length ∧ i = .int .i64 ((k : Int) + 1) ∧ m = .int .i64 (wid ys k) ∧ Own wr 3 w.heap.size w1.heap.size 1 (some ⟨g, 0, none⟩) ys.length c0 (ints ys) ∧ Below w.heap.size w wr) (fun _ i _ => ys.length - (intOf i).toNat)
  case atStart => exact ⟨0, by omega, rfl, rfl, O0, B0⟩
  case round =>
    obtain ⟨k, hk, rfl, rfl, hown, hb⟩ := hrel
    by_cases hlt : k + 1 < ys.length
    rotate_left
    · have hlt' : ¬ ((k : Int) + 1 < (ys.length : Int)) := by omega
      have HK := Lib.hid (show xs.length - 1 = k from by omega)
      go_wp2_with fail
      go_ret2
      rw [HE.out, HK.out]
      exact ⟨rfl, hb⟩
    have q1 : (k : Int) + 1 < (ys.length : Int) := by omega
    obtain ⟨x, hx⟩ : ∃ x, ys[k + 1]? = some x := ⟨_, List.getElem?_eq_getElem hlt⟩
    obtain ⟨y, hy⟩ : ∃ y, ys[k]? = some y := ⟨_, List.getElem?_eq_getElem (by omega)⟩
    have hbx := allDepth_get HD.out hx
    have hby := allDepth_get HD.out hy
    obtain ⟨g', o', e, _, _, hc⟩ := hown.rd.2 (by omega)
    cases e
    have hcx : wr.cell? ⟨g, k + 1, none⟩ = some (.int .i64 x) := by have := hc (k + 1) (.int .i64 x) (by simp [ints, hx]); rwa [Nat.zero_add] at this
    have hcy : wr.cell? ⟨g, k, none⟩ = some (.int .i64 y) := by have := hc k (.int .i64 y) (by simp [ints, hy]); rwa [Nat.zero_add] at this
    have HW := Lib.hid (wid_step hx hy)
    clear hc hx hy
    have q2 : (0 : Int) ≤ (k : Int) + 1 := by omega
    have q3 : ((k : Int) + 1).toNat = k + 1 := by omega
    have q4 : IntKind.i64.wrap ((k : Int) + 1 - 1) = (k : Int) := by rw [Int.add_sub_cancel]; exact wr64 (by omega) (by omega)
    have q5 : (k : Int) < (ys.length : Int) := by omega
    have q5b : k < ys.length := by omega
    have q6 : IntKind.i64.wrap (x - y) = x - y := wr64 (by omega) (by omega)
    generalize wid ys k = m at HW ⊢
    obtain ⟨d, hd⟩ : ∃ d, d = x - y := ⟨_, rfl⟩
    go_wp2_with fail
    go_quiet ((go_at_call 60; exact quiet_left (l1Most_any _ _ _)))
    go_wp2_with fail
    go_roundw
    case rel => exact ⟨k + 1, by omega, by go_num, by rw [HW.out], hown, below_drewN hb _⟩
    case measure => simp [intOf]; omega

end Go.Proofs.Ytdllhdfoinobjaa
