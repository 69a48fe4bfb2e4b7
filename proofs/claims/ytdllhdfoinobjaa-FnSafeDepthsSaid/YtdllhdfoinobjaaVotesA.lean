/-
  This file proves contracts of the program's and the reference's functions on votes: the test of votes, and the vote that is added.
  Conditions: each contract's own hypotheses (that a slice reads as a list, that it is not too long).
-/
import Derived.Test.YtdllhdfoinobjaaCopy
namespace Go.Proofs.Ytdllhdfoinobjaa
open Go.RowKit
set_option linter.unusedSimpArgs false
set_option linter.unusedVariables false

/-- Votes: all depths, from 1 to 20 of them. -/
def isVts (xs : List Int) : Bool := allDepth xs && inR xs.length 1 20
theorem isVts_all {xs : List Int} (h : isVts xs = true) : allDepth xs = true ∧ 1 ≤ xs.length ∧ xs.length ≤ 20 := by
  unfold isVts at h
  rw [Bool.and_eq_true, inR_true] at h
  obtain ⟨h1, h2, h3⟩ := h
  exact ⟨h1, by omega, by omega⟩

theorem areVotes_any (A : Option Addr) (c lo hi : Nat) (xs : List Int) (w : World) (hr : RdI w lo hi A xs) (hl : xs.length ≤ 4611686018427387904) :
    Calls Try.prog 13 #[.slice A xs.length c] w fun e w' => e = .returned (.bool (isVts xs)) ∧ w = w' := by
  go_enter Try.func13, Try.ntmps13
  go_wp2_with fail
  go_loop [7] (fun i => ∃ k : Nat, k ≤ xs.length ∧ i = .int .i64 k ∧ allDepth (xs.take k) = true) (fun i => xs.length - (intOf i).toNat)
  case atStart => exact ⟨0, Nat.zero_le _, rfl, rfl⟩
  case round =>
    obtain ⟨k, hk, rfl, hall⟩ := hrel
    by_cases hlt : k < xs.length
    · obtain ⟨b, off, x, rfl, hx, hcell⟩ := hr.geti hlt
      have HX := Lib.hid hx
      have HA := Lib.hid hall
      clear hall hx
      by_cases hd : inR x (-1000) 20000 = true
      · go_wp2_with (go_at_call 52; refine (isDepth_any _ _).mono ?_; rintro e w' ⟨rfl, rfl⟩)
        go_round
        case rel => exact ⟨k + 1, by omega, by go_num, allDepth_step HX.out HA.out hd⟩
        case measure => simp [intOf]; omega
      · have hd' : inR x (-1000) 20000 = false := by simpa using hd
        clear hd
        go_wp2_with (go_at_call 52; refine (isDepth_any _ _).mono ?_; rintro e w' ⟨rfl, rfl⟩)
        go_ret
        exact ⟨ret_bool (by rw [isVts, allDepth_bad HX.out hd']; rfl), rfl⟩
    · have HA := Lib.hid hall
      clear hall
      go_wp2_with (go_at_call 53; refine (inside_any _ _ _ _).mono ?_; rintro e w' ⟨rfl, rfl⟩)
      go_ret
      exact ⟨ret_bool (by have := HA.out; rw [take_all hlt] at this; rw [isVts, this]; rfl), rfl⟩

theorem l13Good_any (A : Option Addr) (c lo hi : Nat) (xs : List Int) (w : World) (hr : RdI w lo hi A xs) (hl : xs.length ≤ 4611686018427387904) :
    Calls Try.prog 54 #[.slice A xs.length c] w fun e w' => e = .returned (.bool (isVts xs)) ∧ w = w' := by
  go_enter Try.func54, Try.ntmps54
  go_wp2_with fail
  go_loop [3] (fun i => ∃ k : Nat, k ≤ xs.length ∧ i = .int .i64 k ∧ allDepth (xs.take k) = true) (fun i => xs.length - (intOf i).toNat)
  case atStart => exact ⟨0, Nat.zero_le _, rfl, rfl⟩
  case round =>
    obtain ⟨k, hk, rfl, hall⟩ := hrel
    by_cases hlt : k < xs.length
    · obtain ⟨b, off, x, rfl, hx, hcell⟩ := hr.geti hlt
      have HX := Lib.hid hx
      have HA := Lib.hid hall
      clear hall hx
      by_cases hd : inR x (-1000) 20000 = true
      · go_wp2_with (go_at_call 73; refine (l2Depth_any _ _).mono ?_; rintro e w' ⟨rfl, rfl⟩)
        go_round
        case rel => exact ⟨k + 1, by omega, by go_num, allDepth_step HX.out HA.out hd⟩
        case measure => simp [intOf]; omega
      · have hd' : inR x (-1000) 20000 = false := by simpa using hd
        clear hd
        go_wp2_with (go_at_call 73; refine (l2Depth_any _ _).mono ?_; rintro e w' ⟨rfl, rfl⟩)
        go_ret
        exact ⟨ret_bool (by rw [isVts, allDepth_bad HX.out hd']; rfl), rfl⟩
    · have HA := Lib.hid hall
      clear hall
      go_wp2_with (go_at_call 63; refine (l1In_any _ _ _ _).mono ?_; rintro e w' ⟨rfl, rfl⟩)
      go_ret
      exact ⟨ret_bool (by have := HA.out; rw [take_all hlt] at this; rw [isVts, this]; rfl), rfl⟩

def vAreVotes (xs : List Int) : Bool := isVts xs
theorem sAreVotes {A : Option Addr} {c lo hi : Nat} {xs : List Int} {w : World} (hr : RdI w lo hi A xs) (hl : xs.length ≤ 4194304) (hh : hi ≤ w.heap.size) :
    Calls Try.prog 14 #[.slice A xs.length c] w (RetB (vAreVotes xs) w) := by
  go_enter Try.func14, Try.ntmps14
  go_wp2_with (go_at_call 54; refine (l13Good_any _ _ _ _ _ _ hr (by omega)).mono ?_; rintro e w' ⟨rfl, rfl⟩)
  go_ret
  exact ⟨rfl, Below.refl _ _⟩
theorem iAreVotes {A : Option Addr} {c lo hi : Nat} {xs : List Int} {w : World} (hr : RdI w lo hi A xs) (hl : xs.length ≤ 4194304) (hh : hi ≤ w.heap.size) :
    Calls Try.prog 13 #[.slice A xs.length c] w (RetB (vAreVotes xs) w) :=
  (areVotes_any A c lo hi xs w hr (by omega)).mono fun _ _ ⟨he, hw⟩ => ⟨he, by subst hw; exact Below.refl _ _⟩

/-! ### a vote that is added -/
def vAddVote (xs : List Int) (d : Int) : List Int × Bool := if isVts xs = true ∧ isVts (xs ++ [d]) = true then (xs ++ [d], true) else ([], false)
theorem vAddVote_len0 (xs : List Int) (d : Int) : (vAddVote xs d).1.length ≤ 1048576 := by
  unfold vAddVote
  split
  · rename_i h
    have := (isVts_all h.2).2.2
    simp only
    omega
  · simp

set_option maxHeartbeats 1000000 in
theorem iAddVote {A : Option Addr} {c lo hi : Nat} {xs : List Int} {d : Int} {w : World} (hr : RdI w lo hi A xs) (hl : xs.length ≤ 4194304) (hh : hi ≤ w.heap.size) :
    Calls Try.prog 41 #[.slice A xs.length c, .int .i64 d] w (RetLB (vAddVote xs d).1 (vAddVote xs d).2 w) := by
  obtain ⟨i0, hi0, hz0, hz1, hz2⟩ := info_parts int_info
  obtain ⟨ys, hys⟩ : ∃ ys, ys = xs ++ [d] := ⟨_, rfl⟩
  have hyl : ys.length ≤ xs.length + 1 := by rw [hys]; simp
  have HYS := Lib.hid hys
  clear hys
  by_cases h1 : isVts xs = true
  rotate_left
  · have h1' : isVts xs = false := by simpa using h1
    clear h1
    have HE := Lib.hid (show vAddVote xs d = ([], false) from by unfold vAddVote; rw [if_neg (by rw [h1']; simp)])
    go_enter Try.func41, Try.ntmps41
    go_wp2_with fail
    refine (areVotes_any _ _ _ _ _ _ hr (by omega)).mono ?_
    rintro e w' ⟨rfl, rfl⟩
    go_wp2_with fail
    go_ret2
    rw [HE.out]
    exact retLB_nil _ _ _ (Below.refl _ _)
  by_cases h2 : isVts ys = true
  rotate_left
  · have h2' : isVts ys = false := by simpa using h2
    clear h2
    have HE := Lib.hid (show vAddVote xs d = ([], false) from by unfold vAddVote; rw [if_neg (by rw [← HYS.out, h2']; simp)])
    go_enter Try.func41, Try.ntmps41
    go_wp2_with fail
    refine (areVotes_any _ _ _ _ _ _ hr (by omega)).mono ?_
    rintro e w' ⟨rfl, rfl⟩
    go_wp2_with fail
    refine (copyInts_any hr hl hh).mono ?_
    rintro e w1 ⟨A1, c1, rfl, O1, B1⟩
    go_wp2_with (at_builtin; refine wpList_push _ rfl _ _ 24 rfl w.heap.size 3 i0 (.int .i64 0) 1 8 Try.underlying24 hi0 hz0 hz1 hz2 rfl (by decide) _ _ _ rfl O1.1 [.int .i64 d] rfl (one_int _) rfl (by omega) (by decide) B1.size ?_; intro v1 w2 hown1 hb1 hs1 _ _; obtain ⟨A2, c2, hv, O2⟩ := Own.of_row (push_rel (F := xs) HYS.out hown1); subst hv)
    have HB := Lib.hid (hb1 _ B1)
    refine (areVotes_any _ _ _ _ _ _ O2.rd (by omega)).mono ?_
    rintro e w' ⟨rfl, rfl⟩
    go_wp2_with fail
    go_ret2
    rw [HE.out]
    exact retLB_nil _ _ _ (HB.out)
  have HE := Lib.hid (show vAddVote xs d = (ys, true) from by unfold vAddVote; rw [← HYS.out, if_pos ⟨h1, h2⟩])
  go_enter Try.func41, Try.ntmps41
  go_wp2_with fail
  refine (areVotes_any _ _ _ _ _ _ hr (by omega)).mono ?_
  rintro e w' ⟨rfl, rfl⟩
  go_wp2_with fail
  refine (copyInts_any hr hl hh).mono ?_
  rintro e w1 ⟨A1, c1, rfl, O1, B1⟩
  go_wp2_with (at_builtin; refine wpList_push _ rfl _ _ 24 rfl w.heap.size 3 i0 (.int .i64 0) 1 8 Try.underlying24 hi0 hz0 hz1 hz2 rfl (by decide) _ _ _ rfl O1.1 [.int .i64 d] rfl (one_int _) rfl (by omega) (by decide) B1.size ?_; intro v1 w2 hown1 hb1 hs1 _ _; obtain ⟨A2, c2, hv, O2⟩ := Own.of_row (push_rel (F := xs) HYS.out hown1); subst hv)
  have HB := Lib.hid (hb1 _ B1)
  refine (areVotes_any _ _ _ _ _ _ O2.rd (by omega)).mono ?_
  rintro e w' ⟨rfl, rfl⟩
  go_wp2_with fail
  go_ret2
  rw [HE.out]
  exact ⟨A2, c2, rfl, O2, HB.out⟩

set_option maxHeartbeats 1000000 in
theorem sAddVote {A : Option Addr} {c lo hi : Nat} {xs : List Int} {d : Int} {w : World} (hr : RdI w lo hi A xs) (hl : xs.length ≤ 4194304) (hh : hi ≤ w.heap.size) :
    Calls Try.prog 42 #[.slice A xs.length c, .int .i64 d] w (RetLB (vAddVote xs d).1 (vAddVote xs d).2 w) := by
  obtain ⟨i0, hi0, hz0, hz1, hz2⟩ := info_parts int_info
  obtain ⟨ys, hys⟩ : ∃ ys, ys = xs ++ [d] := ⟨_, rfl⟩
  have hyl : ys.length ≤ xs.length + 1 := by rw [hys]; simp
  have HYS := Lib.hid hys
  clear hys
  by_cases h1 : isVts xs = true
  rotate_left
  · have h1' : isVts xs = false := by simpa using h1
    clear h1
    have HE := Lib.hid (show vAddVote xs d = ([], false) from by unfold vAddVote; rw [if_neg (by rw [h1']; simp)])
    go_enter Try.func42, Try.ntmps42
    go_wp2_with fail
    refine (l1Own_any hr hl hh).mono ?_
    rintro e w1 ⟨A1, c1, rfl, O1, B1⟩
    have hr1 := hr.below B1 hh
    go_wp2_with (at_builtin; refine wpList_push _ rfl _ _ 24 rfl w.heap.size 3 i0 (.int .i64 0) 1 8 Try.underlying24 hi0 hz0 hz1 hz2 rfl (by decide) _ _ _ rfl O1.1 [.int .i64 d] rfl (one_int _) rfl (by omega) (by decide) B1.size ?_; intro v1 w2 hown1 hb1 hs1 _ _; obtain ⟨A2, c2, hv, O2⟩ := Own.of_row (push_rel (F := xs) HYS.out hown1); subst hv)
    have HB := Lib.hid (hb1 _ B1)
    have hr2 := hr1.below (hb1 _ (Below.refl _ _)) (Nat.le_trans hh (Nat.le_refl _))
    refine (l13Good_any _ _ _ _ _ _ hr2 (by omega)).mono ?_
    rintro e w' ⟨rfl, rfl⟩
    go_wp2_with fail
    go_ret2
    rw [HE.out]
    exact retLB_of (row_empty_at _ _ _ HB.out.size) (HB.out.alloc HB.out.size _)
  by_cases h2 : isVts ys = true
  rotate_left
  · have h2' : isVts ys = false := by simpa using h2
    clear h2
    have HE := Lib.hid (show vAddVote xs d = ([], false) from by unfold vAddVote; rw [if_neg (by rw [← HYS.out, h2']; simp)])
    go_enter Try.func42, Try.ntmps42
    go_wp2_with fail
    refine (l1Own_any hr hl hh).mono ?_
    rintro e w1 ⟨A1, c1, rfl, O1, B1⟩
    have hr1 := hr.below B1 hh
    go_wp2_with (at_builtin; refine wpList_push _ rfl _ _ 24 rfl w.heap.size 3 i0 (.int .i64 0) 1 8 Try.underlying24 hi0 hz0 hz1 hz2 rfl (by decide) _ _ _ rfl O1.1 [.int .i64 d] rfl (one_int _) rfl (by omega) (by decide) B1.size ?_; intro v1 w2 hown1 hb1 hs1 _ _; obtain ⟨A2, c2, hv, O2⟩ := Own.of_row (push_rel (F := xs) HYS.out hown1); subst hv)
    have HB := Lib.hid (hb1 _ B1)
    have hr2 := hr1.below (hb1 _ (Below.refl _ _)) (Nat.le_trans hh (Nat.le_refl _))
    refine (l13Good_any _ _ _ _ _ _ hr2 (by omega)).mono ?_
    rintro e w' ⟨rfl, rfl⟩
    go_wp2_with fail
    refine (l13Good_any _ _ _ _ _ _ O2.rd (by omega)).mono ?_
    rintro e w' ⟨rfl, rfl⟩
    go_wp2_with fail
    go_ret2
    rw [HE.out]
    exact retLB_of (row_empty_at _ _ _ HB.out.size) (HB.out.alloc HB.out.size _)
  have HE := Lib.hid (show vAddVote xs d = (ys, true) from by unfold vAddVote; rw [← HYS.out, if_pos ⟨h1, h2⟩])
  go_enter Try.func42, Try.ntmps42
  go_wp2_with fail
  refine (l1Own_any hr hl hh).mono ?_
  rintro e w1 ⟨A1, c1, rfl, O1, B1⟩
  have hr1 := hr.below B1 hh
  go_wp2_with (at_builtin; refine wpList_push _ rfl _ _ 24 rfl w.heap.size 3 i0 (.int .i64 0) 1 8 Try.underlying24 hi0 hz0 hz1 hz2 rfl (by decide) _ _ _ rfl O1.1 [.int .i64 d] rfl (one_int _) rfl (by omega) (by decide) B1.size ?_; intro v1 w2 hown1 hb1 hs1 _ _; obtain ⟨A2, c2, hv, O2⟩ := Own.of_row (push_rel (F := xs) HYS.out hown1); subst hv)
  have HB := Lib.hid (hb1 _ B1)
  have hr2 := hr1.below (hb1 _ (Below.refl _ _)) (Nat.le_trans hh (Nat.le_refl _))
  refine (l13Good_any _ _ _ _ _ _ hr2 (by omega)).mono ?_
  rintro e w' ⟨rfl, rfl⟩
  go_wp2_with fail
  refine (l13Good_any _ _ _ _ _ _ O2.rd (by omega)).mono ?_
  rintro e w' ⟨rfl, rfl⟩
  go_wp2_with fail
  go_ret2
  rw [HE.out]
  exact ⟨A2, c2, rfl, O2, HB.out⟩

end Go.Proofs.Ytdllhdfoinobjaa
