/-
  This file proves contracts of exported functions on edit lists: IsEditList, RejectedCount, LiveSteps, ShiftsAfter, of the program and of the reference.
  Conditions: that the slice reads as a list of steps, that it is not too long, that its texts are no longer than any string of the machine.
-/
import Derived.Test.YtdcbgahfbcemnaaEditE
namespace Go.Proofs.Ytdcbgahfbcemnaa
open Go.RowKit
set_option linter.unusedSimpArgs false
set_option linter.unusedVariables false

abbrev liveF (ps : List GEditStep) : List Nat := liveE ps ps.length
def vIsEditList (m : Int) (ps : List GEditStep) : Bool := goodE m ps
def rejC (ps : List GEditStep) (l : List Nat) : Nat → Int
  | 0 => 0
  | k + 1 => if accE ps (k : Int) l = false then rejC ps l k + 1 else rejC ps l k
theorem rejC_bound (ps : List GEditStep) (l : List Nat) (k : Nat) : 0 ≤ rejC ps l k ∧ rejC ps l k ≤ k := by
  induction k with
  | zero => simp [rejC]
  | succ k ih => rw [rejC]; split <;> omega
theorem rejC_yes {ps : List GEditStep} {l : List Nat} {k : Nat} (h : accE ps (k : Int) l = false) : rejC ps l (k + 1) = rejC ps l k + 1 := by rw [rejC, if_pos h]
theorem rejC_no {ps : List GEditStep} {l : List Nat} {k : Nat} (h : accE ps (k : Int) l = true) : rejC ps l (k + 1) = rejC ps l k := by rw [rejC, if_neg (by simp [h])]
def vRejectedCount (m : Int) (ps : List GEditStep) : Int × Bool := if goodE m ps = true then (rejC ps (liveF ps) m.toNat, true) else (0, false)
def vLiveSteps (m : Int) (ps : List GEditStep) : List Int × Bool := if goodE m ps = true then (natL (liveF ps), true) else ([], false)
def vShiftsAfter (m : Int) (ps : List GEditStep) : List Int × Bool := if goodE m ps = true then (shL ps m.toNat (liveF ps), true) else ([], false)
theorem vLiveSteps_len0 (m : Int) (ps : List GEditStep) : (vLiveSteps m ps).1.length ≤ 20 := by
  unfold vLiveSteps
  split
  · rename_i h
    have := goodE_len h
    have := liveE_len (ps := ps) ps.length
    show (natL (liveE ps ps.length)).length ≤ 20
    rw [natL_len]
    omega
  · simp
theorem vShiftsAfter_len0 (m : Int) (ps : List GEditStep) : (vShiftsAfter m ps).1.length ≤ 20 := by
  unfold vShiftsAfter
  split
  · rename_i h
    have := goodE_len h
    simp only [shL_length]
    omega
  · simp
theorem good_sh {m : Int} {ps : List GEditStep} (h : goodE m ps = true) : ∀ i, i < ps.length → -100 ≤ (gE ps i).sh ∧ (gE ps i).sh ≤ 100 := goodTo_sh (goodE_to h)
theorem shL_take {ps : List GEditStep} {k : Nat} {l : List Nat} : shL ps (k + 1) l = shL ps k l ++ [shiftE ps (k : Int) l] := by simp [shL, List.range_succ]
theorem row_below {w w' : World} {base : Nat} {e : TypeId} {size n : Nat} {v : Value} {xs : List Value} (h : w.ownsRow base e size v n xs) (hb : Below w.heap.size w w') : w'.ownsRow base e size v n xs := by
  obtain ⟨A, c, rfl, ho⟩ := Own.of_row h
  exact (ho.below hb (Nat.le_refl _)).1
theorem st_bool {w : World} {m n c r s g j : Nat} {ps : List GEditStep} {l : List Nat} {B : Option Addr} (h : StO w m ps l B n c r s g) (hj : j < m) : w.cell? ⟨r, j, none⟩ = some (.bool (!accE ps (j : Int) l)) := by
  have h1 := h.o1.1.cellAt j (by omega)
  rw [h1]
  simp [bls, rejL, hj]


theorem iIsEditList {A : Option Addr} {c lo hi : Nat} {m : Int} {ps : List GEditStep} {w : World} (hr : RdE w lo hi A ps) (hl : ps.length ≤ 2097152) (hh : hi ≤ w.heap.size) (hcap : ps.length ≤ c) (hsz : ∀ p ∈ ps, p.rs.size ≤ maxLen) :
    Calls Try.prog 15 #[.int .i64 m, .slice A ps.length c] w (RetB (vIsEditList m ps) w) := by
  go_enter Try.func15, Try.ntmps15
  go_wp2_with fail
  refine (edited_any hr hh hl hsz).mono ?_
  rintro e w1 ⟨hc, B1⟩
  rcases hc with ⟨hg, rfl⟩ | ⟨hg, M, B, c', r, s, g, _, rfl, _⟩
  all_goals
    have HG := Lib.hid hg
    clear hg
    go_wp2_with fail
    go_ret
    exact ⟨ret_bool HG.out.symm, B1⟩

theorem sIsEditList {A : Option Addr} {c lo hi : Nat} {m : Int} {ps : List GEditStep} {w : World} (hr : RdE w lo hi A ps) (hl : ps.length ≤ 2097152) (hh : hi ≤ w.heap.size) (hcap : ps.length ≤ c) (hsz : ∀ p ∈ ps, p.rs.size ≤ maxLen) :
    Calls Try.prog 13 #[.int .i64 m, .slice A ps.length c] w (RetB (vIsEditList m ps) w) := by
  go_enter Try.func13, Try.ntmps13
  go_wp2_with fail
  refine (l14Good_any hr hh hcap hl hsz).mono ?_
  rintro e w1 ⟨rfl, B1⟩
  go_wp2_with fail
  go_ret
  exact ⟨rfl, B1⟩

set_option maxHeartbeats 2000000 in
set_option maxRecDepth 100000 in
theorem iRejectedCount {A : Option Addr} {c lo hi : Nat} {m : Int} {ps : List GEditStep} {w : World} (hr : RdE w lo hi A ps) (hl : ps.length ≤ 2097152) (hh : hi ≤ w.heap.size) (hcap : ps.length ≤ c) (hsz : ∀ p ∈ ps, p.rs.size ≤ maxLen) :
    Calls Try.prog 18 #[.int .i64 m, .slice A ps.length c] w (RetIB (vRejectedCount m ps).1 (vRejectedCount m ps).2 w) := by
  rcases hgd : goodE m ps with _ | _
  · have HE := Lib.hid (show vRejectedCount m ps = (0, false) from by unfold vRejectedCount; rw [if_neg (by simp [hgd])])
    have HGD := Lib.hid hgd
    clear hgd
    go_enter Try.func18, Try.ntmps18
    go_wp2_with fail
    refine (edited_any hr hh hl hsz).mono ?_
    rintro e w1 ⟨hc, B1⟩
    rcases hc with ⟨_, rfl⟩ | ⟨hx, _⟩
    rotate_left
    · rw [HGD.out] at hx; cases hx
    go_wp2_with fail
    go_ret2
    rw [HE.out]
    exact ⟨rfl, B1⟩
  have hmn := goodE_len hgd
  obtain ⟨M, rfl⟩ : ∃ M : Nat, m = (M : Int) := ⟨m.toNat, by omega⟩
  have HGD := Lib.hid hgd
  clear hgd
  have HE := Lib.hid (show vRejectedCount (M : Int) ps = (rejC ps (liveF ps) M, true) from by unfold vRejectedCount; rw [if_pos HGD.out]; rfl)
  go_enter Try.func18, Try.ntmps18
  go_wp2_with fail
  refine (edited_any hr hh hl hsz).mono ?_
  rintro e w1 ⟨hc, B1⟩
  rcases hc with ⟨hx, _⟩ | ⟨_, M', B, c', r, s, g, hM, rfl, ES⟩
  · rw [HGD.out] at hx; cases hx
  obtain rfl : M = M' := by omega
  obtain ⟨S, gr, gs, gg, LO⟩ := ES
  have hc0 := S.c0
  have hc1 := S.c1
  have hc2 := S.c2
  clear hM
  go_wp2_with fail
  go_loop [8, 24] (fun t i => ∃ j : Nat, j ≤ M ∧ i = .int .i64 j ∧ t = .int .i64 (rejC ps (liveF ps) j)) (fun _ i => M - (intOf i).toNat)
  case atStart => exact ⟨0, Nat.zero_le _, rfl, rfl⟩
  case round =>
    obtain ⟨j, hj, rfl, rfl⟩ := hrel
    have hb := rejC_bound ps (liveF ps) j
    by_cases hlt : j < M
    · have hcell := st_bool S hlt
      have q1 : (j : Int) < (M : Int) := by omega
      rcases ha : accE ps (j : Int) (liveF ps) with _ | _
      · have HS := Lib.hid (rejC_yes ha)
        rw [ha] at hcell
        have HA := Lib.hid ha
        clear ha
        generalize rejC ps (liveF ps) j = R at hb HS
        go_wp2_with fail
        go_round
        case rel => exact ⟨j + 1, by omega, by go_num, by rw [HS.out]⟩
        case measure => simp [intOf]; omega
      · have HS := Lib.hid (rejC_no ha)
        rw [ha] at hcell
        have HA := Lib.hid ha
        clear ha
        generalize rejC ps (liveF ps) j = R at hb HS
        go_wp2_with fail
        go_round
        case rel => exact ⟨j + 1, by omega, by go_num, by rw [HS.out]⟩
        case measure => simp [intOf]; omega
    · obtain rfl : j = M := by omega
      go_wp2_with fail
      go_ret2
      rw [HE.out]
      exact ⟨rfl, B1⟩

set_option maxHeartbeats 2000000 in
set_option maxRecDepth 100000 in
theorem sRejectedCount {A : Option Addr} {c lo hi : Nat} {m : Int} {ps : List GEditStep} {w : World} (hr : RdE w lo hi A ps) (hl : ps.length ≤ 2097152) (hh : hi ≤ w.heap.size) (hcap : ps.length ≤ c) (hsz : ∀ p ∈ ps, p.rs.size ≤ maxLen) :
    Calls Try.prog 17 #[.int .i64 m, .slice A ps.length c] w (RetIB (vRejectedCount m ps).1 (vRejectedCount m ps).2 w) := by
  obtain ⟨i0, hi0, hz0, hz1, hz2⟩ := info_parts int_info
  have HGC := Lib.hid (fun b (hb : goodE m ps = b) (W : World) (hW : Below w.heap.size w W) => (show Calls Try.prog 46 #[.int .i64 m, .slice A ps.length c] W (RetB b W) from by rw [← hb]; exact l14Good_any (hr.below hW hh) (Nat.le_trans hh hW.size) hcap hl hsz))
  rcases hgd : goodE m ps with _ | _
  · have HE := Lib.hid (show vRejectedCount m ps = (0, false) from by unfold vRejectedCount; rw [if_neg (by simp [hgd])])
    have HGD := Lib.hid hgd
    clear hgd
    go_enter Try.func17, Try.ntmps17
    go_wp2_with fail
    refine (HGC.out _ HGD.out _ (by first | exact Below.refl _ _ | exact below_alloc1 _ _)).mono ?_
    rintro e w1 ⟨rfl, B1⟩
    go_wp2_with fail
    go_ret2
    rw [HE.out]
    exact ⟨rfl, B1⟩
  have hmn := goodE_len hgd
  obtain ⟨M, rfl⟩ : ∃ M : Nat, m = (M : Int) := ⟨m.toNat, by omega⟩
  have HGD := Lib.hid hgd
  clear hgd
  go_enter Try.func17, Try.ntmps17
  go_wp2_with fail
  refine (HGC.out _ HGD.out _ (by first | exact Below.refl _ _ | exact below_alloc1 _ _)).mono ?_
  rintro e w1 ⟨rfl, B1⟩
  have HE := Lib.hid (show vRejectedCount (M : Int) ps = (rejC ps (liveF ps) M, true) from by unfold vRejectedCount; rw [if_pos HGD.out]; rfl)
  go_wp2_with fail
  go_loopw [6, 7] (fun t i wr => ∃ j : Nat, j ≤ M ∧ i = .int .i64 j ∧ t = .int .i64 (rejC ps (liveF ps) j) ∧ Below w.heap.size w wr) (fun _ i _ => M - (intOf i).toNat)
  case atStart => exact ⟨0, Nat.zero_le _, rfl, rfl, B1⟩
  case round =>
    obtain ⟨j, hj, rfl, rfl, hbw⟩ := hrel
    have hb := rejC_bound ps (liveF ps) j
    by_cases hlt : j < M
    · have q1 : (j : Int) < (M : Int) := by omega
      have HAC := Lib.hid (fun b (hb : accE ps (j : Int) (liveF ps) = b) (W : World) (hW : Below w.heap.size w W) => (show Calls Try.prog 49 #[.slice A ps.length c, .int .i64 (j : Int)] W (RetB b W) from by rw [← hb]; exact l14Accepted_any (hr.below hW hh) (Nat.le_trans hh hW.size) (Nat.le_refl _) (by omega)))
      rcases ha : accE ps (j : Int) (liveF ps) with _ | _
      · have HS := Lib.hid (rejC_yes ha)
        have HA := Lib.hid ha
        clear ha
        generalize rejC ps (liveF ps) j = R at hb HS
        go_wp2_with fail
        refine (HAC.out _ HA.out _ hbw).mono ?_
        rintro e w2 ⟨rfl, B2⟩
        have hb2 := hbw.trans (B2.mono hbw.size)
        go_wp2_with fail
        go_roundw
        case rel => exact ⟨j + 1, by omega, by go_num, by rw [HS.out], hb2⟩
        case measure => simp [intOf]; omega
      · have HS := Lib.hid (rejC_no ha)
        have HA := Lib.hid ha
        clear ha
        generalize rejC ps (liveF ps) j = R at hb HS
        go_wp2_with fail
        refine (HAC.out _ HA.out _ hbw).mono ?_
        rintro e w2 ⟨rfl, B2⟩
        have hb2 := hbw.trans (B2.mono hbw.size)
        go_wp2_with fail
        go_roundw
        case rel => exact ⟨j + 1, by omega, by go_num, by rw [HS.out], hb2⟩
        case measure => simp [intOf]; omega
    · obtain rfl : j = M := by omega
      go_wp2_with fail
      go_ret2
      rw [HE.out]
      exact ⟨rfl, hbw⟩

set_option maxHeartbeats 2000000 in
set_option maxRecDepth 100000 in
theorem iLiveSteps {A : Option Addr} {c lo hi : Nat} {m : Int} {ps : List GEditStep} {w : World} (hr : RdE w lo hi A ps) (hl : ps.length ≤ 2097152) (hh : hi ≤ w.heap.size) (hcap : ps.length ≤ c) (hsz : ∀ p ∈ ps, p.rs.size ≤ maxLen) :
    Calls Try.prog 20 #[.int .i64 m, .slice A ps.length c] w (RetLB (vLiveSteps m ps).1 (vLiveSteps m ps).2 w) := by
  rcases hgd : goodE m ps with _ | _
  · have HE := Lib.hid (show vLiveSteps m ps = ([], false) from by unfold vLiveSteps; rw [if_neg (by simp [hgd])])
    have HGD := Lib.hid hgd
    clear hgd
    go_enter Try.func20, Try.ntmps20
    go_wp2_with fail
    refine (edited_any hr hh hl hsz).mono ?_
    rintro e w1 ⟨hc, B1⟩
    rcases hc with ⟨_, rfl⟩ | ⟨hx, _⟩
    rotate_left
    · rw [HGD.out] at hx; cases hx
    go_wp2_with fail
    go_ret2
    rw [HE.out]
    exact retLB_nil _ _ _ B1
  have hmn := goodE_len hgd
  obtain ⟨M, rfl⟩ : ∃ M : Nat, m = (M : Int) := ⟨m.toNat, by omega⟩
  have HGD := Lib.hid hgd
  clear hgd
  have HE := Lib.hid (show vLiveSteps (M : Int) ps = (natL (liveF ps), true) from by unfold vLiveSteps; rw [if_pos HGD.out])
  go_enter Try.func20, Try.ntmps20
  go_wp2_with fail
  refine (edited_any hr hh hl hsz).mono ?_
  rintro e w1 ⟨hc, B1⟩
  rcases hc with ⟨hx, _⟩ | ⟨_, M', B, c', r, s, g, hM, rfl, ES⟩
  · rw [HGD.out] at hx; cases hx
  obtain rfl : M = M' := by omega
  obtain ⟨S, gr, gs, gg, LO⟩ := ES
  have hc0 := S.c0
  have hc1 := S.c1
  have hc2 := S.c2
  clear hM
  have hnl : (liveE ps ps.length).length = (natL (liveF ps)).length := (natL_len _).symm
  have HNL := Lib.hid hnl
  clear hnl
  go_wp2_with fail
  go_ret2
  rw [HE.out]
  exact ⟨B, c', by rw [HNL.out]; rfl, by rw [OwnI, ← HNL.out]; exact LO, B1⟩

set_option maxHeartbeats 2000000 in
set_option maxRecDepth 100000 in
theorem sLiveSteps {A : Option Addr} {c lo hi : Nat} {m : Int} {ps : List GEditStep} {w : World} (hr : RdE w lo hi A ps) (hl : ps.length ≤ 2097152) (hh : hi ≤ w.heap.size) (hcap : ps.length ≤ c) (hsz : ∀ p ∈ ps, p.rs.size ≤ maxLen) :
    Calls Try.prog 19 #[.int .i64 m, .slice A ps.length c] w (RetLB (vLiveSteps m ps).1 (vLiveSteps m ps).2 w) := by
  obtain ⟨i0, hi0, hz0, hz1, hz2⟩ := info_parts int_info
  have HGC := Lib.hid (fun b (hb : goodE m ps = b) (W : World) (hW : Below w.heap.size w W) => (show Calls Try.prog 46 #[.int .i64 m, .slice A ps.length c] W (RetB b W) from by rw [← hb]; exact l14Good_any (hr.below hW hh) (Nat.le_trans hh hW.size) hcap hl hsz))
  rcases hgd : goodE m ps with _ | _
  · have HE := Lib.hid (show vLiveSteps m ps = ([], false) from by unfold vLiveSteps; rw [if_neg (by simp [hgd])])
    have HGD := Lib.hid hgd
    clear hgd
    go_enter Try.func19, Try.ntmps19
    go_wp2_with fail
    refine (HGC.out _ HGD.out _ (by first | exact Below.refl _ _ | exact below_alloc1 _ _)).mono ?_
    rintro e w1 ⟨rfl, B1⟩
    go_wp2_with fail
    go_ret2
    rw [HE.out]
    exact retLB_of (row_empty_at w1 3 1 B1.size) (B1.trans ((below_alloc1 w1 _).mono B1.size))
  have hmn := goodE_len hgd
  obtain ⟨M, rfl⟩ : ∃ M : Nat, m = (M : Int) := ⟨m.toNat, by omega⟩
  have HGD := Lib.hid hgd
  clear hgd
  go_enter Try.func19, Try.ntmps19
  go_wp2_with fail
  refine (HGC.out _ HGD.out _ (by first | exact Below.refl _ _ | exact below_alloc1 _ _)).mono ?_
  rintro e w1 ⟨rfl, B1⟩
  have HE := Lib.hid (show vLiveSteps (M : Int) ps = (natL (liveF ps), true) from by unfold vLiveSteps; rw [if_pos HGD.out])
  go_wp2_with fail
  refine (l14Live_any (hr.below B1 hh) (Nat.le_trans hh B1.size) (Nat.le_refl _) (by omega)).mono ?_
  rintro e w2 ⟨A2, c2, rfl, O2, B2⟩
  go_wp2_with fail
  go_ret2
  rw [HE.out]
  exact ⟨A2, c2, rfl, O2.more B1.size (Nat.le_refl _), B1.trans (B2.mono B1.size)⟩

set_option maxHeartbeats 2000000 in
set_option maxRecDepth 100000 in
theorem iShiftsAfter {A : Option Addr} {c lo hi : Nat} {m : Int} {ps : List GEditStep} {w : World} (hr : RdE w lo hi A ps) (hl : ps.length ≤ 2097152) (hh : hi ≤ w.heap.size) (hcap : ps.length ≤ c) (hsz : ∀ p ∈ ps, p.rs.size ≤ maxLen) :
    Calls Try.prog 33 #[.int .i64 m, .slice A ps.length c] w (RetLB (vShiftsAfter m ps).1 (vShiftsAfter m ps).2 w) := by
  rcases hgd : goodE m ps with _ | _
  · have HE := Lib.hid (show vShiftsAfter m ps = ([], false) from by unfold vShiftsAfter; rw [if_neg (by simp [hgd])])
    have HGD := Lib.hid hgd
    clear hgd
    go_enter Try.func33, Try.ntmps33
    go_wp2_with fail
    refine (edited_any hr hh hl hsz).mono ?_
    rintro e w1 ⟨hc, B1⟩
    rcases hc with ⟨_, rfl⟩ | ⟨hx, _⟩
    rotate_left
    · rw [HGD.out] at hx; cases hx
    go_wp2_with fail
    go_ret2
    rw [HE.out]
    exact retLB_nil _ _ _ B1
  have hmn := goodE_len hgd
  obtain ⟨M, rfl⟩ : ∃ M : Nat, m = (M : Int) := ⟨m.toNat, by omega⟩
  have HGD := Lib.hid hgd
  clear hgd
  have HE := Lib.hid (show vShiftsAfter (M : Int) ps = (shL ps M (liveF ps), true) from by unfold vShiftsAfter; rw [if_pos HGD.out]; rfl)
  go_enter Try.func33, Try.ntmps33
  go_wp2_with fail
  refine (edited_any hr hh hl hsz).mono ?_
  rintro e w1 ⟨hc, B1⟩
  rcases hc with ⟨hx, _⟩ | ⟨_, M', B, c', r, s, g, hM, rfl, ES⟩
  · rw [HGD.out] at hx; cases hx
  obtain rfl : M = M' := by omega
  obtain ⟨S, gr, gs, gg, LO⟩ := ES
  have hc0 := S.c0
  have hc1 := S.c1
  have hc2 := S.c2
  clear hM
  go_wp2_with fail
  go_ret2
  rw [HE.out]
  refine ⟨some ⟨s, 0, none⟩, M, by rw [shL_length]; rfl, ?_, B1⟩
  rw [OwnI, shL_length]
  exact S.o2.more (by omega) (by have := S.lt; omega)

set_option maxHeartbeats 2000000 in
set_option maxRecDepth 100000 in
theorem sShiftsAfter {A : Option Addr} {c lo hi : Nat} {m : Int} {ps : List GEditStep} {w : World} (hr : RdE w lo hi A ps) (hl : ps.length ≤ 2097152) (hh : hi ≤ w.heap.size) (hcap : ps.length ≤ c) (hsz : ∀ p ∈ ps, p.rs.size ≤ maxLen) :
    Calls Try.prog 32 #[.int .i64 m, .slice A ps.length c] w (RetLB (vShiftsAfter m ps).1 (vShiftsAfter m ps).2 w) := by
  obtain ⟨i0, hi0, hz0, hz1, hz2⟩ := info_parts int_info
  have HGC := Lib.hid (fun b (hb : goodE m ps = b) (W : World) (hW : Below w.heap.size w W) => (show Calls Try.prog 46 #[.int .i64 m, .slice A ps.length c] W (RetB b W) from by rw [← hb]; exact l14Good_any (hr.below hW hh) (Nat.le_trans hh hW.size) hcap hl hsz))
  rcases hgd : goodE m ps with _ | _
  · have HE := Lib.hid (show vShiftsAfter m ps = ([], false) from by unfold vShiftsAfter; rw [if_neg (by simp [hgd])])
    have HGD := Lib.hid hgd
    clear hgd
    go_enter Try.func32, Try.ntmps32
    go_wp2_with fail
    refine (HGC.out _ HGD.out _ (by first | exact Below.refl _ _ | exact below_alloc1 _ _)).mono ?_
    rintro e w1 ⟨rfl, B1⟩
    go_wp2_with fail
    go_ret2
    rw [HE.out]
    exact retLB_of (row_below (row_empty w 3 1) B1) ((below_alloc1 w _).trans (B1.mono (by simp)))
  have hmn := goodE_len hgd
  obtain ⟨M, rfl⟩ : ∃ M : Nat, m = (M : Int) := ⟨m.toNat, by omega⟩
  have HGD := Lib.hid hgd
  clear hgd
  go_enter Try.func32, Try.ntmps32
  go_wp2_with fail
  refine (HGC.out _ HGD.out _ (by first | exact Below.refl _ _ | exact below_alloc1 _ _)).mono ?_
  rintro e w1 ⟨rfl, B1⟩
  have HE := Lib.hid (show vShiftsAfter (M : Int) ps = (shL ps M (liveF ps), true) from by unfold vShiftsAfter; rw [if_pos HGD.out]; rfl)
  have BB1 := (below_alloc1 w (.cells #[] 3)).trans (B1.mono (by simp))
  have O0 := row_below (row_empty w 3 1) B1
  clear B1
  go_wp2_with fail
  go_loopw [6, 7] (fun v i wr => ∃ j : Nat, j ≤ M ∧ i = .int .i64 j ∧ wr.ownsRow w.heap.size 3 1 v (shL ps j (liveF ps)).length (ints (shL ps j (liveF ps))) ∧ Below w.heap.size w wr) (fun _ i _ => M - (intOf i).toNat)
  case atStart => exact ⟨0, Nat.zero_le _, rfl, O0, BB1⟩
  case round =>
    obtain ⟨j, hj, rfl, hown, hb⟩ := hrel
    have hlen := shL_length ps j (liveF ps)
    have HLN := Lib.hid hlen
    by_cases hlt : j < M
    · have q1 : (j : Int) < (M : Int) := by omega
      have hsh : (shL ps j (liveF ps)).length ≤ 15 := by omega
      clear hlen
      go_wp2_with fail
      refine (l14Shift_any (mark := (j : Int)) (hr.below hb hh) (Nat.le_trans hh hb.size) (Nat.le_refl _) (by omega) (good_sh HGD.out)).mono ?_
      rintro e w2 ⟨rfl, B2⟩
      have hown2 := row_below hown B2
      have hb2 := hb.trans (B2.mono hb.size)
      go_wp2_with (at_builtin; refine wpList_push _ rfl _ _ 31 rfl w.heap.size 3 i0 (.int .i64 0) 1 8 Try.underlying31 hi0 hz0 hz1 hz2 rfl (by decide) _ _ _ rfl hown2 [.int .i64 (shiftE ps (j : Int) (liveF ps))] rfl (one_int _) rfl (by omega) (by decide) hb2.size ?_; intro v1 w3 hown1 hb1 hs1 _ _)
      go_roundw
      case rel => exact ⟨j + 1, by omega, by go_num, push_rel shL_take hown1, hb1 _ hb2⟩
      case measure => simp [intOf]; omega
    · obtain rfl : j = M := by omega
      clear hlen
      go_wp2_with fail
      go_ret2
      rw [HE.out]
      exact retLB_of hown hb

end Go.Proofs.Ytdcbgahfbcemnaa
