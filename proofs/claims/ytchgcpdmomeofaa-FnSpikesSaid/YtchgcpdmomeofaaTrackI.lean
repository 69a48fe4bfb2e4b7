/-
  This file proves contracts of Flattened, of the program and of the reference: the median filter is laid on a track till it has no spikes, thirty times at most.
  Conditions: each contract's own hypotheses (that a slice reads as a list, that it is not too long).
-/
import Derived.Test.YtchgcpdmomeofaaTrackH
import Derived.Test.YtchgcpdmomeofaaTrackE
namespace Go.Proofs.Ytchgcpdmomeofaa
open Go.RowKit
set_option linter.unusedSimpArgs false
set_option linter.unusedVariables false

def calm (xs : List Int) (lim : Int) : Prop := (upOf xs lim (xs.length - 1)).length = 0 ∧ (downOf xs lim (xs.length - 1)).length = 0
instance (xs : List Int) (lim : Int) : Decidable (calm xs lim) := inferInstanceAs (Decidable (_ ∧ _))
/-- At most f filters: the track behind them, and how many were laid. -/
def flat (lim : Int) : Nat → List Int → List Int × Nat
  | 0, xs => (xs, 0)
  | f + 1, xs => if calm xs lim then (xs, 0) else ((flat lim f (medL xs)).1, (flat lim f (medL xs)).2 + 1)
theorem flat_length (lim : Int) (f : Nat) (xs : List Int) : (flat lim f xs).1.length = xs.length := by
  induction f generalizing xs with
  | zero => rfl
  | succ f ih =>
    unfold flat
    split
    · rfl
    · simp only [ih, medL_length]
def vFlattened (xs : List Int) (lim : Int) : List Int × Int × Bool :=
  if isTrk xs = true ∧ inR lim 1 5000 = true then ((flat lim 30 xs).1, ((flat lim 30 xs).2 : Int), true) else ([], 0, false)
theorem vFlattened_len0 (xs : List Int) (lim : Int) : (vFlattened xs lim).1.length ≤ xs.length := by
  unfold vFlattened
  split
  · simp only [flat_length]; omega
  · simp

set_option maxHeartbeats 2000000 in
theorem iFlattened {A : Option Addr} {c lo hi : Nat} {xs : List Int} {lim : Int} {w : World} (hr : RdI w lo hi A xs) (hl : xs.length ≤ 4194304) (hh : hi ≤ w.heap.size) (hcap : xs.length ≤ c) :
    Calls Try.prog 18 #[.slice A xs.length c, .int .i64 lim] w (RetLIB (vFlattened xs lim).1 (vFlattened xs lim).2.1 (vFlattened xs lim).2.2 w) := by
  by_cases h1 : isTrk xs = true
  rotate_left
  · have h1' : isTrk xs = false := by simpa using h1
    clear h1
    have HE := Lib.hid (show vFlattened xs lim = ([], 0, false) from by unfold vFlattened; rw [if_neg (by simp [h1'])])
    go_enter Try.func18, Try.ntmps18
    go_wp2_with (first | (go_at_call 10; refine (isTrack_any _ _ _ _ _ _ hr (by omega)).mono ?_; rintro e w' ⟨rfl, rfl⟩) | (go_at_call 40; refine (isLimit_any _ _).mono ?_; rintro e w' ⟨rfl, rfl⟩))
    go_ret3
    rw [HE.out]
    exact ⟨none, 0, rfl, own_nil _ _ _ _, Below.refl _ _⟩
  by_cases h2 : inR lim 1 5000 = true
  rotate_left
  · have h2' : inR lim 1 5000 = false := by simpa using h2
    clear h2
    have HE := Lib.hid (show vFlattened xs lim = ([], 0, false) from by unfold vFlattened; rw [if_neg (by simp [h2'])])
    go_enter Try.func18, Try.ntmps18
    go_wp2_with (first | (go_at_call 10; refine (isTrack_any _ _ _ _ _ _ hr (by omega)).mono ?_; rintro e w' ⟨rfl, rfl⟩) | (go_at_call 40; refine (isLimit_any _ _).mono ?_; rintro e w' ⟨rfl, rfl⟩))
    go_ret3
    rw [HE.out]
    exact ⟨none, 0, rfl, own_nil _ _ _ _, Below.refl _ _⟩
  have HE := Lib.hid (show vFlattened xs lim = ((flat lim 30 xs).1, ((flat lim 30 xs).2 : Int), true) from by unfold vFlattened; rw [if_pos ⟨h1, h2⟩])
  have H1 := Lib.hid h1
  go_enter Try.func18, Try.ntmps18
  go_wp2_with (first | (go_at_call 10; refine (isTrack_any _ _ _ _ _ _ hr (by omega)).mono ?_; rintro e w' ⟨rfl, rfl⟩) | (go_at_call 40; refine (isLimit_any _ _).mono ?_; rintro e w' ⟨rfl, rfl⟩))
  refine (copyInts_any hr (by omega) hh).mono ?_
  rintro e w1 ⟨A0, c0, rfl, O0, B0⟩
  clear h1
  go_wp2_with fail
  go_loopw [7, 8] (fun t n wr => ∃ (j : Nat) (ys : List Int) (A1 : Option Addr) (c1 h1 : Nat), j ≤ 30 ∧ t = .slice A1 ys.length c1 ∧ n = .int .i64 j ∧ isTrk ys = true ∧ flat lim 30 xs = ((flat lim (30 - j) ys).1, (flat lim (30 - j) ys).2 + j) ∧ OwnI wr 3 w.heap.size h1 A1 c1 ys ∧ h1 ≤ wr.heap.size ∧ Below w.heap.size w wr) (fun _ n _ => 30 - (intOf n).toNat)
  case atStart => exact ⟨0, xs, A0, c0, w1.heap.size, by omega, rfl, rfl, H1.out, rfl, O0, Nat.le_refl _, B0⟩
  case round =>
    obtain ⟨j, ys, A1, c1, k1, hj, rfl, rfl, hty, hfl, hown, hsz, hb⟩ := hrel
    have HF := Lib.hid hfl
    have HT := Lib.hid hty
    have hy30 := (isTrk_all hty).2.2
    have hy3 := (isTrk_all hty).2.1
    clear hfl hty
    by_cases hlt : j < 30
    rotate_left
    · obtain rfl : j = 30 := by omega
      go_wp2_with fail
      go_ret3
      rw [HE.out, HF.out]
      exact ⟨A1, c1, by simp [flat], hown.more (Nat.le_refl _) hsz, hb⟩
    obtain ⟨m, hm⟩ : ∃ m, 30 - j = m + 1 := ⟨30 - j - 1, by omega⟩
    have HM := Lib.hid hm
    clear hm
    go_wp2_with fail
    refine (spikesIn_any hown.rd (by omega) HT.out h2).mono ?_
    rintro e w2 ⟨Au, cu, Ad, cd, l1, k1', l2, k2', rfl, o1, o2, a1, a1', a2, a3, a3', a4, a5, B2⟩
    have hs2 := B2.size
    have hown2 := hown.below B2 hsz
    have hb2 := hb.trans (B2.mono hb.size)
    obtain ⟨us, hus⟩ : ∃ us, us = upOf ys lim (ys.length - 1) := ⟨_, rfl⟩
    obtain ⟨ds, hds⟩ : ∃ ds, ds = downOf ys lim (ys.length - 1) := ⟨_, rfl⟩
    have hul := upOf_le ys lim (ys.length - 1)
    have hdl := downOf_le ys lim (ys.length - 1)
    rw [← hus] at hul o1 ⊢
    rw [← hds] at hdl o2 ⊢
    have HC := Lib.hid (show calm ys lim ↔ us.length = 0 ∧ ds.length = 0 from by rw [hus, hds]; exact Iff.rfl)
    clear hus hds o1 o2 hown
    by_cases hu : us.length = 0
    · by_cases hd : ds.length = 0
      · have HR := Lib.hid (show flat lim 30 xs = (ys, j) from by rw [HF.out, HM.out, flat, if_pos (HC.out.2 ⟨hu, hd⟩), Nat.zero_add])
        go_wp2_with fail
        go_ret3
        rw [HE.out, HR.out]
        exact ⟨A1, c1, rfl, hown2.more (Nat.le_refl _) (by omega), hb2⟩
      · have hd0 : 0 < ds.length := by omega
        have e2 : ((ds.length : Int) == 0) = false := by rw [beq_eq_false_iff_ne]; omega
        have HR := Lib.hid (show flat lim 30 xs = ((flat lim (30 - (j + 1)) (medL ys)).1, (flat lim (30 - (j + 1)) (medL ys)).2 + (j + 1)) from by rw [HF.out, HM.out, show 30 - (j + 1) = m from by have := HM.out; omega, flat, if_neg (fun h => by have := HC.out.1 h; omega)]; simp only [Nat.add_assoc, Nat.add_comm 1 j])
        go_wp2_with fail
        refine (medianFilter_any hown2.rd (by omega) HT.out hown2.cap).mono ?_
        rintro e w3 ⟨A3, c3, rfl, O3, B3⟩
        have hb3 := hb2.trans (B3.mono hb2.size)
        obtain ⟨zs, hzs⟩ : ∃ zs, zs = medL ys := ⟨_, rfl⟩
        rw [← hzs] at O3 ⊢
        have HZ := Lib.hid hzs
        clear hzs
        go_wp2_with fail
        go_roundw
        case rel => exact ⟨j + 1, zs, A3, c3, w3.heap.size, by omega, rfl, by go_num, by rw [HZ.out]; exact medL_trk HT.out, by rw [HZ.out]; exact HR.out, O3.more hb2.size (Nat.le_refl _), Nat.le_refl _, hb3⟩
        case measure => simp [intOf]; omega
    · have hu0 : 0 < us.length := by omega
      have e1 : ((us.length : Int) == 0) = false := by rw [beq_eq_false_iff_ne]; omega
      have HR := Lib.hid (show flat lim 30 xs = ((flat lim (30 - (j + 1)) (medL ys)).1, (flat lim (30 - (j + 1)) (medL ys)).2 + (j + 1)) from by rw [HF.out, HM.out, show 30 - (j + 1) = m from by have := HM.out; omega, flat, if_neg (fun h => by have := HC.out.1 h; omega)]; simp only [Nat.add_assoc, Nat.add_comm 1 j])
      go_wp2_with fail
      refine (medianFilter_any hown2.rd (by omega) HT.out hown2.cap).mono ?_
      rintro e w3 ⟨A3, c3, rfl, O3, B3⟩
      have hb3 := hb2.trans (B3.mono hb2.size)
      obtain ⟨zs, hzs⟩ : ∃ zs, zs = medL ys := ⟨_, rfl⟩
      rw [← hzs] at O3 ⊢
      have HZ := Lib.hid hzs
      clear hzs
      go_wp2_with fail
      go_roundw
      case rel => exact ⟨j + 1, zs, A3, c3, w3.heap.size, by omega, rfl, by go_num, by rw [HZ.out]; exact medL_trk HT.out, by rw [HZ.out]; exact HR.out, O3.more hb2.size (Nat.le_refl _), Nat.le_refl _, hb3⟩
      case measure => simp [intOf]; omega

set_option maxHeartbeats 2000000 in
theorem sFlattened {A : Option Addr} {c lo hi : Nat} {xs : List Int} {lim : Int} {w : World} (hr : RdI w lo hi A xs) (hl : xs.length ≤ 4194304) (hh : hi ≤ w.heap.size) :
    Calls Try.prog 19 #[.slice A xs.length c, .int .i64 lim] w (RetLIB (vFlattened xs lim).1 (vFlattened xs lim).2.1 (vFlattened xs lim).2.2 w) := by
  by_cases h1 : isTrk xs = true
  rotate_left
  · have h1' : isTrk xs = false := by simpa using h1
    clear h1
    have HE := Lib.hid (show vFlattened xs lim = ([], 0, false) from by unfold vFlattened; rw [if_neg (by simp [h1'])])
    go_enter Try.func19, Try.ntmps19
    go_wp2_with (go_at_call 42; refine (l12Asked_any _ _ _ _ _ _ _ hr (by omega)).mono ?_; rintro e w' ⟨rfl, rfl⟩)
    go_ret3
    rw [HE.out]
    exact retLIB_of (row_empty _ _ _) (below_alloc1 _ _)
  by_cases h2 : inR lim 1 5000 = true
  rotate_left
  · have h2' : inR lim 1 5000 = false := by simpa using h2
    clear h2
    have HE := Lib.hid (show vFlattened xs lim = ([], 0, false) from by unfold vFlattened; rw [if_neg (by simp [h2'])])
    go_enter Try.func19, Try.ntmps19
    go_wp2_with (go_at_call 42; refine (l12Asked_any _ _ _ _ _ _ _ hr (by omega)).mono ?_; rintro e w' ⟨rfl, rfl⟩)
    go_ret3
    rw [HE.out]
    exact retLIB_of (row_empty _ _ _) (below_alloc1 _ _)
  have HE := Lib.hid (show vFlattened xs lim = ((flat lim 30 xs).1, ((flat lim 30 xs).2 : Int), true) from by unfold vFlattened; rw [if_pos ⟨h1, h2⟩])
  have H1 := Lib.hid h1
  go_enter Try.func19, Try.ntmps19
  go_wp2_with (go_at_call 42; refine (l12Asked_any _ _ _ _ _ _ _ hr (by omega)).mono ?_; rintro e w' ⟨rfl, rfl⟩)
  refine (l1Own_any hr (by omega) hh).mono ?_
  rintro e w1 ⟨A0, c0, rfl, O0, B0⟩
  clear h1
  go_wp2_with fail
  go_loopw [7, 8] (fun t n wr => ∃ (j : Nat) (ys : List Int) (A1 : Option Addr) (c1 h1 : Nat), j ≤ 30 ∧ t = .slice A1 ys.length c1 ∧ n = .int .i64 j ∧ isTrk ys = true ∧ flat lim 30 xs = ((flat lim (30 - j) ys).1, (flat lim (30 - j) ys).2 + j) ∧ OwnI wr 3 w.heap.size h1 A1 c1 ys ∧ h1 ≤ wr.heap.size ∧ Below w.heap.size w wr) (fun _ n _ => 30 - (intOf n).toNat)
  case atStart => exact ⟨0, xs, A0, c0, w1.heap.size, by omega, rfl, rfl, H1.out, rfl, O0, Nat.le_refl _, B0⟩
  case round =>
    obtain ⟨j, ys, A1, c1, k1, hj, rfl, rfl, hty, hfl, hown, hsz, hb⟩ := hrel
    have HF := Lib.hid hfl
    have HT := Lib.hid hty
    have hy30 := (isTrk_all hty).2.2
    have hy3 := (isTrk_all hty).2.1
    clear hfl hty
    by_cases hlt : j < 30
    rotate_left
    · obtain rfl : j = 30 := by omega
      go_wp2_with fail
      go_ret3
      rw [HE.out, HF.out]
      exact ⟨A1, c1, by simp [flat], hown.more (Nat.le_refl _) hsz, hb⟩
    obtain ⟨m, hm⟩ : ∃ m, 30 - j = m + 1 := ⟨30 - j - 1, by omega⟩
    have HM := Lib.hid hm
    clear hm
    go_wp2_with fail
    refine (l12Spikes_any hown.rd (by omega) HT.out h2).mono ?_
    rintro e w2 ⟨Au, cu, Ad, cd, l1, k1', l2, k2', rfl, o1, o2, a1, a1', a2, a3, a3', a4, a5, B2⟩
    have hs2 := B2.size
    have hown2 := hown.below B2 hsz
    have hb2 := hb.trans (B2.mono hb.size)
    obtain ⟨us, hus⟩ : ∃ us, us = upOf ys lim (ys.length - 1) := ⟨_, rfl⟩
    obtain ⟨ds, hds⟩ : ∃ ds, ds = downOf ys lim (ys.length - 1) := ⟨_, rfl⟩
    have hul := upOf_le ys lim (ys.length - 1)
    have hdl := downOf_le ys lim (ys.length - 1)
    rw [← hus] at hul o1 ⊢
    rw [← hds] at hdl o2 ⊢
    have HC := Lib.hid (show calm ys lim ↔ us.length = 0 ∧ ds.length = 0 from by rw [hus, hds]; exact Iff.rfl)
    clear hus hds o1 o2 hown
    by_cases hu : us.length = 0
    · by_cases hd : ds.length = 0
      · have HR := Lib.hid (show flat lim 30 xs = (ys, j) from by rw [HF.out, HM.out, flat, if_pos (HC.out.2 ⟨hu, hd⟩), Nat.zero_add])
        go_wp2_with fail
        go_ret3
        rw [HE.out, HR.out]
        exact ⟨A1, c1, rfl, hown2.more (Nat.le_refl _) (by omega), hb2⟩
      · have hd0 : 0 < ds.length := by omega
        have e2 : ((ds.length : Int) == 0) = false := by rw [beq_eq_false_iff_ne]; omega
        have HR := Lib.hid (show flat lim 30 xs = ((flat lim (30 - (j + 1)) (medL ys)).1, (flat lim (30 - (j + 1)) (medL ys)).2 + (j + 1)) from by rw [HF.out, HM.out, show 30 - (j + 1) = m from by have := HM.out; omega, flat, if_neg (fun h => by have := HC.out.1 h; omega)]; simp only [Nat.add_assoc, Nat.add_comm 1 j])
        go_wp2_with fail
        refine (l12Filter_any hown2.rd (by omega) HT.out).mono ?_
        rintro e w3 ⟨A3, c3, rfl, O3, B3⟩
        have hb3 := hb2.trans (B3.mono hb2.size)
        obtain ⟨zs, hzs⟩ : ∃ zs, zs = medL ys := ⟨_, rfl⟩
        rw [← hzs] at O3 ⊢
        have HZ := Lib.hid hzs
        clear hzs
        go_wp2_with fail
        go_roundw
        case rel => exact ⟨j + 1, zs, A3, c3, w3.heap.size, by omega, rfl, by go_num, by rw [HZ.out]; exact medL_trk HT.out, by rw [HZ.out]; exact HR.out, O3.more hb2.size (Nat.le_refl _), Nat.le_refl _, hb3⟩
        case measure => simp [intOf]; omega
    · have hu0 : 0 < us.length := by omega
      have e1 : ((us.length : Int) == 0) = false := by rw [beq_eq_false_iff_ne]; omega
      have e3 : ((us.length : Int) + (ds.length : Int) == 0) = false := by rw [beq_eq_false_iff_ne]; omega
      have HR := Lib.hid (show flat lim 30 xs = ((flat lim (30 - (j + 1)) (medL ys)).1, (flat lim (30 - (j + 1)) (medL ys)).2 + (j + 1)) from by rw [HF.out, HM.out, show 30 - (j + 1) = m from by have := HM.out; omega, flat, if_neg (fun h => by have := HC.out.1 h; omega)]; simp only [Nat.add_assoc, Nat.add_comm 1 j])
      go_wp2_with fail
      refine (l12Filter_any hown2.rd (by omega) HT.out).mono ?_
      rintro e w3 ⟨A3, c3, rfl, O3, B3⟩
      have hb3 := hb2.trans (B3.mono hb2.size)
      obtain ⟨zs, hzs⟩ : ∃ zs, zs = medL ys := ⟨_, rfl⟩
      rw [← hzs] at O3 ⊢
      have HZ := Lib.hid hzs
      clear hzs
      go_wp2_with fail
      go_roundw
      case rel => exact ⟨j + 1, zs, A3, c3, w3.heap.size, by omega, rfl, by go_num, by rw [HZ.out]; exact medL_trk HT.out, by rw [HZ.out]; exact HR.out, O3.more hb2.size (Nat.le_refl _), Nat.le_refl _, hb3⟩
      case measure => simp [intOf]; omega

end Go.Proofs.Ytchgcpdmomeofaa
