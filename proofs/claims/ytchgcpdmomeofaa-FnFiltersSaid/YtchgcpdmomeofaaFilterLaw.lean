/-
  This file proves the plain law of filters: a shoal filter never makes a track deeper, a median filter never makes it rougher; the longest smooth part is smooth; no index is shoaler both ways.
  Conditions: none beyond each lemma's own hypotheses. No program is in sight.
-/
import Derived.Test.YtchgcpdmomeofaaTrackB
import Derived.Test.YtchgcpdmomeofaaTrackC
import Derived.Test.YtchgcpdmomeofaaTrackD
import Derived.Test.YtchgcpdmomeofaaTrackG
import Derived.Test.YtchgcpdmomeofaaTrackH
namespace Go.Proofs.Ytchgcpdmomeofaa
open Go.RowKit
set_option linter.unusedSimpArgs false
set_option linter.unusedVariables false

theorem gath_allF (f : Nat → Int) (k : Nat) : gath (fun _ => true) f k = (List.range k).map f := gath_all f k
theorem shoal_law {xs : List Int} {reach : Int} {l : List Int} {ok : Bool} (h : vShoalFilter xs reach = (l, ok)) : l.length ≤ xs.length ∧ ∀ (i : Nat) (x y : Int), l[i]? = some x → xs[i]? = some y → x ≤ y := by
  unfold vShoalFilter at h
  split at h
  · injection h with h1 h2
    subst h1
    rw [gath_allF]
    refine ⟨by simp, fun i x y hx hy => ?_⟩
    have hi : i < xs.length := (List.getElem?_eq_some_iff.1 hy).1
    simp [hi] at hx
    rw [← hx]
    have := (foldMin_le (xs.getD i 0) (wnd xs (loOf i reach.toNat) (hiOf xs.length i reach.toNat))).1
    unfold shoF
    rw [getD_of hy] at this ⊢
    exact this
  · injection h with h1 h2
    subst h1
    exact ⟨by simp, fun i x y hx hy => by simp at hx⟩

theorem med_step (p a b c m : Int) (h : (a ≤ m ∧ m ≤ b) ∨ (b ≤ m ∧ m ≤ a)) : absI (med3 a b c - m) + absI (c - med3 a b c) ≤ absI (b - m) + absI (c - b) := by
  unfold absI med3 mostI leastI
  repeat' split <;> omega
theorem med_between (p a b : Int) : (a ≤ med3 p a b ∧ med3 p a b ≤ b) ∨ (b ≤ med3 p a b ∧ med3 p a b ≤ a) := by
  unfold med3 mostI leastI
  repeat' split <;> omega
theorem medF_between (xs : List Int) (k : Nat) (hk : k + 1 < xs.length) : (xs.getD k 0 ≤ medF xs k ∧ medF xs k ≤ xs.getD (k + 1) 0) ∨ (xs.getD (k + 1) 0 ≤ medF xs k ∧ medF xs k ≤ xs.getD k 0) := by
  unfold medF
  split
  · exact med_between _ _ _
  · omega
theorem medL_getD {xs : List Int} {i : Nat} (hi : i < xs.length) : (medL xs).getD i 0 = medF xs i := getD_of (medL_get hi)
theorem rough_inv (xs : List Int) (k : Nat) (hk : k + 1 < xs.length) : rsum (stepSize (medL xs)) k + absI (xs.getD (k + 1) 0 - medF xs k) ≤ rsum (stepSize xs) (k + 1) := by
  induction k with
  | zero =>
    have e : medF xs 0 = xs.getD 0 0 := by unfold medF; rw [if_neg (by omega)]
    rw [e, rsum_succ]
    unfold stepSize rsum
    omega
  | succ k ih =>
    have h1 := ih (by omega)
    have hb := medF_between xs k (by omega)
    have e : medF xs (k + 1) = med3 (xs.getD k 0) (xs.getD (k + 1) 0) (xs.getD (k + 1 + 1) 0) := by unfold medF; rw [if_pos ⟨by omega, hk⟩, Nat.add_sub_cancel]
    have hs := med_step 0 (xs.getD k 0) (xs.getD (k + 1) 0) (xs.getD (k + 1 + 1) 0) (medF xs k) hb
    rw [← e] at hs
    rw [rsum_succ (stepSize (medL xs)) k, rsum_succ (stepSize xs) (k + 1)]
    have e2 : stepSize (medL xs) k = absI (medF xs (k + 1) - medF xs k) := by unfold stepSize; rw [medL_getD (show k + 1 < xs.length by omega), medL_getD (show k < xs.length by omega)]
    have e3 : stepSize xs (k + 1) = absI (xs.getD (k + 1 + 1) 0 - xs.getD (k + 1) 0) := rfl
    rw [e2, e3]
    omega
theorem rough_law {xs : List Int} (h : isTrk xs = true) : vMedianFilter xs = (medL xs, true) ∧ vRoughnessOf (medL xs) = (rsum (stepSize (medL xs)) (xs.length - 1), true) ∧ vRoughnessOf xs = (rsum (stepSize xs) (xs.length - 1), true) ∧ rsum (stepSize (medL xs)) (xs.length - 1) ≤ rsum (stepSize xs) (xs.length - 1) := by
  have hn := isTrk_all h
  refine ⟨by unfold vMedianFilter; rw [if_pos h], by unfold vRoughnessOf; rw [if_pos (medL_trk h), medL_length], by unfold vRoughnessOf; rw [if_pos h], ?_⟩
  obtain ⟨k, hk⟩ : ∃ k, xs.length = k + 2 := ⟨xs.length - 2, by omega⟩
  have h1 := rough_inv xs k (by omega)
  rw [show xs.length - 1 = k + 1 by omega, rsum_succ (stepSize (medL xs)) k]
  have e2 : stepSize (medL xs) k = absI (xs.getD (k + 1) 0 - medF xs k) := by
    unfold stepSize
    rw [medL_getD (show k + 1 < xs.length by omega), medL_getD (show k < xs.length by omega)]
    have e : medF xs (k + 1) = xs.getD (k + 1) 0 := by unfold medF; rw [if_neg (by omega)]
    rw [e]
  rw [e2]
  exact h1

/-- From a on, m numbers: each step is small. -/
def smooth (xs : List Int) (lim : Int) (a m : Nat) : Prop := ∀ i, a < i → i < a + m → absI (xs.getD i 0 - xs.getD (i - 1) 0) ≤ lim
theorem smo_smooth (xs : List Int) (lim : Int) (k : Nat) : smooth xs lim (smo xs lim k).1 (smo xs lim k).2.1 ∧ smooth xs lim (smo xs lim k).2.2 (k - (smo xs lim k).2.2) ∧ (smo xs lim k).1 + (smo xs lim k).2.1 ≤ k := by
  induction k with
  | zero => exact ⟨fun i h1 h2 => absurd h2 (by simp [smo] at h1 ⊢ <;> omega), fun i h1 h2 => absurd h2 (by simp [smo] at h1 ⊢ <;> omega), by simp [smo]⟩
  | succ k ih =>
    obtain ⟨hA, hB, hC⟩ := ih
    have hi := smo_inv xs lim k
    rcases hs : smo xs lim k with ⟨b, m, g⟩
    rw [hs] at hA hB hC hi
    simp only at hA hB hC hi
    obtain ⟨g', hg'⟩ : ∃ g', (if 0 < k ∧ lim < absI (xs.getD k 0 - xs.getD (k - 1) 0) then k else g) = g' := ⟨_, rfl⟩
    rw [smo_step hs hg']
    have hG : smooth xs lim g' (k + 1 - g') ∧ g' ≤ k := by
      by_cases hc : 0 < k ∧ lim < absI (xs.getD k 0 - xs.getD (k - 1) 0)
      · rw [if_pos hc] at hg'
        subst hg'
        exact ⟨fun i h1 h2 => by omega, Nat.le_refl _⟩
      · rw [if_neg hc] at hg'
        subst hg'
        refine ⟨fun i h1 h2 => ?_, hi.2.2⟩
        rcases Nat.lt_or_ge i k with h | h
        · exact hB i h1 (by omega)
        · obtain rfl : i = k := by omega
          have : ¬ (lim < absI (xs.getD i 0 - xs.getD (i - 1) 0)) := fun h' => hc ⟨by omega, h'⟩
          omega
    split
    · have hG1 := hG.1
      rw [show k + 1 - g' = k - g' + 1 from by omega] at hG1
      exact ⟨hG1, hG.1, by simp only; omega⟩
    · exact ⟨hA, hG.1, by simp only; omega⟩
/-- The longest smooth part is smooth. -/
theorem smooth_law {xs : List Int} {lim : Int} {at_ n : Int} (h : vLongestSmooth xs lim = (at_, n, true)) : 0 ≤ at_ ∧ 0 ≤ n ∧ at_ + n ≤ xs.length ∧ allDepth xs = true ∧
    ∀ (i : Nat) (x y : Int), at_ < i → (i : Int) < at_ + n → xs[i]? = some x → xs[i - 1]? = some y → absI (x - y) ≤ lim := by
  unfold vLongestSmooth at h
  split at h
  · rename_i hc
    injection h with h1 h2
    injection h2 with h2 h3
    have hs := smo_smooth xs lim xs.length
    refine ⟨by omega, by omega, by omega, (isTrk_all hc.1).1, fun i x y h4 h5 hx hy => ?_⟩
    have := hs.1 i (by omega) (by omega)
    rwa [getD_of hx, getD_of hy] at this
  · injection h with h1 h2; injection h2 with h2 h3; cases h3
/-- No index is shoaler both ways. -/
theorem where_law {xs ys : List Int} {l : List Int} (h : vWhereShoaler xs ys = (l, true)) : ∃ r, vWhereShoaler ys xs = (r, true) ∧ r.length ≤ ys.length ∧ ∀ x ∈ l, decide (x ∈ r) = false := by
  unfold vWhereShoaler at h
  split at h
  · rename_i hc
    injection h with h1 h2
    refine ⟨gath (pShoal ys xs) (fun i => (i : Int)) ys.length, by unfold vWhereShoaler; rw [if_pos ⟨hc.2.1, hc.1, hc.2.2.symm⟩], gath_le _ _ _, fun x hx => ?_⟩
    rw [decide_eq_false_iff_not]
    intro hr
    rw [← h1] at hx
    unfold gath at hx hr
    obtain ⟨i, hi, e1⟩ := List.mem_map.1 hx
    obtain ⟨j, hj, e2⟩ := List.mem_map.1 hr
    have hij : i = j := by omega
    subst hij
    have p1 := (List.mem_filter.1 hi).2
    have p2 := (List.mem_filter.1 hj).2
    unfold pShoal at p1 p2
    simp only [decide_eq_true_eq] at p1 p2
    omega
  · injection h with h1 h2; cases h2
end Go.Proofs.Ytchgcpdmomeofaa
