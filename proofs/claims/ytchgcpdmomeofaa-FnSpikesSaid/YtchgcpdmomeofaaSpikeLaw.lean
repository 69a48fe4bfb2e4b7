/-
  This file proves the plain law of spikes: the depths that are kept and the spikes down make up the track; no spike is up and down; a flattened track has none. And the contract of the laws' sum.
  Conditions: none beyond each lemma's own hypotheses.
-/
import Derived.Test.YtchgcpdmomeofaaTrackF
import Derived.Test.YtchgcpdmomeofaaTrackI
import Derived.Test.YtchgcpdmomeofaaTrackD
import Derived.Test.YtchgcpdmomeofaaLawHelp
namespace Go.Proofs.Ytchgcpdmomeofaa
open Go.RowKit
set_option linter.unusedSimpArgs false
set_option linter.unusedVariables false

/-- How many of the first k pass. -/
def cN (p : Nat → Bool) : Nat → Nat
  | 0 => 0
  | k + 1 => if p k = true then cN p k + 1 else cN p k
theorem gath_len (p : Nat → Bool) (f : Nat → Int) (k : Nat) : (gath p f k).length = cN p k := by
  induction k with
  | zero => rfl
  | succ k ih =>
    rcases h : p k with _ | _
    · rw [gath_no h, cN, if_neg (by simp [h]), ih]
    · rw [gath_yes h rfl, cN, if_pos h, List.length_append, ih]; rfl
theorem cN_not (p q : Nat → Bool) (k : Nat) (h : ∀ i, i < k → q i = !p i) : cN p k + cN q k = k := by
  induction k with
  | zero => rfl
  | succ k ih =>
    have := ih (fun i hi => h i (by omega))
    have hk := h k (by omega)
    rw [cN, cN, hk]
    rcases p k with _ | _ <;> simp <;> omega
theorem cN_congr (p q : Nat → Bool) (k : Nat) (h : ∀ i, i < k → p i = q i) : cN p k = cN q k := by
  induction k with
  | zero => rfl
  | succ k ih => rw [cN, cN, ih (fun i hi => h i (by omega)), h k (by omega)]
theorem hasI_iff {l : List Int} {x : Int} : hasI l x = true ↔ x ∈ l := by
  unfold hasI
  rw [List.any_eq_true]
  constructor
  · rintro ⟨y, hy, e⟩
    have : y = x := by simpa using e
    rw [← this]; exact hy
  · intro h
    exact ⟨x, h, by simp⟩
theorem mem_gath {p : Nat → Bool} {k i : Nat} : ((i : Int) ∈ gath p (fun i => (i : Int)) k) ↔ i < k ∧ p i = true := by
  unfold gath
  rw [List.mem_map]
  constructor
  · rintro ⟨j, hj, e⟩
    have hji : j = i := by omega
    rw [List.mem_filter, List.mem_range] at hj
    rw [← hji]; exact hj
  · intro h
    exact ⟨i, List.mem_filter.2 ⟨List.mem_range.2 h.1, h.2⟩, rfl⟩
theorem gath_mem {p : Nat → Bool} {k : Nat} {x : Int} (h : x ∈ gath p (fun i => (i : Int)) k) : ∃ i : Nat, x = (i : Int) ∧ i < k ∧ p i = true := by
  unfold gath at h
  obtain ⟨j, hj, e⟩ := List.mem_map.1 h
  rw [List.mem_filter, List.mem_range] at hj
  exact ⟨j, e.symm, hj⟩
theorem cN_hasI (p : Nat → Bool) (n : Nat) (hn : 1 ≤ n) : cN (fun i => hasI (gath p (fun i => (i : Int)) (n - 1)) (i : Int)) n = (gath p (fun i => (i : Int)) (n - 1)).length := by
  obtain ⟨m, rfl⟩ : ∃ m, n = m + 1 := ⟨n - 1, by omega⟩
  rw [Nat.add_sub_cancel, gath_len, cN]
  have h0 : ¬ hasI (gath p (fun i => (i : Int)) m) (m : Int) = true := by rw [hasI_iff, mem_gath]; omega
  rw [if_neg h0]
  refine cN_congr _ _ _ fun i hi => ?_
  rw [Bool.eq_iff_iff, hasI_iff, mem_gath]
  exact ⟨fun h => h.2, fun h => ⟨hi, h⟩⟩

def keepL (xs : List Int) (lim : Int) : List Int := gath (fun _ => true) (rejF xs lim) xs.length
theorem gath_true (f : Nat → Int) (k : Nat) : gath (fun _ => true) f k = (List.range k).map f := gath_all f k
theorem keepL_length (xs : List Int) (lim : Int) : (keepL xs lim).length = xs.length := by unfold keepL; rw [gath_true]; simp
theorem keepL_get {xs : List Int} {lim : Int} {i : Nat} (h : i < xs.length) : (keepL xs lim).getD i 0 = rejF xs lim i := by
  unfold keepL
  rw [gath_true]
  simp [List.getD, h]
theorem rejF_01 (xs : List Int) (lim : Int) (i : Nat) : rejF xs lim i = 0 ∨ rejF xs lim i = 1 := by unfold rejF; split <;> omega
theorem keepL_ok (xs : List Int) (lim : Int) : keepOk (keepL xs lim) = true := by
  unfold keepOk keepL
  rw [gath_true, List.all_eq_true]
  intro x hx
  obtain ⟨i, _, rfl⟩ := List.mem_map.1 hx
  rcases rejF_01 xs lim i with h | h <;> rw [h] <;> rfl
/-- The depths that are kept, and the spikes down. -/
theorem kept_law {xs : List Int} {lim : Int} (ht : isTrk xs = true) :
    vKeptDepths xs (keepL xs lim) = (gath (pKeep (keepL xs lim)) (fKeep xs) xs.length, true) ∧
    (gath (pKeep (keepL xs lim)) (fKeep xs) xs.length).length + (downOf xs lim (xs.length - 1)).length = xs.length ∧
    rsum (fun i => (keepL xs lim).getD i 0) xs.length = ((gath (pKeep (keepL xs lim)) (fKeep xs) xs.length).length : Int) := by
  have hn := isTrk_all ht
  have hp : ∀ i, i < xs.length → pKeep (keepL xs lim) i = !hasI (downOf xs lim (xs.length - 1)) (i : Int) := by
    intro i hi
    unfold pKeep
    rw [keepL_get hi]
    unfold rejF
    rcases hasI (downOf xs lim (xs.length - 1)) (i : Int) with _ | _ <;> rfl
  refine ⟨?_, ?_, ?_⟩
  · unfold vKeptDepths
    rw [if_pos ⟨ht, keepL_length _ _, keepL_ok _ _⟩, keepL_length]
  · rw [gath_len]
    have h1 := cN_hasI (pDown xs lim) xs.length (by omega)
    have h2 := cN_not (fun i => hasI (downOf xs lim (xs.length - 1)) (i : Int)) (pKeep (keepL xs lim)) xs.length hp
    unfold downOf at h2 ⊢
    omega
  · rw [gath_len]
    have hk : ∀ k, k ≤ xs.length → rsum (fun i => (keepL xs lim).getD i 0) k = (cN (pKeep (keepL xs lim)) k : Int) := by
      intro k
      induction k with
      | zero => intro _; rfl
      | succ k ih =>
        intro hk
        rw [rsum_succ, ih (by omega), cN]
        have hg := keepL_get (lim := lim) (show k < xs.length by omega)
        unfold pKeep
        rcases rejF_01 xs lim k with h | h
        · rw [hg, h]; simp
        · rw [hg, h]; simp
    exact hk _ (Nat.le_refl _)
/-- No spike is up and down. -/
theorem up_down {xs : List Int} {lim : Int} (hl : inR lim 1 5000 = true) : ∀ x ∈ upOf xs lim (xs.length - 1), decide (x ∈ downOf xs lim (xs.length - 1)) = false := by
  intro x hx
  rw [decide_eq_false_iff_not]
  intro hd
  obtain ⟨i, rfl, _, hu⟩ := gath_mem hx
  have h2 := (mem_gath.1 hd).2
  have := inR_true.1 hl
  unfold pUp at hu
  unfold pDown at h2
  simp only [Bool.and_eq_true, decide_eq_true_eq] at hu h2
  omega
/-- A flattened track of fewer than all filters is calm. -/
theorem flat_calm (lim : Int) (f : Nat) : ∀ xs : List Int, isTrk xs = true → (flat lim f xs).2 < f → calm (flat lim f xs).1 lim := by
  induction f with
  | zero => intro xs _ h; exact absurd h (by omega)
  | succ f ih =>
    intro xs ht h
    by_cases hc : calm xs lim
    · have e : flat lim (f + 1) xs = (xs, 0) := by rw [flat, if_pos hc]
      rw [e]; exact hc
    · have e : flat lim (f + 1) xs = ((flat lim f (medL xs)).1, (flat lim f (medL xs)).2 + 1) := by rw [flat, if_neg hc]
      rw [e] at h ⊢
      exact ih _ (medL_trk ht) (by simp only at h; omega)
theorem flat_trk (lim : Int) (f : Nat) : ∀ xs : List Int, isTrk xs = true → isTrk (flat lim f xs).1 = true := by
  induction f with
  | zero => intro xs ht; exact ht
  | succ f ih =>
    intro xs ht
    rw [flat]
    split
    · exact ht
    · exact ih _ (medL_trk ht)
theorem flat_law {xs : List Int} {lim : Int} (ht : isTrk xs = true) (hl : inR lim 1 5000 = true) (h : (flat lim 30 xs).2 < 30) : vSpikesIn (flat lim 30 xs).1 lim = ([], [], true) := by
  have hc := flat_calm lim 30 xs ht h
  unfold calm at hc
  unfold vSpikesIn
  rw [if_pos ⟨flat_trk lim 30 xs ht, hl⟩, List.eq_nil_of_length_eq_zero hc.1, List.eq_nil_of_length_eq_zero hc.2]

set_option maxHeartbeats 1000000 in
theorem vSum_any {A : Option Addr} {c lo hi : Nat} {xs : List Int} {w : World} (hr : RdI w lo hi A xs) (hl : xs.length ≤ 1000) (hb : ∀ i, i < xs.length → 0 ≤ xs.getD i 0 ∧ xs.getD i 0 ≤ 1) :
    Calls Try.prog 15 #[.slice A xs.length c] w fun e w' => e = .returned (.int .i64 (rsum (fun i => xs.getD i 0) xs.length)) ∧ w = w' := by
  have HB := Lib.hid hb
  clear hb
  go_enter Try.func15, Try.ntmps15
  go_wp2_with fail
  go_loop [3, 4] (fun t i => ∃ k : Nat, k ≤ xs.length ∧ i = .int .i64 k ∧ t = .int .i64 (rsum (fun i => xs.getD i 0) k)) (fun _ i => xs.length - (intOf i).toNat)
  case atStart => exact ⟨0, Nat.zero_le _, rfl, rfl⟩
  case round =>
    obtain ⟨k, hk, rfl, rfl⟩ := hrel
    by_cases hlt : k < xs.length
    · obtain ⟨b, off, y, rfl, hy, hcell⟩ := hr.geti hlt
      have q1 : (k : Int) < (xs.length : Int) := by omega
      have hs := rsum_bound (f := fun i => xs.getD i 0) (B := 1) (k := k) (fun i hi => HB.out i (by omega))
      have hyb := HB.out k hlt
      have hst := rsum_succ (fun i => xs.getD i 0) k
      simp only [getD_of hy] at hyb hst
      have HST := Lib.hid hst
      clear hy hst
      generalize rsum (fun i => xs.getD i 0) k = S at hs HST
      go_wp2_with fail
      go_round
      case rel => exact ⟨k + 1, by omega, by go_num, by rw [HST.out]⟩
      case measure => simp [intOf]; omega
    · obtain rfl : k = xs.length := by omega
      go_wp2_with fail
      go_ret
      exact ⟨rfl, rfl⟩

end Go.Proofs.Ytchgcpdmomeofaa
