/-
  This file proves the plain laws on passes that the laws FnPasses and FnPassPairs ask.
  Conditions: each theorem's own hypotheses.
-/
import Derived.Test.YtaehfcdcdjlanaaSailB
import Derived.Test.YtaehfcdcdjlanaaTabB
import Derived.Test.YtaehfcdcdjlanaaPutP
namespace Go.Proofs.Ytaehfcdcdjlanaa
open Go.RowKit
set_option linter.unusedSimpArgs false
set_option linter.unusedVariables false

theorem red_facts (s n : Int) (hn : 0 < n) : redN s n * n = s * redD s n ∧ 0 < redD s n ∧ redD s n ≤ n ∧ (redN s n).natAbs ≤ s.natAbs := by
  unfold redN redD
  obtain ⟨g, hg⟩ : ∃ g, g = Nat.gcd s.natAbs n.natAbs := ⟨_, rfl⟩
  rw [← hg]
  have hgp : 0 < g := by rw [hg]; exact Nat.gcd_pos_of_pos_right _ (by omega)
  have h1 : (g : Int) ∣ s := by rw [hg]; exact Int.ofNat_dvd_left.2 (Nat.gcd_dvd_left _ _)
  have h2 : (g : Int) ∣ n := by rw [hg]; exact Int.ofNat_dvd_left.2 (Nat.gcd_dvd_right _ _)
  obtain ⟨s', rfl⟩ := h1
  obtain ⟨n', rfl⟩ := h2
  have hne : (g : Int) ≠ 0 := by omega
  have hnp : 0 < n' := Int.pos_of_mul_pos_right hn (by omega) |> fun h => h
  rw [Int.mul_tdiv_cancel_left _ hne, Int.mul_tdiv_cancel_left _ hne]
  refine ⟨by rw [← Int.mul_assoc, Int.mul_comm s' g], hnp, ?_, ?_⟩
  · have : 1 * n' ≤ (g : Int) * n' := Int.mul_le_mul_of_nonneg_right (by omega) (by omega)
    omega
  · rw [Int.natAbs_mul]
    exact Nat.le_mul_of_pos_left _ (by omega)
/-- A share of at most one, in lowest terms. -/
theorem red_share {s n : Int} (hn : 0 < n) (h0 : 0 ≤ s) (h1 : s ≤ n) : 0 ≤ redN s n ∧ redN s n ≤ redD s n := by
  obtain ⟨e, d0, d1, _⟩ := red_facts s n hn
  constructor
  · have h2 : 0 ≤ redN s n * n := by rw [e]; exact Int.mul_nonneg h0 (by omega)
    rcases Int.lt_or_le (redN s n) 0 with hneg | hpos
    · have := Int.mul_neg_of_neg_of_pos hneg hn
      omega
    · exact hpos
  · have h2 : redN s n * n ≤ redD s n * n := by
      rw [e, Int.mul_comm (redD s n) n]
      exact Int.mul_le_mul_of_nonneg_right h1 (by omega)
    exact Int.le_of_mul_le_mul_right h2 hn
theorem isPL_next {ps : List GPass} {k : Nat} {p q : GPass} (h : isPL ps = true) (hp : ps[k + 1]? = some p) (hq : ps[k]? = some q) : q.en ≤ p.bg := by
  unfold isPL at h
  rw [Bool.and_eq_true, List.all_eq_true] at h
  have h2 := h.1 (k + 1) (List.mem_range.2 (List.getElem?_eq_some_iff.1 hp).1)
  unfold pOk at h2
  rw [Nat.add_sub_cancel, hp, hq] at h2
  simp at h2
  exact h2.2
theorem gP_get {ps : List GPass} {k : Nat} (h : k < ps.length) : ps[k]? = some (gP ps k) := by
  have := List.getElem?_eq_getElem h
  rw [gP_of this]
  exact this
theorem gP_ok {ps : List GPass} {k : Nat} (h : isPL ps = true) (hk : k < ps.length) : isPs (gP ps k) = true := (isPL_get h (gP_get hk)).1

/-! ### FnPassPairs -/

theorem opposite_law {ps : List GPass} {line : Int} {L : List (Int × Int)} {ok : Bool} (h : vOppositeOn ps line = (L, ok)) :
    L.length ≤ 144 ∧ ∀ x ∈ L, ∃ (j k : Nat) (p q : GPass), ps[j]? = some p ∧ ps[k]? = some q ∧ p.ln = line ∧ q.ln = line ∧ x = ((j : Int), (k : Int)) := by
  have hl := vOppositeOn_len0 ps line
  rw [h] at hl
  refine ⟨hl, fun x hx => ?_⟩
  unfold vOppositeOn at h
  split at h
  · injection h with h1 h2
    subst h1
    obtain ⟨j, k, hj, hk, ho, e⟩ := tabT_mem ps.length (Nat.le_refl _) hx
    unfold oppT at ho
    rw [Bool.and_eq_true, Bool.and_eq_true] at ho
    exact ⟨j, k, gP ps j, gP ps k, gP_get hj, gP_get hk, by simpa using ho.1, by simpa using ho.2.1, e⟩
  · injection h with h1 h2
    subst h1
    cases hx
theorem brk_best (ps : List GPass) : ∀ k i, 1 ≤ i → i ≤ k → (gP ps i).bg - (gP ps (i - 1)).en ≤ (gP ps (brk ps k)).bg - (gP ps (brk ps k - 1)).en
  | 0, i, h1, h2 => by omega
  | k + 1, i, h1, h2 => by
    rcases Nat.lt_or_ge k i with h | h
    · obtain rfl : i = k + 1 := by omega
      rw [brk]
      split
      · exact Int.le_refl _
      · rename_i hn
        rcases Nat.eq_zero_or_pos k with h0 | h0
        · subst h0
          exact Int.le_refl _
        · rw [Nat.add_sub_cancel]
          have : ¬ (gP ps (brk ps k)).bg - (gP ps (brk ps k - 1)).en < (gP ps (k + 1)).bg - (gP ps k).en := fun hx => hn ⟨h0, hx⟩
          omega
    · have ih := brk_best ps k i h1 h
      rw [brk]
      split
      · rename_i hy
        rw [Nat.add_sub_cancel]
        omega
      · exact ih
theorem break_law {ps : List GPass} {a b : Int} (h : vLongestBreak ps = (a, b, true)) :
    (0 ≤ a ∧ a ≤ 10000) ∧ (0 ≤ b ∧ b ≤ 10000) ∧ (∀ (k : Nat) (p : GPass), ps[k]? = some p → isPs p = true) ∧ ∀ (i : Nat) (p q : GPass), ps[i + 1]? = some p → ps[i]? = some q → ¬ b - a < p.bg - q.en := by
  unfold vLongestBreak at h
  split at h
  · rename_i hc
    injection h with h1 h2
    injection h2 with h2 _
    have hb := brk_le ps (ps.length - 1)
    have b1 := isPs_bound (gP_ok hc.1 (show brk ps (ps.length - 1) - 1 < ps.length by omega))
    have b2 := isPs_bound (gP_ok hc.1 (show brk ps (ps.length - 1) < ps.length by omega))
    refine ⟨by omega, by omega, fun k p hp => (isPL_get hc.1 hp).1, fun i p q hp hq => ?_⟩
    have hi := (List.getElem?_eq_some_iff.1 hp).1
    have := brk_best ps (ps.length - 1) (i + 1) (by omega) (by omega)
    rw [gP_of hp, Nat.add_sub_cancel, gP_of hq] at this
    omega
  · injection h with h1 h2
    injection h2 with h2 h3
    cases h3
def mS (line : Int) (ps : List GPass) : Int := (ps.map fun p => if p.ln = line then p.en - p.bg else 0).sum
theorem rsum_mS (ps : List GPass) (line : Int) : ∀ k, k ≤ ps.length → rsum (fMin ps line) k = mS line (ps.take k)
  | 0, _ => rfl
  | k + 1, hk => by
    rw [rsum_succ, rsum_mS ps line k (by omega), List.take_add_one, gP_get (by omega)]
    unfold mS fMin
    simp
theorem mS_all (ps : List GPass) (line : Int) : rsum (fMin ps line) ps.length = mS line ps := by
  rw [rsum_mS ps line ps.length (Nat.le_refl _), List.take_of_length_le (Nat.le_refl _)]
theorem mS_app (l : Int) (a b : List GPass) : mS l (a ++ b) = mS l a + mS l b := by simp [mS]
theorem mS_put (ps : List GPass) (j : Nat) (q : GPass) : mS q.ln (putP ps j q) = mS q.ln ps + (q.en - q.bg) := by
  have h : mS q.ln ps = mS q.ln (ps.take j) + mS q.ln (ps.drop j) := by rw [← mS_app, List.take_append_drop]
  have h1 : mS q.ln [q] = q.en - q.bg := by simp [mS]
  rw [putP, mS_app, mS_app, h, h1]
  omega
theorem put_law {ps more : List GPass} {q : GPass} (h : vPutPass ps q = (more, true)) :
    ∃ X Y : Int, vMinutesOn ps q.ln = (X, true) ∧ vMinutesOn more q.ln = (Y, true) ∧ (0 ≤ X ∧ X ≤ 120000) ∧ (0 ≤ Y ∧ Y ≤ 120000) ∧ Y - X = q.en - q.bg ∧ isPs q = true := by
  unfold vPutPass at h
  split at h
  · rename_i hc
    injection h with h1 _
    subst h1
    have hq : isPs q = true := by
      rcases hx : isPs q with _ | _
      · have := putP_bad (ps := ps) (j := posP q.bg ps) hx
        rw [hc.2] at this
        cases this
      · rfl
    have hb := isPs_bound hq
    have hr : inR q.ln 1 999 = true := inR_true.2 (by omega)
    have e1 := mS_all ps q.ln
    have e2 := mS_all (putP ps (posP q.bg ps) q) q.ln
    have e3 := mS_put ps (posP q.bg ps) q
    refine ⟨_, _, by unfold vMinutesOn; rw [if_pos ⟨hc.1, hr⟩], by unfold vMinutesOn; rw [if_pos ⟨hc.2, hr⟩], fMin_bound hc.1 _ (Nat.le_refl _), fMin_bound hc.2 _ (Nat.le_refl _), by omega, hq⟩
  · injection h with _ h2
    cases h2

/-! ### FnPasses -/

theorem mem_gathG {p : Nat → Bool} {f : Nat → Int} {k : Nat} {x : Int} : x ∈ gath p f k ↔ ∃ i, i < k ∧ p i = true ∧ f i = x := by
  unfold gath
  rw [List.mem_map]
  constructor
  · rintro ⟨i, hi, e⟩
    rw [List.mem_filter, List.mem_range] at hi
    exact ⟨i, hi.1, hi.2, e⟩
  · rintro ⟨i, h1, h2, e⟩
    exact ⟨i, List.mem_filter.2 ⟨List.mem_range.2 h1, h2⟩, e⟩
theorem rsum_zero {f : Nat → Int} : ∀ k, (∀ i, i < k → f i = 0) → rsum f k = 0
  | 0, _ => rfl
  | k + 1, h => by rw [rsum_succ, rsum_zero k (fun i hi => h i (by omega)), h k (by omega)]; rfl
theorem sailed_pass {ps : List GPass} {x : Int} (h : sailed ps x = true) : ∃ i, i < ps.length ∧ (gP ps i).ln = x := by
  apply Classical.byContradiction
  intro hn
  have h0 : sumA ps x = 0 := rsum_zero _ fun i hi => by
    unfold fA
    rw [if_neg]
    exact fun e => hn ⟨i, hi, e⟩
  unfold sailed at h
  rw [h0] at h
  simp at h
theorem mem_sailed {ps : List GPass} {S : List Int} (h : vSailedLines ps = (S, true)) (x : Int) : x ∈ S ↔ sailed ps x = true := by
  unfold vSailedLines at h
  split at h
  · injection h with h1 _
    rw [← h1, mem_comp, (sortI_perm _).mem_iff, outS, mem_gathG]
    constructor
    · rintro ⟨i, hi, h1, h2⟩
      unfold pS at h1
      unfold fS at h2
      rw [← h2]
      exact h1
    · intro hs
      obtain ⟨i, hi, e⟩ := sailed_pass hs
      exact ⟨i, hi, by unfold pS; rw [e]; exact hs, e⟩
  · injection h with _ h2
    cases h2
theorem sailed_flag {ps : List GPass} {S : List Int} {fine : Bool} (h : vSailedLines ps = (S, fine)) : fine = isPL ps ∧ S.length ≤ 12 ∧ (fine = false → S = []) := by
  have hl := vSailedLines_len0 ps
  rw [h] at hl
  unfold vSailedLines at h
  split at h
  · rename_i hc
    injection h with h1 h2
    exact ⟨by rw [← h2, hc], hl, fun h => by rw [h] at h2; cases h2⟩
  · rename_i hc
    injection h with h1 h2
    exact ⟨by rw [← h2]; simp at hc; rw [hc], hl, fun _ => h1.symm⟩
theorem repeat_law {ps : List GPass} {xs R S : List Int} {fine : Bool} (h : vLinesToRepeat ps xs = (R, true)) (hs : vSailedLines ps = (S, fine)) : ∀ x ∈ xs, decide (x ∈ R) = !decide (x ∈ S) := by
  intro x hx
  unfold vLinesToRepeat at h
  split at h
  · rename_i hc
    injection h with h1 _
    have hf := sailed_flag hs
    rw [hc.1] at hf
    obtain ⟨rfl, _⟩ := hf
    have hm := mem_sailed hs x
    have hr : x ∈ R ↔ sailed ps x = false := by
      rw [← h1, mem_gathG]
      constructor
      · rintro ⟨i, hi, h2, h3⟩
        unfold pRep at h2
        unfold fRep at h3
        rw [h3] at h2
        simpa using h2
      · intro h2
        obtain ⟨i, hi, e⟩ := List.getElem_of_mem hx
        have e2 : xs.getD i 0 = x := by simp [List.getD, List.getElem?_eq_getElem hi, e]
        exact ⟨i, hi, by unfold pRep; rw [e2, h2]; rfl, e2⟩
    rcases hh : sailed ps x with _ | _
    · rw [hh] at hm hr
      simp [hm, hr]
    · rw [hh] at hm hr
      simp [hm, hr]
  · injection h with _ h2
    cases h2
theorem share_law {ps : List GPass} {S : List Int} {fine : Bool} (hs : vSailedLines ps = (S, fine)) : ∀ x ∈ S, ∃ num den : Int, vGoodShare ps x = (num, den, true) ∧ ¬ 10 * num < 9 * den ∧ (-1200000 ≤ num ∧ num ≤ 1200000) ∧ (0 ≤ den ∧ den ≤ 1200000) := by
  intro x hx
  obtain ⟨hf, _, he⟩ := sailed_flag hs
  rcases fine with _ | _
  · rw [he rfl] at hx
    cases hx
  have hsx := (mem_sailed hs x).1 hx
  obtain ⟨i, hi, e⟩ := sailed_pass hsx
  have hb := isPs_bound (gP_ok hf.symm hi)
  rw [e] at hb
  have hr : inR x 1 999 = true := inR_true.2 (by omega)
  unfold sailed at hsx
  rw [Bool.and_eq_true, decide_eq_true_iff, decide_eq_true_iff] at hsx
  have hsb := sum_bound (line := x) hf.symm
  obtain ⟨r1, r2, r3, r4⟩ := red_facts (sumG ps x) (sumA ps x) hsx.1
  refine ⟨_, _, by unfold vGoodShare; rw [if_pos ⟨hf.symm, hr, by omega⟩], ?_, by omega, by omega⟩
  intro hlt
  have h1 : 10 * redN (sumG ps x) (sumA ps x) * sumA ps x < 9 * redD (sumG ps x) (sumA ps x) * sumA ps x := Int.mul_lt_mul_of_pos_right hlt hsx.1
  have h2 : 9 * sumA ps x * redD (sumG ps x) (sumA ps x) ≤ 10 * sumG ps x * redD (sumG ps x) (sumA ps x) := Int.mul_le_mul_of_nonneg_right hsx.2 (by omega)
  have h3 : 10 * redN (sumG ps x) (sumA ps x) * sumA ps x = 10 * sumG ps x * redD (sumG ps x) (sumA ps x) := by rw [Int.mul_assoc, r1, Int.mul_assoc]
  have h4 : 9 * redD (sumG ps x) (sumA ps x) * sumA ps x = 9 * sumA ps x * redD (sumG ps x) (sumA ps x) := by rw [Int.mul_assoc, Int.mul_comm (redD _ _), ← Int.mul_assoc]
  omega
theorem busy_prefix {ps : List GPass} {a b : Int} (h : isPL ps = true) (hab : a < b) : ∀ k, k < ps.length → rsum (fB ps a b) (k + 1) ≤ max 0 (min (gP ps k).en b - a)
  | 0, hk => by
    have hb := isPs_bound (gP_ok h hk)
    rw [rsum_succ]
    simp only [rsum, fB]
    omega
  | k + 1, hk => by
    have ih := busy_prefix h hab k (by omega)
    have hb := isPs_bound (gP_ok h hk)
    have hn := isPL_next h (gP_get hk) (gP_get (show k < ps.length by omega))
    rw [rsum_succ]
    generalize rsum (fB ps a b) (k + 1) = s at ih ⊢
    simp only [fB]
    omega
theorem busy_sum {ps : List GPass} {a b : Int} (h : isPL ps = true) (hab : a < b) : rsum (fB ps a b) ps.length ≤ b - a := by
  rcases hl : ps.length with _ | n
  · simp only [rsum]; omega
  · have := busy_prefix h hab n (by omega)
    omega
def fL (ps : List GPass) (i : Nat) : Int := (gP ps i).en - (gP ps i).bg
theorem rsum_congr {f g : Nat → Int} : ∀ k, (∀ i, i < k → f i = g i) → rsum f k = rsum g k
  | 0, _ => rfl
  | k + 1, h => by rw [rsum_succ, rsum_succ, rsum_congr k (fun i hi => h i (by omega)), h k (by omega)]
theorem busy_law {ps : List GPass} {a b num den : Int} (h : vBusyShare ps a b = (num, den, true)) :
    0 ≤ num ∧ num ≤ den ∧ isPL ps = true ∧ (∀ k, k ≤ ps.length → 0 ≤ rsum (fL ps) k ∧ rsum (fL ps) k ≤ 120000) ∧
    ∃ al un : Int, vBusyShare ps 0 10000 = (al, un, true) ∧ al * 10000 = rsum (fL ps) ps.length * un ∧ (0 ≤ al ∧ al ≤ 10000) ∧ (0 ≤ un ∧ un ≤ 10000) := by
  unfold vBusyShare at h
  split at h
  · rename_i hc
    injection h with h1 h2
    injection h2 with h2 _
    obtain ⟨hp, ha, hb, hab⟩ := hc
    have hs := red_share (s := rsum (fB ps a b) ps.length) (n := b - a) (by omega) (fB_bound hp _ (Nat.le_refl _)).1 (busy_sum hp hab)
    have hs2 := red_share (s := rsum (fB ps 0 10000) ps.length) (n := 10000 - 0) (by omega) (fB_bound hp _ (Nat.le_refl _)).1 (busy_sum hp (by omega))
    obtain ⟨r1, r2, r3, r4⟩ := red_facts (rsum (fB ps 0 10000) ps.length) (10000 - 0) (by omega)
    have he : rsum (fB ps 0 10000) ps.length = rsum (fL ps) ps.length := rsum_congr _ fun i hi => by
      have hx := isPs_bound (gP_ok hp hi)
      unfold fB fL
      omega
    have hl12 := isPL_len hp
    refine ⟨by omega, by omega, hp, fun k hk => ?_, _, _, by unfold vBusyShare; rw [if_pos ⟨hp, by decide, by decide, by decide⟩], ?_, by omega, by omega⟩
    · have := rsum_bound (f := fL ps) (B := 10000) (k := k) (fun i hi => by
        have hx := isPs_bound (gP_ok hp (show i < ps.length by omega))
        unfold fL
        omega)
      omega
    · rw [← he]
      simpa using r1
  · injection h with h1 h2
    injection h2 with h2 h3
    cases h3

end Go.Proofs.Ytaehfcdcdjlanaa
