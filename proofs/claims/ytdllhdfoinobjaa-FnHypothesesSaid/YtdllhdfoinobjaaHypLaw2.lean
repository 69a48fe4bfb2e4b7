/-
  This file proves the plain law of hypotheses: their votes together are all votes, they lie apart, with a greater width there are no more of them, and with the narrowest single width there is one.
  Conditions: none beyond each lemma's own hypotheses. No program is in sight.
-/
import Derived.Test.YtdllhdfoinobjaaHypLaw
import Derived.Test.YtdllhdfoinobjaaHypJ
namespace Go.Proofs.Ytdllhdfoinobjaa
open Go.RowKit
set_option linter.unusedSimpArgs false
set_option linter.unusedVariables false

theorem red_law (a b : Int) : redN a b * b = a * redD a b := by
  unfold redN redD
  obtain ⟨g, hg⟩ : ∃ g : Nat, Nat.gcd a.natAbs b.natAbs = g := ⟨_, rfl⟩
  rw [hg]
  rcases Nat.eq_zero_or_pos g with h0 | h0
  · subst h0
    simp
  have ha : (g : Int) ∣ a := Int.ofNat_dvd_left.2 (hg ▸ Nat.gcd_dvd_left _ _)
  have hb : (g : Int) ∣ b := Int.ofNat_dvd_left.2 (hg ▸ Nat.gcd_dvd_right _ _)
  obtain ⟨a', rfl⟩ := ha
  obtain ⟨b', rfl⟩ := hb
  have hne : (g : Int) ≠ 0 := by omega
  rw [Int.mul_tdiv_cancel_left _ hne, Int.mul_tdiv_cancel_left _ hne, ← Int.mul_assoc, Int.mul_comm a' g]
theorem sumV_take {F : List GHypothesis} {k : Nat} {p : GHypothesis} (hp : F[k]? = some p) : sumV (F.take (k + 1)) = sumV (F.take k) + p.vt := by
  rw [List.take_add_one, hp]
  exact sumV_app _ _
theorem wid_nonneg (ys : List Int) : ∀ k, 0 ≤ wid ys k
  | 0 => Int.le_refl _
  | k + 1 => by
    rw [wid]
    have := wid_nonneg ys k
    unfold mostI
    split <;> omega
theorem sumV_bound {F : List GHypothesis} (h : ∀ p ∈ F, hB 20 p) : ∀ k, 0 ≤ sumV (F.take k) ∧ sumV (F.take k) ≤ 20 * k
  | 0 => by simp [sumV]
  | k + 1 => by
    have ih := sumV_bound h k
    rcases hp : F[k]? with _ | p
    · have hl : F.length ≤ k := List.getElem?_eq_none_iff.1 hp
      rw [List.take_of_length_le (by omega)] at ih ⊢
      push_cast
      omega
    · rw [sumV_take hp]
      have := h p (List.mem_of_getElem? hp)
      unfold hB at this
      push_cast
      omega

theorem hypotheses_law {xs : List Int} {wd : Int} {F : List GHypothesis} {ok : Bool} (h : vHypothesesOf xs wd = (F, ok)) : F.length ≤ 20 ∧ ∃ G, vSplitsAt xs wd = (G, ok) ∧ G.length ≤ 20 ∧
    (ok = true → G.length = F.length - 1 ∧ 1 ≤ F.length ∧ 1 ≤ xs.length ∧ xs.length ≤ 20 ∧ 0 ≤ wd ∧ wd ≤ 1000 ∧ sumV F = xs.length ∧ (∀ p ∈ F, hB 20 p) ∧ (∀ (k : Nat) (p q : GHypothesis), F[k + 1]? = some q → F[k]? = some p → ¬ q.lw - p.hg ≤ wd) ∧
      ∃ (q : GHypothesis) (num den : Int), vStrongestOf xs wd = (q, true) ∧ vAmbiguityOf xs wd = (num, den, true) ∧ num * xs.length = (xs.length - q.vt) * den ∧ -20 ≤ q.vt ∧ q.vt ≤ 20 ∧ -100 ≤ num ∧ num ≤ 100 ∧ -100 ≤ den ∧ den ≤ 100 ∧
        (wd < 1000 → ∃ F', vHypothesesOf xs (wd + 1) = (F', true) ∧ F'.length ≤ F.length)) := by
  unfold vHypothesesOf at h
  by_cases hc : canV xs wd = true
  rotate_left
  · rw [if_neg hc] at h
    injection h with h1 h2
    subst h1 h2
    exact ⟨by simp, [], by unfold vSplitsAt; rw [if_neg hc], by simp, fun h => by cases h⟩
  rw [if_pos hc] at h
  injection h with h1 h2
  subst h2
  obtain ⟨f1, f2, f3, f4⟩ := hypV_facts hc
  obtain ⟨hv, w0, w1⟩ := canV_yes hc
  obtain ⟨_, n1, n20⟩ := isVts_all hv
  have hvt := best_vt hc
  have hsum := sumV_hypV xs wd
  have hred := red_law ((xs.length : Int) - (bestH (hypV xs wd)).vt) xs.length
  have hnb := tdiv_le ((xs.length : Int) - (bestH (hypV xs wd)).vt) (Nat.gcd ((xs.length : Int) - (bestH (hypV xs wd)).vt).natAbs (xs.length : Int).natAbs)
  have hdb := tdiv_le (xs.length : Int) (Nat.gcd ((xs.length : Int) - (bestH (hypV xs wd)).vt).natAbs (xs.length : Int).natAbs)
  have hw := fun (hlt : wd < 1000) => hypV_wider xs (wd := wd) (wd' := wd + 1) (by omega)
  refine ⟨by rw [← h1]; exact f1, spl (hypV xs wd) ((hypV xs wd).length - 1), by unfold vSplitsAt; rw [if_pos hc], by rw [spl_len]; omega, fun _ => ?_⟩
  subst h1
  refine ⟨spl_len _ _, f4, n1, n20, w0, w1, hsum, f2, fun k p q hq hp => ?_, bestH (hypV xs wd), _, _, by unfold vStrongestOf; rw [if_pos hc], by unfold vAmbiguityOf; rw [if_pos hc], hred, by omega, by omega, ?_, ?_, ?_, ?_, fun hlt => ⟨hypV xs (wd + 1), ?_, hw hlt⟩⟩
  · unfold hApart at f3
    obtain ⟨k1, e1⟩ := List.getElem?_eq_some_iff.1 hp
    obtain ⟨k2, e2⟩ := List.getElem?_eq_some_iff.1 hq
    have := List.pairwise_iff_getElem.1 f3 k (k + 1) k1 k2 (by omega)
    rw [e1, e2] at this
    omega
  · unfold redN; omega
  · unfold redN; omega
  · unfold redD; omega
  · unfold redD; omega
  · unfold vHypothesesOf
    rw [if_pos]
    unfold canV
    rw [Bool.and_eq_true, inR_true]
    exact ⟨hv, by omega, by omega⟩
theorem single_law {xs : List Int} {n : Int} (h : vNarrowestSingle xs = (n, true)) (hn : n ≤ 1000) : ∃ p, vHypothesesOf xs n = ([p], true) := by
  unfold vNarrowestSingle at h
  split at h
  · rename_i hv
    injection h with h1 h2
    obtain ⟨_, n1, n20⟩ := isVts_all hv
    have e := sortI_length xs
    have hc : canV xs n = true := by
      unfold canV
      rw [Bool.and_eq_true, inR_true]
      exact ⟨hv, by rw [← h1]; exact wid_nonneg _ _, hn⟩
    have hs := hyps_single (ys := sortI xs) (wd := n) (fun k x y hx hy => by
      have := wid_single k x y hx hy
      rw [e, h1] at this
      exact this) ((sortI xs).length - 1) (by omega)
    obtain ⟨p, hp, _⟩ := hs
    rw [show (sortI xs).length - 1 + 1 = (sortI xs).length by omega, List.take_of_length_le (Nat.le_refl _)] at hp
    refine ⟨p, ?_⟩
    unfold vHypothesesOf
    rw [if_pos hc]
    unfold hypV
    rw [hp]
  · injection h with h1 h2; cases h2

end Go.Proofs.Ytdllhdfoinobjaa
