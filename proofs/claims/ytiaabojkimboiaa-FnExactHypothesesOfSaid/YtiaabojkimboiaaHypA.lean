/-
  This file proves plain facts on hypotheses: what the sorted votes make of them, one vote after the other.
  Conditions: none.
-/
import Derived.Test.YtiaabojkimboiaaHypothesisS
import Derived.Test.YtiaabojkimboiaaVotesC
namespace Go.Proofs.Ytiaabojkimboiaa
open Go.RowKit
set_option linter.unusedSimpArgs false
set_option linter.unusedVariables false

/-- One more vote, in ascending order. -/
def hstep (wd : Int) (F : List GHypothesis) (x : Int) : List GHypothesis :=
  match F.getLast? with
  | none => [⟨x, x, 1⟩]
  | some h => if x - h.hg ≤ wd then F.dropLast ++ [⟨h.lw, x, h.vt + 1⟩] else F ++ [⟨x, x, 1⟩]
def hyps (ys : List Int) (wd : Int) : List GHypothesis := ys.foldl (hstep wd) []
theorem hyps_snoc {ys : List Int} {k : Nat} {x : Int} (wd : Int) (h : ys[k]? = some x) : hyps (ys.take (k + 1)) wd = hstep wd (hyps (ys.take k) wd) x := by
  rw [take_snoc h, hyps, List.foldl_append]
  rfl
theorem hstep_nil (wd x : Int) : hstep wd [] x = [⟨x, x, 1⟩] := rfl
theorem hstep_join {wd x : Int} {F : List GHypothesis} {h : GHypothesis} (hx : x - h.hg ≤ wd) : hstep wd (F ++ [h]) x = F ++ [⟨h.lw, x, h.vt + 1⟩] := by
  unfold hstep
  rw [List.getLast?_concat]
  simp [hx]
theorem hstep_new {wd x : Int} {F : List GHypothesis} {h : GHypothesis} (hx : ¬ x - h.hg ≤ wd) : hstep wd (F ++ [h]) x = (F ++ [h]) ++ [⟨x, x, 1⟩] := by
  unfold hstep
  rw [List.getLast?_concat]
  simp [hx]
/-- The numbers of a hypothesis of k votes at most lie in range. -/
def hB (k : Nat) (h : GHypothesis) : Prop := -1000 ≤ h.lw ∧ h.lw ≤ h.hg ∧ h.hg ≤ 20000 ∧ 1 ≤ h.vt ∧ h.vt ≤ k
theorem hB_more {k n : Nat} {h : GHypothesis} (hb : hB k h) (hk : k ≤ n) : hB n h := by unfold hB at hb ⊢; omega
/-- Hypotheses lie apart by more than the width, in ascending order. -/
def hApart (wd : Int) (F : List GHypothesis) : Prop := F.Pairwise fun a b => a.hg + wd < b.lw
theorem hApart_join {wd : Int} {F : List GHypothesis} {h : GHypothesis} {x v : Int} (hp : hApart wd (F ++ [h])) : hApart wd (F ++ [⟨h.lw, x, v⟩]) := by
  unfold hApart at hp ⊢
  rw [List.pairwise_append] at hp ⊢
  exact ⟨hp.1, by simp, fun a ha b hb => by simp at hb; subst hb; exact hp.2.2 a ha h (by simp)⟩
theorem hyps_inv {ys : List Int} {wd : Int} (hall : allDepth ys = true) (hs : ys.Pairwise (· ≤ ·)) (hw : 0 ≤ wd) : ∀ k, k ≤ ys.length →
    ((k = 0 ∧ hyps (ys.take k) wd = []) ∨ (0 < k ∧ ∃ F h, hyps (ys.take k) wd = F ++ [h] ∧ ys[k - 1]? = some h.hg)) ∧ (hyps (ys.take k) wd).length ≤ k ∧ (∀ h ∈ hyps (ys.take k) wd, hB k h) ∧ hApart wd (hyps (ys.take k) wd) := by
  intro k
  induction k with
  | zero => intro _; exact ⟨.inl ⟨rfl, rfl⟩, Nat.zero_le _, fun h hh => by simp [hyps] at hh, by simp [hyps, hApart]⟩
  | succ k ih =>
    intro hk
    obtain ⟨h1, h2, h3, h4⟩ := ih (by omega)
    obtain ⟨x, hx⟩ : ∃ x, ys[k]? = some x := ⟨_, List.getElem?_eq_getElem (by omega)⟩
    have hxb := allDepth_get hall hx
    rw [hyps_snoc wd hx]
    rcases h1 with ⟨rfl, h1⟩ | ⟨hpos, F, h, h1, hl⟩
    · rw [h1, hstep_nil]
      refine ⟨.inr ⟨by omega, [], ⟨x, x, 1⟩, rfl, hx⟩, by simp, fun h hh => ?_, by simp [hApart]⟩
      simp at hh
      subst hh
      simp only [hB]
      omega
    · rw [h1] at h2 h3 h4 ⊢
      have hb := h3 h (by simp)
      have hle : h.hg ≤ x := by
        obtain ⟨k1, e1⟩ := List.getElem?_eq_some_iff.1 hl
        obtain ⟨k2, e2⟩ := List.getElem?_eq_some_iff.1 hx
        have := List.pairwise_iff_getElem.1 hs (k - 1) k k1 k2 (by omega)
        rw [e1, e2] at this
        exact this
      by_cases hc : x - h.hg ≤ wd
      · rw [hstep_join hc]
        refine ⟨.inr ⟨by omega, F, _, rfl, hx⟩, by simp at h2 ⊢; omega, fun a ha => ?_, hApart_join h4⟩
        rcases List.mem_append.1 ha with ha | ha
        · exact hB_more (h3 a (List.mem_append_left _ ha)) (by omega)
        · simp at ha
          subst ha
          unfold hB at hb
          simp only [hB]
          push_cast
          omega
      · rw [hstep_new hc]
        refine ⟨.inr ⟨by omega, F ++ [h], _, rfl, hx⟩, by simp at h2 ⊢; omega, fun a ha => ?_, ?_⟩
        · rcases List.mem_append.1 ha with ha | ha
          · exact hB_more (h3 a ha) (by omega)
          · simp at ha
            subst ha
            exact ⟨hxb.1, Int.le_refl x, hxb.2, Int.le_refl 1, by show (1 : Int) ≤ ((k + 1 : Nat) : Int); omega⟩
        · unfold hApart at h4 ⊢
          rw [List.pairwise_append]
          refine ⟨h4, by simp, fun a ha b hb' => ?_⟩
          simp at hb'
          subst hb'
          simp only
          rcases List.mem_append.1 ha with ha | ha
          · rw [List.pairwise_append] at h4
            have := h4.2.2 a ha h (by simp)
            unfold hB at hb
            omega
          · simp at ha
            subst ha
            omega

/-- The hypotheses of votes. -/
def hypV (xs : List Int) (wd : Int) : List GHypothesis := hyps (sortI xs) wd
def canV (xs : List Int) (wd : Int) : Bool := isVts xs && inR wd 0 1000
theorem canV_yes {xs : List Int} {wd : Int} (h : canV xs wd = true) : isVts xs = true ∧ 0 ≤ wd ∧ wd ≤ 1000 := by
  unfold canV at h
  rw [Bool.and_eq_true, inR_true] at h
  exact h
theorem hyps_all {xs : List Int} {wd : Int} (h : canV xs wd = true) : ∀ k, k ≤ (sortI xs).length →
    ((k = 0 ∧ hyps ((sortI xs).take k) wd = []) ∨ (0 < k ∧ ∃ F h, hyps ((sortI xs).take k) wd = F ++ [h] ∧ (sortI xs)[k - 1]? = some h.hg)) ∧ (hyps ((sortI xs).take k) wd).length ≤ k ∧ (∀ h ∈ hyps ((sortI xs).take k) wd, hB k h) ∧ hApart wd (hyps ((sortI xs).take k) wd) :=
  hyps_inv (sortI_depth (isVts_all (canV_yes h).1).1) (sortI_sorted xs) (canV_yes h).2.1
theorem hypV_take {xs : List Int} {wd : Int} {k : Nat} (hk : ¬ k < (sortI xs).length) : hyps ((sortI xs).take k) wd = hypV xs wd := by rw [take_all hk]; rfl
theorem hypV_facts {xs : List Int} {wd : Int} (h : canV xs wd = true) : (hypV xs wd).length ≤ 20 ∧ (∀ h ∈ hypV xs wd, hB 20 h) ∧ hApart wd (hypV xs wd) ∧ 0 < (hypV xs wd).length := by
  have hl := (isVts_all (canV_yes h).1).2
  have e := sortI_length xs
  obtain ⟨h1, h2, h3, h4⟩ := hyps_all h (sortI xs).length (Nat.le_refl _)
  rw [hypV_take (by omega)] at h1 h2 h3 h4
  refine ⟨by omega, fun a ha => hB_more (h3 a ha) (by omega), h4, ?_⟩
  rcases h1 with ⟨h0, _⟩ | ⟨_, F, a, e2, _⟩
  · omega
  · rw [e2]; simp

end Go.Proofs.Ytiaabojkimboiaa
