/-
  This file proves plain facts on hypotheses: their votes together are all votes.
  Conditions: none.
-/
import Derived.Test.YtdllhdfoinobjaaHypE
import Derived.Test.YtdllhdfoinobjaaVotesC
namespace Go.Proofs.Ytdllhdfoinobjaa
open Go.RowKit
set_option linter.unusedSimpArgs false
set_option linter.unusedVariables false

def sumV (F : List GHypothesis) : Int := (F.map fun h => h.vt).sum
theorem sumV_app (F : List GHypothesis) (h : GHypothesis) : sumV (F ++ [h]) = sumV F + h.vt := by simp [sumV]
theorem sumV_step (wd x : Int) (F : List GHypothesis) : sumV (hstep wd F x) = sumV F + 1 := by
  rcases List.eq_nil_or_concat F with rfl | ⟨G, h, rfl⟩
  · rw [hstep_nil]; simp [sumV]
  · by_cases hx : x - h.hg ≤ wd
    · rw [List.concat_eq_append, hstep_join hx, sumV_app, sumV_app]
      simp only
      omega
    · rw [List.concat_eq_append, hstep_new hx, sumV_app]
theorem sumV_fold (wd : Int) : ∀ (ys : List Int) (F : List GHypothesis), sumV (ys.foldl (hstep wd) F) = sumV F + ys.length
  | [], F => by simp
  | y :: ys, F => by
    rw [List.foldl_cons, sumV_fold wd ys, sumV_step, List.length_cons]
    omega
theorem sumV_hypV (xs : List Int) (wd : Int) : sumV (hypV xs wd) = xs.length := by
  unfold hypV hyps
  rw [sumV_fold, sortI_length]
  simp [sumV]

/-- With a greater width there are no more hypotheses. -/
def Wider (F F' : List GHypothesis) : Prop := (F = [] ∧ F' = []) ∨ ∃ G G' h h', F = G ++ [h] ∧ F' = G' ++ [h'] ∧ h.hg = h'.hg ∧ G'.length ≤ G.length
theorem wider_step {wd wd' x : Int} {F F' : List GHypothesis} (hw : wd ≤ wd') (h : Wider F F') : Wider (hstep wd F x) (hstep wd' F' x) := by
  rcases h with ⟨rfl, rfl⟩ | ⟨G, G', h, h', rfl, rfl, hh, hl⟩
  · rw [hstep_nil, hstep_nil]
    exact .inr ⟨[], [], _, _, rfl, rfl, rfl, Nat.le_refl _⟩
  · by_cases h1 : x - h.hg ≤ wd
    · rw [hstep_join h1, hstep_join (by omega)]
      exact .inr ⟨G, G', _, _, rfl, rfl, rfl, hl⟩
    · rw [hstep_new h1]
      by_cases h2 : x - h'.hg ≤ wd'
      · rw [hstep_join h2]
        exact .inr ⟨G ++ [h], G', _, _, rfl, rfl, rfl, by simp; omega⟩
      · rw [hstep_new h2]
        exact .inr ⟨G ++ [h], G' ++ [h'], _, _, rfl, rfl, rfl, by simp; omega⟩
theorem wider_fold {wd wd' : Int} (hw : wd ≤ wd') : ∀ (ys : List Int) (F F' : List GHypothesis), Wider F F' → Wider (ys.foldl (hstep wd) F) (ys.foldl (hstep wd') F')
  | [], _, _, h => h
  | y :: ys, F, F', h => wider_fold hw ys _ _ (wider_step hw h)
theorem hypV_wider (xs : List Int) {wd wd' : Int} (hw : wd ≤ wd') : (hypV xs wd').length ≤ (hypV xs wd).length := by
  have h := wider_fold hw (sortI xs) [] [] (.inl ⟨rfl, rfl⟩)
  unfold hypV hyps
  rcases h with ⟨h1, h2⟩ | ⟨G, G', h, h', h1, h2, _, hl⟩
  · rw [h1, h2]; exact Nat.le_refl _
  · rw [h1, h2]; simp; omega

/-- Where no gap is wider than the width there is one hypothesis. -/
theorem hyps_single {ys : List Int} {wd : Int} (hw : ∀ (k : Nat) (x y : Int), ys[k + 1]? = some x → ys[k]? = some y → x - y ≤ wd) : ∀ k, k < ys.length → ∃ h, hyps (ys.take (k + 1)) wd = [h] ∧ ys[k]? = some h.hg
  | 0, hk => by
    have hx : ys[0]? = some ys[0] := List.getElem?_eq_getElem hk
    refine ⟨⟨ys[0], ys[0], 1⟩, ?_, hx⟩
    rw [hyps_snoc wd hx]
    rfl
  | k + 1, hk => by
    obtain ⟨h, h1, h2⟩ := hyps_single hw k (by omega)
    have hx : ys[k + 1]? = some ys[k + 1] := List.getElem?_eq_getElem hk
    refine ⟨⟨h.lw, ys[k + 1], h.vt + 1⟩, ?_, hx⟩
    have hj := hw k _ _ hx h2
    rw [hyps_snoc wd hx, h1]
    have := hstep_join (F := []) hj
    rw [List.nil_append, List.nil_append] at this
    exact this

theorem wid_ge (ys : List Int) : ∀ k j, j < k → ys.getD (j + 1) 0 - ys.getD j 0 ≤ wid ys k
  | 0, j, h => by omega
  | k + 1, j, h => by
    rw [wid]
    by_cases hj : j = k
    · subst hj
      unfold mostI
      split <;> omega
    · have := wid_ge ys k j (by omega)
      unfold mostI
      split <;> omega
theorem wid_single {ys : List Int} (k : Nat) (x y : Int) (hx : ys[k + 1]? = some x) (hy : ys[k]? = some y) : x - y ≤ wid ys (ys.length - 1) := by
  have h := wid_ge ys (ys.length - 1) k (by have := (List.getElem?_eq_some_iff.1 hx).1; omega)
  rw [getD_of hx, getD_of hy] at h
  exact h

end Go.Proofs.Ytdllhdfoinobjaa
