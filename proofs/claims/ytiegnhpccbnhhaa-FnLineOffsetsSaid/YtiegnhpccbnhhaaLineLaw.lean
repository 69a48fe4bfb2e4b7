/-
  This file proves plain facts on lines' offsets: a line that is corrected by its whole offset has none; no line is worse than the worst.
  Conditions: none.
-/
import Derived.Test.YtiegnhpccbnhhaaCrossL
import Derived.Test.YtiegnhpccbnhhaaCrossN
namespace Go.Proofs.Ytiegnhpccbnhhaa
open Go.RowKit
set_option linter.unusedSimpArgs false
set_option linter.unusedVariables false

theorem own_corr (ps : List GCrossing) (l dy : Int) : ownL (corr ps l dy) l = (ownL ps l).map (fixL l dy) := by
  induction ps with
  | nil => rfl
  | cons p ps ih =>
    unfold ownL corr at ih ⊢
    rw [List.map_cons]
    by_cases h : p.ln = l
    · have h2 : (fixL l dy p).ln = l := by unfold fixL; rw [if_pos h]; exact h
      rw [List.filter_cons_of_pos (by simpa using h2), List.filter_cons_of_pos (by simpa using h), List.map_cons, ih]
    · have h2 : ¬ (fixL l dy p).ln = l := by unfold fixL; rw [if_neg h]; exact h
      rw [List.filter_cons_of_neg (by simpa using h2), List.filter_cons_of_neg (by simpa using h), ih]
theorem sumD_fix {l dy : Int} : ∀ (F : List GCrossing), (∀ p ∈ F, p.ln = l) → sumD (F.map (fixL l dy)) = sumD F - dy * (F.length : Int)
  | [], _ => by simp [sumD]
  | p :: F, h => by
    have h1 := sumD_fix (dy := dy) F (fun q hq => h q (List.mem_cons_of_mem _ hq))
    have h2 : fixL l dy p = ⟨p.ln, p.cr, p.mn + dy, p.ck⟩ := by unfold fixL; rw [if_pos (h p (by simp))]
    rw [List.map_cons, sumD, sumD, h1, h2, List.length_cons]
    simp only
    push_cast
    rw [Int.mul_add, Int.mul_one]
    omega
theorem own_line {ps : List GCrossing} {l : Int} : ∀ p ∈ ownL ps l, p.ln = l := fun p hp => by
  have := (List.mem_filter.1 hp).2
  simpa using this
/-- A line that is corrected by its whole offset has none. -/
theorem offset_none {ps : List GCrossing} {l : Int} (hn : 0 < (ownL ps l).length) (hd : redD (sumD (ownL ps l)) (ownL ps l).length = 1) (hc : isCL (corr ps l (redN (sumD (ownL ps l)) (ownL ps l).length)) = true) :
    vOffsetOfLine (corr ps l (redN (sumD (ownL ps l)) (ownL ps l).length)) l = (0, 1, true) := by
  obtain ⟨r1, r2, r3, r4⟩ := red_facts (sumD (ownL ps l)) (ownL ps l).length (by omega)
  rw [hd, Int.mul_one] at r1
  have e := own_corr ps l (redN (sumD (ownL ps l)) (ownL ps l).length)
  have hs : sumD (ownL (corr ps l (redN (sumD (ownL ps l)) (ownL ps l).length)) l) = 0 := by
    rw [e, sumD_fix _ own_line, r1]; omega
  have hl : (ownL (corr ps l (redN (sumD (ownL ps l)) (ownL ps l).length)) l).length = (ownL ps l).length := by rw [e, List.length_map]
  unfold vOffsetOfLine
  rw [if_pos ⟨hc, by rw [hl]; exact hn⟩, hs, hl]
  have h1 : redN 0 ((ownL ps l).length : Int) = 0 := by unfold redN; simp
  have h2 : redD 0 ((ownL ps l).length : Int) = 1 := by
    unfold redD
    rw [show Nat.gcd (Int.natAbs 0) (Int.natAbs ((ownL ps l).length : Int)) = (ownL ps l).length by simp]
    exact Int.tdiv_self (by omega)
  rw [h1, h2]

theorem frac_le {A' b a m A1 n : Int} (h7 : A' * b ≤ a * m) (hlt : a * n < A1 * b) (hb : 0 < b) (hn : 0 ≤ n) (hm : 0 ≤ m) : A' * n ≤ A1 * m := by
  have e1 := Int.mul_le_mul_of_nonneg_right h7 hn
  have e2 := Int.mul_le_mul_of_nonneg_right (Int.le_of_lt hlt) hm
  have e3 : A' * n * b ≤ A1 * m * b := by
    have x1 : A' * n * b = A' * b * n := by ac_rfl
    have x2 : A1 * m * b = A1 * b * m := by ac_rfl
    have x3 : a * m * n = a * n * m := by ac_rfl
    rw [x1, x2]
    rw [x3] at e1
    exact Int.le_trans e1 e2
  exact Int.le_of_mul_le_mul_right e3 hb
/-- What the best line so far is good for. -/
def WInv (ps : List GCrossing) (k : Nat) (st : Int × Int × Int) : Prop :=
  (st.1 = 0 ∧ ∀ l : Int, 1 ≤ l → l ≤ k → ¬ 0 < (ownL ps l).length) ∨
  (1 ≤ st.1 ∧ st.1 ≤ k ∧ 0 < (ownL ps st.1).length ∧ st.2.1 = absI (sumD (ownL ps st.1)) ∧ st.2.2 = ((ownL ps st.1).length : Int) ∧
    ∀ l : Int, 1 ≤ l → l ≤ k → 0 < (ownL ps l).length → absI (sumD (ownL ps l)) * st.2.2 ≤ st.2.1 * ((ownL ps l).length : Int))
theorem worst_inv (ps : List GCrossing) (k : Nat) : WInv ps k (wLine ps k) := by
  induction k with
  | zero => exact .inl ⟨rfl, fun l h1 h2 => by omega⟩
  | succ k ih =>
    rw [wLine_succ]
    generalize wLine ps k = st at ih ⊢
    by_cases hn : 0 < (ownL ps ((k : Int) + 1)).length
    rotate_left
    · rw [wStep_empty hn]
      rcases ih with ⟨h1, h2⟩ | ⟨h1, h2, h3, h4, h5, h6⟩
      · exact .inl ⟨h1, fun l a b => by
          rcases Int.lt_or_le l ((k : Int) + 1) with h | h
          · exact h2 l a (by omega)
          · obtain rfl : l = (k : Int) + 1 := by omega
            exact hn⟩
      · exact .inr ⟨h1, by omega, h3, h4, h5, fun l a b c => by
          rcases Int.lt_or_le l ((k : Int) + 1) with h | h
          · exact h6 l a (by omega) c
          · obtain rfl : l = (k : Int) + 1 := by omega
            exact absurd c hn⟩
    by_cases hc : st.1 = 0 ∨ st.2.1 * ((ownL ps ((k : Int) + 1)).length : Int) < absI (sumD (ownL ps ((k : Int) + 1))) * st.2.2
    · rw [wStep_yes hn hc]
      refine .inr ⟨by simp only; omega, by simp only; omega, hn, rfl, rfl, fun l a b c => ?_⟩
      simp only
      rcases Int.lt_or_le l ((k : Int) + 1) with h | h
      rotate_left
      · obtain rfl : l = (k : Int) + 1 := by omega
        exact Int.le_refl _
      rcases ih with ⟨h1, h2⟩ | ⟨h1, h2, h3, h4, h5, h6⟩
      · exact absurd c (h2 l a (by omega))
      · have hlt := hc.resolve_left (by omega)
        have h7 := h6 l a (by omega) c
        have hb : 0 < st.2.2 := by rw [h5]; omega
        have hn0 : (0 : Int) ≤ ((ownL ps ((k : Int) + 1)).length : Int) := by omega
        have hm0 : (0 : Int) ≤ ((ownL ps l).length : Int) := by omega
        exact frac_le h7 hlt hb hn0 hm0
    · rw [wStep_no hc]
      rcases ih with ⟨h1, h2⟩ | ⟨h1, h2, h3, h4, h5, h6⟩
      · exact absurd (.inl h1) hc
      · exact .inr ⟨h1, by omega, h3, h4, h5, fun l a b c => by
          rcases Int.lt_or_le l ((k : Int) + 1) with h | h
          · exact h6 l a (by omega) c
          · obtain rfl : l = (k : Int) + 1 := by omega
            exact Int.not_lt.1 (fun h => hc (.inr h))⟩

theorem own_has {ps : List GCrossing} {k : Nat} {p : GCrossing} (hp : ps[k]? = some p) : 0 < (ownL ps p.ln).length :=
  List.length_pos_iff.2 (List.ne_nil_of_mem (List.mem_filter.2 ⟨List.mem_of_getElem? hp, by simp⟩))
theorem offset_yes {ps : List GCrossing} {l : Int} (h : isCL ps = true) (hn : 0 < (ownL ps l).length) : vOffsetOfLine ps l = (redN (sumD (ownL ps l)) (ownL ps l).length, redD (sumD (ownL ps l)) (ownL ps l).length, true) := by
  unfold vOffsetOfLine
  rw [if_pos ⟨h, hn⟩]
/-- No line is worse than the worst. -/
theorem worst_law {ps : List GCrossing} (h : isCL ps = true) (h0 : 0 < ps.length) :
    0 < (ownL ps (wLine ps 99).1).length ∧ ∀ (k : Nat) (p : GCrossing), ps[k]? = some p →
      absI (redN (sumD (ownL ps p.ln)) (ownL ps p.ln).length) * redD (sumD (ownL ps (wLine ps 99).1)) (ownL ps (wLine ps 99).1).length ≤ absI (redN (sumD (ownL ps (wLine ps 99).1)) (ownL ps (wLine ps 99).1).length) * redD (sumD (ownL ps p.ln)) (ownL ps p.ln).length := by
  have hi := worst_inv ps 99
  rcases hi with ⟨h1, h2⟩ | ⟨h1, h2, h3, h4, h5, h6⟩
  · have hp := List.getElem?_eq_getElem h0
    have hb := isCx_bound (isCL_get h hp)
    exact absurd (own_has hp) (h2 _ (by omega) (by omega))
  · refine ⟨h3, fun k p hp => ?_⟩
    have hb := isCx_bound (isCL_get h hp)
    have ho := own_has hp
    have hle := h6 p.ln (by omega) (by omega) ho
    obtain ⟨r1, r2, r3, r4, r5⟩ := absI_red (sumD (ownL ps p.ln)) (ownL ps p.ln).length (by omega)
    obtain ⟨s1, s2, s3, s4, s5⟩ := absI_red (sumD (ownL ps (wLine ps 99).1)) (ownL ps (wLine ps 99).1).length (by omega)
    have hf := frac_lt s1 r1 r4 (show (0 : Int) < ((ownL ps p.ln).length : Int) by omega) s4 (show (0 : Int) < ((ownL ps (wLine ps 99).1).length : Int) by omega)
    rw [h4, h5] at hle
    exact Int.not_lt.1 (fun hlt => Int.not_lt.2 hle (hf.1 hlt))

end Go.Proofs.Ytiegnhpccbnhhaa
