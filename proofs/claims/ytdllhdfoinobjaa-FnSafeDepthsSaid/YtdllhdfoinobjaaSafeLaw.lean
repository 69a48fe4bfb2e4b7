/-
  This file proves plain facts on votes: how many votes a hypothesis has, what is left without weak votes, and where the median lies.
  Conditions: none beyond each lemma's own hypotheses. No program is in sight.
-/
import Derived.Test.YtdllhdfoinobjaaHypI
import Derived.Test.YtdllhdfoinobjaaHypLaw
namespace Go.Proofs.Ytdllhdfoinobjaa
open Go.RowKit
set_option linter.unusedSimpArgs false
set_option linter.unusedVariables false

/-- How many of some numbers lie in a hypothesis. -/
def cntH (ys : List Int) (h : GHypothesis) : Nat := (ys.filter (fun y => inH y h)).length
theorem cntH_snoc (ys : List Int) (x : Int) (h : GHypothesis) : cntH (ys ++ [x]) h = cntH ys h + (if inH x h = true then 1 else 0) := by
  unfold cntH
  rw [List.filter_append, List.length_append]
  by_cases hx : inH x h = true <;> simp [hx]
theorem cntH_out {ys : List Int} {x : Int} {h : GHypothesis} (hx : h.hg < x) : cntH (ys ++ [x]) h = cntH ys h := by
  rw [cntH_snoc, if_neg]
  · rfl
  · unfold inH
    rw [inR_true]
    omega
theorem take_le_last {ys : List Int} (hs : ys.Pairwise (· ≤ ·)) {k : Nat} {z y : Int} (hz : ys[k - 1]? = some z) (hk : 0 < k) (hy : y ∈ ys.take k) : y ≤ z := by
  obtain ⟨i, hi⟩ := List.mem_iff_getElem?.1 hy
  have hi2 := (List.getElem?_eq_some_iff.1 hi).1
  rw [List.length_take] at hi2
  rw [List.getElem?_take_of_lt (by omega)] at hi
  obtain ⟨k1, e1⟩ := List.getElem?_eq_some_iff.1 hz
  obtain ⟨k2, e2⟩ := List.getElem?_eq_some_iff.1 hi
  rcases Nat.lt_or_ge i (k - 1) with h | h
  · have := List.pairwise_iff_getElem.1 hs i (k - 1) k2 k1 h
    omega
  · have hik : i = k - 1 := by omega
    subst hik
    omega
theorem hyps_cnt {ys : List Int} {wd : Int} (hall : allDepth ys = true) (hs : ys.Pairwise (· ≤ ·)) (hw : 0 ≤ wd) : ∀ k, k ≤ ys.length → ∀ h ∈ hyps (ys.take k) wd, (cntH (ys.take k) h : Int) = h.vt ∧ h.lw ∈ ys.take k := by
  intro k
  induction k with
  | zero => intro _ h hh; simp [hyps] at hh
  | succ k ih =>
    intro hk
    have ih := ih (by omega)
    obtain ⟨h1, h2, h3, h4⟩ := hyps_inv hall hs hw k (by omega)
    obtain ⟨x, hx⟩ : ∃ x, ys[k]? = some x := ⟨_, List.getElem?_eq_getElem (by omega)⟩
    rw [hyps_snoc wd hx, take_snoc hx]
    rcases h1 with ⟨rfl, h1⟩ | ⟨hpos, F, h, h1, hl⟩
    · rw [h1, hstep_nil]
      intro a ha
      simp at ha
      subst ha
      have e0 : ys.take 0 = [] := rfl
      rw [e0, cntH_snoc, if_pos (by unfold inH; rw [inR_true]; exact ⟨Int.le_refl _, Int.le_refl _⟩)]
      simp [cntH]
    · rw [h1] at ih h3 h4 ⊢
      have hle : ∀ y ∈ ys.take k, y ≤ h.hg := fun y hy => take_le_last hs hl hpos hy
      have hxh : h.hg ≤ x := by
        have hy : x ∈ ys.take (k + 1) := by rw [take_snoc hx]; simp
        obtain ⟨k1, e1⟩ := List.getElem?_eq_some_iff.1 hl
        obtain ⟨k2, e2⟩ := List.getElem?_eq_some_iff.1 hx
        have := List.pairwise_iff_getElem.1 hs (k - 1) k k1 k2 (by omega)
        omega
      have hb := h3 h (by simp)
      have hF : ∀ a ∈ F, a.hg + wd < h.lw := fun a ha => by
        unfold hApart at h4
        rw [List.pairwise_append] at h4
        exact h4.2.2 a ha h (by simp)
      unfold hB at hb
      by_cases hc : x - h.hg ≤ wd
      · rw [hstep_join hc]
        intro a ha
        rcases List.mem_append.1 ha with ha | ha
        · have i1 := ih a (List.mem_append_left _ ha)
          have i2 := hF a ha
          rw [cntH_out (by omega)]
          exact ⟨i1.1, List.mem_append_left _ i1.2⟩
        · simp at ha
          have i1 := ih h (by simp)
          subst ha
          rw [cntH_snoc, if_pos (by unfold inH; rw [inR_true]; exact ⟨by show h.lw ≤ x; omega, Int.le_refl _⟩)]
          have e : cntH (ys.take k) ⟨h.lw, x, h.vt + 1⟩ = cntH (ys.take k) h := by
            unfold cntH
            congr 1
            apply List.filter_congr
            intro y hy
            have := hle y hy
            unfold inH
            rw [Bool.eq_iff_iff, inR_true, inR_true]
            simp only
            omega
          rw [e]
          refine ⟨?_, List.mem_append_left _ i1.2⟩
          have := i1.1
          push_cast
          omega
      · rw [hstep_new hc]
        intro a ha
        rcases List.mem_append.1 ha with ha | ha
        · have i1 := ih a ha
          have i2 : a.hg ≤ h.hg := by
            rcases List.mem_append.1 ha with ha | ha
            · have := hF a ha; omega
            · simp at ha; subst ha; exact Int.le_refl _
          rw [cntH_out (by omega)]
          exact ⟨i1.1, List.mem_append_left _ i1.2⟩
        · simp at ha
          subst ha
          rw [cntH_snoc, if_pos (by unfold inH; rw [inR_true]; exact ⟨Int.le_refl _, Int.le_refl _⟩)]
          have e : cntH (ys.take k) ⟨x, x, 1⟩ = 0 := by
            unfold cntH
            rw [List.length_eq_zero_iff, List.filter_eq_nil_iff]
            intro y hy
            have := hle y hy
            unfold inH
            rw [inR_true]
            simp only
            omega
          rw [e]
          exact ⟨rfl, by simp⟩
theorem hypV_cnt {xs : List Int} {wd : Int} (h : canV xs wd = true) : ∀ a ∈ hypV xs wd, (cntH xs a : Int) = a.vt ∧ a.lw ∈ xs := by
  intro a ha
  have e := sortI_length xs
  rw [← hypV_take (xs := xs) (wd := wd) (k := (sortI xs).length) (by omega)] at ha
  have := hyps_cnt (sortI_depth (isVts_all (canV_yes h).1).1) (sortI_sorted xs) (canV_yes h).2.1 _ (Nat.le_refl _) a ha
  rw [List.take_of_length_le (Nat.le_refl _)] at this
  refine ⟨?_, (sortI_perm xs).mem_iff.1 this.2⟩
  rw [← this.1]
  unfold cntH
  rw [((sortI_perm xs).filter _).length_eq]

theorem gath_filter (q : Int → Bool) (xs : List Int) : ∀ k, k ≤ xs.length → gath (fun i => q (xs.getD i 0)) (fun i => xs.getD i 0) k = (xs.take k).filter q := by
  intro k
  induction k with
  | zero => intro _; rfl
  | succ k ih =>
    intro hk
    obtain ⟨x, hx⟩ : ∃ x, xs[k]? = some x := ⟨_, List.getElem?_eq_getElem (by omega)⟩
    rw [take_snoc hx, List.filter_append, ← ih (by omega)]
    have hd := getD_of hx
    by_cases hq : q x = true
    · rw [gath_yes (p := fun i => q (xs.getD i 0)) (f := fun i => xs.getD i 0) (by simpa only [hd] using hq) hd]
      simp [hq]
    · rw [gath_no (p := fun i => q (xs.getD i 0)) (by simp only [hd]; simpa using hq)]
      simp [hq]
theorem outW_eq (xs : List Int) (wd s : Int) : outW xs wd s xs.length = xs.filter fun x => (strL s (hypV xs wd)).any (inH x) := by
  have h := gath_filter (fun x => (strL s (hypV xs wd)).any (inH x)) xs xs.length (Nat.le_refl _)
  rw [List.take_of_length_le (Nat.le_refl _)] at h
  exact h

/-- The votes that are left, and the safe depth: the least of them. -/
theorem safe_law (xs : List Int) (wd s : Int) : (vWithoutWeak xs wd s).2 = (vSafeDepth xs wd s).2 ∧ (vWithoutWeak xs wd s).1.length ≤ xs.length ∧ (vWithoutWeak xs wd s).1.length ≤ 20 ∧
    ((vSafeDepth xs wd s).2 = true → xs.length ≤ 20 ∧ 1 ≤ s ∧ s ≤ (vWithoutWeak xs wd s).1.length ∧ (vSafeDepth xs wd s).1 ∈ (vWithoutWeak xs wd s).1 ∧ ∀ x ∈ (vWithoutWeak xs wd s).1, (vSafeDepth xs wd s).1 ≤ x ∧ -1000 ≤ x ∧ x ≤ 20000) := by
  by_cases hc : canV xs wd = true ∧ inR s 1 20 = true
  rotate_left
  · have e1 : vWithoutWeak xs wd s = ([], false) := by unfold vWithoutWeak; rw [if_neg hc]
    have e2 : vSafeDepth xs wd s = (0, false) := by unfold vSafeDepth; rw [if_neg hc]
    rw [e1, e2]
    exact ⟨rfl, Nat.zero_le _, Nat.zero_le _, fun h => by cases h⟩
  have e1 : vWithoutWeak xs wd s = (outW xs wd s xs.length, decide (0 < (outW xs wd s xs.length).length)) := by unfold vWithoutWeak; rw [if_pos hc]
  have hcnt := hypV_cnt hc.1
  obtain ⟨_, hn1, hn20⟩ := isVts_all (canV_yes hc.1).1
  have hdep := (isVts_all (canV_yes hc.1).1).1
  have hap := (hypV_facts hc.1).2.2.1
  have hbs := (hypV_facts hc.1).2.1
  have hs1 := inR_true.1 hc.2
  have hw0 := (canV_yes hc.1).2.1
  rw [e1, outW_eq]
  simp only
  have hlen : (xs.filter fun x => (strL s (hypV xs wd)).any (inH x)).length ≤ xs.length := List.length_filter_le _ _
  rcases hG : strL s (hypV xs wd) with _ | ⟨a, r⟩
  · have e2 : vSafeDepth xs wd s = (0, false) := by unfold vSafeDepth; rw [if_pos hc, hG]
    rw [e2, ← hG]
    refine ⟨?_, hlen, by omega, fun h => by cases h⟩
    rw [decide_eq_false_iff_not, hG]
    simp
  · have e2 : vSafeDepth xs wd s = (a.lw, true) := by unfold vSafeDepth; rw [if_pos hc, hG]
    rw [e2]
    rw [hG] at hlen
    have haG : a ∈ strL s (hypV xs wd) := by rw [hG]; simp
    have haF : a ∈ hypV xs wd := (List.mem_filter.1 haG).1
    have hvt : s ≤ a.vt := by have := (List.mem_filter.1 haG).2; simp at this; omega
    have hca := hcnt a haF
    have hba := hbs a haF
    unfold hB at hba
    have hsub : cntH xs a ≤ (xs.filter fun x => (a :: r).any (inH x)).length := by
      unfold cntH
      have : (xs.filter fun y => inH y a) = (xs.filter fun x => (a :: r).any (inH x)).filter fun y => inH y a := by
        rw [List.filter_filter]
        apply List.filter_congr
        intro y _
        simp only [List.any_cons]
        cases inH y a <;> simp
      rw [this]
      exact List.length_filter_le _ _
    have hmem : a.lw ∈ (xs.filter fun x => (a :: r).any (inH x)) := by
      rw [List.mem_filter]
      refine ⟨hca.2, ?_⟩
      rw [List.any_cons, Bool.or_eq_true]
      left
      unfold inH
      rw [inR_true]
      omega
    have hpos := List.length_pos_of_mem hmem
    refine ⟨by rw [decide_eq_true_eq]; exact hpos, hlen, by omega, fun _ => ⟨hn20, hs1.1, by omega, hmem, ?_⟩⟩
    intro x hx
    rw [List.mem_filter] at hx
    obtain ⟨hx1, hx2⟩ := hx
    have hd := by
      unfold allDepth at hdep
      rw [List.all_eq_true] at hdep
      exact inR_true.1 (hdep x hx1)
    refine ⟨?_, hd⟩
    obtain ⟨b, hb, hin⟩ := List.any_eq_true.1 hx2
    unfold inH at hin
    rw [inR_true] at hin
    rcases List.mem_cons.1 hb with rfl | hb
    · exact hin.1
    · have hp : (strL s (hypV xs wd)).Pairwise (fun a b => a.hg + wd < b.lw) := List.Pairwise.filter _ hap
      rw [hG] at hp
      have := (List.pairwise_cons.1 hp).1 b hb
      omega

/-- The median: fewer than half of the votes are less, no more than half are greater. -/
theorem median_law (xs : List Int) (h : isVts xs = true) : 2 * (xs.filter fun y => decide (y < (sortI xs).getD ((xs.length - 1) / 2) 0)).length < xs.length ∧ 2 * (xs.filter fun y => decide ((sortI xs).getD ((xs.length - 1) / 2) 0 < y)).length ≤ xs.length := by
  obtain ⟨_, hn1, hn20⟩ := isVts_all h
  have e := sortI_length xs
  have hs := sortI_sorted xs
  have p1 := ((sortI_perm xs).filter (fun y => decide (y < (sortI xs).getD ((xs.length - 1) / 2) 0))).length_eq
  have p2 := ((sortI_perm xs).filter (fun y => decide ((sortI xs).getD ((xs.length - 1) / 2) 0 < y))).length_eq
  rw [← p1, ← p2]
  generalize sortI xs = ys at e hs
  obtain ⟨p, hp⟩ : ∃ p, (xs.length - 1) / 2 = p := ⟨_, rfl⟩
  rw [hp]
  have hpl : p < ys.length := by omega
  have hg : ys.getD p 0 = ys[p] := by simp [List.getD, hpl]
  rw [hg]
  constructor
  · have hz : (ys.filter fun y => decide (y < ys[p])).length ≤ p := by
      have e1 : ys.filter (fun y => decide (y < ys[p])) = (ys.take p).filter (fun y => decide (y < ys[p])) ++ (ys.drop p).filter (fun y => decide (y < ys[p])) := by rw [← List.filter_append, List.take_append_drop]
      have e2 : (ys.drop p).filter (fun y => decide (y < ys[p])) = [] := by
        rw [List.filter_eq_nil_iff]
        intro y hy
        obtain ⟨i, hi⟩ := List.mem_iff_getElem?.1 hy
        rw [List.getElem?_drop] at hi
        obtain ⟨k2, e2⟩ := List.getElem?_eq_some_iff.1 hi
        rw [decide_eq_true_eq]
        rcases Nat.eq_zero_or_pos i with h0 | h0
        · subst h0
          simp only [Nat.add_zero] at e2
          omega
        · have := List.pairwise_iff_getElem.1 hs p (p + i) hpl k2 (by omega)
          omega
      rw [e1, e2, List.append_nil]
      exact Nat.le_trans (List.length_filter_le _ _) (by rw [List.length_take]; omega)
    omega
  · have hz : (ys.filter fun y => decide (ys[p] < y)).length ≤ ys.length - (p + 1) := by
      have e1 : ys.filter (fun y => decide (ys[p] < y)) = (ys.take (p + 1)).filter (fun y => decide (ys[p] < y)) ++ (ys.drop (p + 1)).filter (fun y => decide (ys[p] < y)) := by rw [← List.filter_append, List.take_append_drop]
      have e2 : (ys.take (p + 1)).filter (fun y => decide (ys[p] < y)) = [] := by
        rw [List.filter_eq_nil_iff]
        intro y hy
        have := take_le_last hs (k := p + 1) (z := ys[p]) (List.getElem?_eq_getElem hpl) (by omega) hy
        rw [decide_eq_true_eq]
        omega
      rw [e1, e2, List.nil_append]
      exact Nat.le_trans (List.length_filter_le _ _) (by rw [List.length_drop]; exact Nat.le_refl _)
    omega

end Go.Proofs.Ytdllhdfoinobjaa
