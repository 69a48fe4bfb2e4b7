/-
  This file proves the plain law of edit lists: what makes a list of steps good, which steps are live, what they do; and that the program's check and the reference's agree.
  Conditions: none beyond each lemma's own hypotheses. No program is in sight.
-/
import Derived.Test.YtdcbgahfbcemnaaEditStepS
namespace Go.Proofs.Ytdcbgahfbcemnaa
open Go.RowKit
set_option linter.unusedSimpArgs false
set_option linter.unusedVariables false

/-- A word: 1 to 10 small letters. -/
def isLetter (c : UInt8) : Bool := decide (97 ≤ c.toNat) && decide (c.toNat ≤ 122)
def lettersB (s : ByteArray) : Bool := s.data.toList.all isLetter
def wordB (s : ByteArray) : Bool := lettersB s && inR s.size 1 10
def kindB (p : GEditStep) : Bool :=
  if p.kd = 0 ∨ p.kd = 1 then decide (p.sh = 0) else if p.kd = 2 then inR p.sh (-100) 100 && decide (p.sh ≠ 0) else if p.kd = 3 then decide (p.mr = 0) && decide (p.sh = 0) else false
/-- A step has the form of one for m soundings. -/
def formB (m : Int) (p : GEditStep) : Bool := wordB p.rs && inR p.mr 0 (m - 1) && kindB p

def gE (ps : List GEditStep) (i : Nat) : GEditStep := ps.getD i ⟨0, 0, 0, ByteArray.empty⟩
theorem gE_of {ps : List GEditStep} {i : Nat} {p : GEditStep} (h : ps[i]? = some p) : gE ps i = p := by simp [gE, List.getD, h]
theorem gE_take {ps : List GEditStep} {i n : Nat} (h : i < n) : gE (ps.take n) i = gE ps i := by simp [gE, List.getD, List.getElem?_take, h]
theorem gE_append {ps qs : List GEditStep} {i : Nat} (h : i < ps.length) : gE (ps ++ qs) i = gE ps i := by simp [gE, List.getD, List.getElem?_append_left h]

/-- The steps that are live after the first k. -/
def liveE (ps : List GEditStep) : Nat → List Nat
  | 0 => []
  | k + 1 => if (gE ps k).kd = 3 then (liveE ps k).dropLast else liveE ps k ++ [k]
theorem liveE_undo {ps : List GEditStep} {k : Nat} (h : (gE ps k).kd = 3) : liveE ps (k + 1) = (liveE ps k).dropLast := by rw [liveE, if_pos h]
theorem liveE_push {ps : List GEditStep} {k : Nat} (h : (gE ps k).kd ≠ 3) : liveE ps (k + 1) = liveE ps k ++ [k] := by rw [liveE, if_neg h]
theorem liveE_congr {ps qs : List GEditStep} {k : Nat} (h : ∀ i, i < k → gE ps i = gE qs i) : liveE ps k = liveE qs k := by
  induction k with
  | zero => rfl
  | succ k ih => rw [liveE, liveE, h k (by omega), ih (fun i hi => h i (by omega))]
theorem liveE_take {ps : List GEditStep} {k n : Nat} (h : k ≤ n) : liveE (ps.take n) k = liveE ps k := liveE_congr fun i hi => gE_take (by omega)
theorem liveE_append {ps qs : List GEditStep} {k : Nat} (h : k ≤ ps.length) : liveE (ps ++ qs) k = liveE ps k := liveE_congr fun i hi => gE_append (by omega)
theorem liveE_mem {ps : List GEditStep} {k i : Nat} (h : i ∈ liveE ps k) : i < k ∧ (gE ps i).kd ≠ 3 := by
  induction k with
  | zero => cases h
  | succ k ih =>
    by_cases hk : (gE ps k).kd = 3
    · rw [liveE_undo hk] at h
      have := ih (by rw [List.dropLast_eq_take] at h; exact List.mem_of_mem_take h)
      exact ⟨by omega, this.2⟩
    · rw [liveE_push hk] at h
      rcases List.mem_append.1 h with h | h
      · have := ih h
        exact ⟨by omega, this.2⟩
      · obtain rfl := List.mem_singleton.1 h
        exact ⟨by omega, hk⟩
theorem liveE_len {ps : List GEditStep} (k : Nat) : (liveE ps k).length ≤ k := by
  induction k with
  | zero => simp [liveE]
  | succ k ih =>
    by_cases hk : (gE ps k).kd = 3
    · rw [liveE_undo hk, List.length_dropLast]; omega
    · rw [liveE_push hk, List.length_append, List.length_singleton]; omega

/-- The shift of a sounding by some steps; whether it is accepted behind them. -/
def shiftE (ps : List GEditStep) (mark : Int) (l : List Nat) : Int := l.foldl (fun s i => if (gE ps i).mr = mark ∧ (gE ps i).kd = 2 then s + (gE ps i).sh else s) 0
def accE (ps : List GEditStep) (mark : Int) (l : List Nat) : Bool := l.foldl (fun s i => if (gE ps i).mr = mark ∧ (gE ps i).kd ≠ 2 then decide ((gE ps i).kd = 1) else s) true
theorem shiftE_snoc (ps : List GEditStep) (mark : Int) (l : List Nat) (i : Nat) : shiftE ps mark (l ++ [i]) = if (gE ps i).mr = mark ∧ (gE ps i).kd = 2 then shiftE ps mark l + (gE ps i).sh else shiftE ps mark l := by
  unfold shiftE
  rw [List.foldl_append]
  rfl
theorem accE_snoc (ps : List GEditStep) (mark : Int) (l : List Nat) (i : Nat) : accE ps mark (l ++ [i]) = if (gE ps i).mr = mark ∧ (gE ps i).kd ≠ 2 then decide ((gE ps i).kd = 1) else accE ps mark l := by
  unfold accE
  rw [List.foldl_append]
  rfl
theorem foldl_congr_mem {α β : Type} {f g : α → β → α} {l : List β} (h : ∀ x ∈ l, ∀ a, f a x = g a x) (a : α) : l.foldl f a = l.foldl g a := by
  induction l generalizing a with
  | nil => rfl
  | cons x l ih =>
    rw [List.foldl_cons, List.foldl_cons, h x (List.mem_cons_self ..) a]
    exact ih (fun y hy => h y (List.mem_cons_of_mem _ hy)) _
theorem shiftE_congr {ps qs : List GEditStep} {mark : Int} {l : List Nat} (h : ∀ i ∈ l, gE ps i = gE qs i) : shiftE ps mark l = shiftE qs mark l :=
  foldl_congr_mem (fun i hi a => by rw [h i hi]) 0
theorem accE_congr {ps qs : List GEditStep} {mark : Int} {l : List Nat} (h : ∀ i ∈ l, gE ps i = gE qs i) : accE ps mark l = accE qs mark l :=
  foldl_congr_mem (fun i hi a => by rw [h i hi]) true

/-- Step k is good behind the steps ahead of it. -/
def stepB (m : Int) (ps : List GEditStep) (k : Nat) : Bool :=
  formB m (gE ps k) && !(decide ((gE ps k).kd = 3) && decide ((liveE ps k).length = 0)) && !(decide ((gE ps k).kd = 2) && !inR (shiftE ps (gE ps k).mr (liveE ps k) + (gE ps k).sh) (-500) 500)
def goodTo (m : Int) (ps : List GEditStep) : Nat → Bool
  | 0 => true
  | k + 1 => goodTo m ps k && stepB m ps k
def goodE (m : Int) (ps : List GEditStep) : Bool := inR m 1 15 && decide (ps.length ≤ 20) && goodTo m ps ps.length
theorem goodTo_succ {m : Int} {ps : List GEditStep} {k : Nat} : goodTo m ps (k + 1) = true ↔ goodTo m ps k = true ∧ stepB m ps k = true := by rw [goodTo, Bool.and_eq_true]
theorem goodTo_step {m : Int} {ps : List GEditStep} {k i : Nat} (h : goodTo m ps k = true) (hi : i < k) : stepB m ps i = true := by
  induction k with
  | zero => omega
  | succ k ih =>
    have h' := goodTo_succ.1 h
    rcases Nat.lt_or_ge i k with g | g
    · exact ih h'.1 g
    · obtain rfl : i = k := by omega
      exact h'.2
theorem goodTo_bad {m : Int} {ps : List GEditStep} {k n : Nat} (h : stepB m ps k = false) (hk : k < n) : goodTo m ps n = false := by
  rcases hb : goodTo m ps n with _ | _
  · rfl
  · rw [goodTo_step hb hk] at h
    cases h
theorem stepB_form {m : Int} {ps : List GEditStep} {k : Nat} (h : stepB m ps k = true) : formB m (gE ps k) = true := by
  unfold stepB at h
  rw [Bool.and_eq_true, Bool.and_eq_true] at h
  exact h.1.1
theorem form_mk {m : Int} {p : GEditStep} (h : formB m p = true) : 0 ≤ p.mr ∧ p.mr ≤ m - 1 := by
  unfold formB at h
  rw [Bool.and_eq_true, Bool.and_eq_true] at h
  exact inR_true.1 h.1.2
theorem form_kind {m : Int} {p : GEditStep} (h : formB m p = true) : kindB p = true := by
  unfold formB at h
  rw [Bool.and_eq_true, Bool.and_eq_true] at h
  exact h.2
theorem kind_sh {p : GEditStep} (h : kindB p = true) : -100 ≤ p.sh ∧ p.sh ≤ 100 := by
  unfold kindB at h
  split at h
  · simp at h; omega
  · split at h
    · rw [Bool.and_eq_true] at h
      exact inR_true.1 h.1
    · split at h
      · simp at h; omega
      · cases h
theorem kind_kd {p : GEditStep} (h : kindB p = true) : p.kd = 0 ∨ p.kd = 1 ∨ p.kd = 2 ∨ p.kd = 3 := by
  unfold kindB at h
  by_cases h1 : p.kd = 0 ∨ p.kd = 1
  · omega
  · rw [if_neg h1] at h
    by_cases h2 : p.kd = 2
    · omega
    · rw [if_neg h2] at h
      by_cases h3 : p.kd = 3
      · omega
      · rw [if_neg h3] at h; cases h
theorem kind_undo {p : GEditStep} (h : kindB p = true) (h3 : p.kd = 3) : p.mr = 0 ∧ p.sh = 0 := by
  unfold kindB at h
  rw [if_neg (by omega), if_neg (by omega), if_pos h3] at h
  simpa using h

/-- Behind good steps no shift of any part of the live ones is too great. -/
theorem shift_inv {m : Int} {ps : List GEditStep} {k : Nat} (h : goodTo m ps k = true) : ∀ (j : Nat) (mark : Int), inR (shiftE ps mark ((liveE ps k).take j)) (-500) 500 = true := by
  induction k with
  | zero => intro j mark; simp [liveE, shiftE, inR]
  | succ k ih =>
    have h' := goodTo_succ.1 h
    have ih' := ih h'.1
    intro j mark
    by_cases hk : (gE ps k).kd = 3
    · rw [liveE_undo hk, List.dropLast_eq_take, List.take_take]
      exact ih' _ mark
    · rw [liveE_push hk]
      rcases Nat.lt_or_ge (liveE ps k).length j with hj | hj
      · rw [List.take_of_length_le (by simp; omega), shiftE_snoc]
        have hl := ih' (liveE ps k).length mark
        rw [List.take_length] at hl
        by_cases hm : (gE ps k).mr = mark ∧ (gE ps k).kd = 2
        · rw [if_pos hm]
          have hs := h'.2
          unfold stepB at hs
          rw [Bool.and_eq_true] at hs
          have hs2 := hs.2
          rw [decide_eq_true hm.2] at hs2
          simp only [Bool.true_and, Bool.not_not] at hs2
          rw [hm.1] at hs2
          exact hs2
        · rw [if_neg hm]
          exact hl
      · rw [List.take_append_of_le_length hj]
        exact ih' j mark
theorem shift_all {m : Int} {ps : List GEditStep} {k : Nat} (h : goodTo m ps k = true) (mark : Int) : inR (shiftE ps mark (liveE ps k)) (-500) 500 = true := by
  have := shift_inv h (liveE ps k).length mark
  rwa [List.take_length] at this
/-- The program's check of a step: form, something to undo, the shift behind it. -/
def stepI (m : Int) (ps : List GEditStep) (k : Nat) : Bool :=
  formB m (gE ps k) && !(decide ((gE ps k).kd = 3) && decide ((liveE ps k).length = 0)) && inR (shiftE ps (gE ps k).mr (liveE ps (k + 1))) (-500) 500
theorem stepI_eq {m : Int} {ps : List GEditStep} {k : Nat} (h : goodTo m ps k = true) : stepI m ps k = stepB m ps k := by
  unfold stepI stepB
  congr 1
  by_cases h3 : (gE ps k).kd = 3
  · rw [liveE_undo h3, List.dropLast_eq_take, shift_inv h, decide_eq_false (by omega)]
    rfl
  · rw [liveE_push h3, shiftE_snoc]
    by_cases h2 : (gE ps k).kd = 2
    · rw [if_pos ⟨rfl, h2⟩, decide_eq_true h2]
      simp
    · rw [if_neg (by omega), shift_all h, decide_eq_false h2]
      rfl
theorem stepB_congr {m : Int} {ps qs : List GEditStep} {k : Nat} (h : ∀ i, i ≤ k → gE ps i = gE qs i) : stepB m ps k = stepB m qs k := by
  unfold stepB
  rw [h k (Nat.le_refl _), liveE_congr (ps := ps) (qs := qs) (fun i hi => h i (by omega)), shiftE_congr (ps := ps) (qs := qs) (fun i hi => h i (by have := liveE_mem hi; omega))]
theorem goodTo_congr {m : Int} {ps qs : List GEditStep} {k : Nat} (h : ∀ i, i < k → gE ps i = gE qs i) : goodTo m ps k = goodTo m qs k := by
  induction k with
  | zero => rfl
  | succ k ih => rw [goodTo, goodTo, ih (fun i hi => h i (by omega)), stepB_congr (fun i hi => h i (by omega))]
theorem goodE_len {m : Int} {ps : List GEditStep} (h : goodE m ps = true) : ps.length ≤ 20 ∧ 1 ≤ m ∧ m ≤ 15 := by
  unfold goodE at h
  rw [Bool.and_eq_true, Bool.and_eq_true] at h
  have := inR_true.1 h.1.1
  have := of_decide_eq_true h.1.2
  omega
theorem goodE_to {m : Int} {ps : List GEditStep} (h : goodE m ps = true) : goodTo m ps ps.length = true := by
  unfold goodE at h
  rw [Bool.and_eq_true] at h
  exact h.2
/-- A good list less its last step is good. -/
theorem goodE_less {m : Int} {ps : List GEditStep} {p : GEditStep} (h : goodE m (ps ++ [p]) = true) : goodE m ps = true := by
  have hl := goodE_len h
  have ht := goodE_to h
  rw [List.length_append, List.length_singleton] at ht hl
  have hg := (goodTo_succ.1 ht).1
  unfold goodE
  rw [goodTo_congr (qs := ps) (fun i hi => gE_append hi)] at hg
  rw [hg, inR_true.2 ⟨hl.2.1, hl.2.2⟩, decide_eq_true (by omega)]
  rfl

end Go.Proofs.Ytdcbgahfbcemnaa
