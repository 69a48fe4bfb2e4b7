/-
  This file proves contracts of the comparison of fractions and of WorstLine, of the program and of the reference.
  Conditions: each contract's own hypotheses (that a slice reads as a list of crossings, that it is not too long).
-/
import Derived.Test.YtiegnhpccbnhhaaCrossK
namespace Go.Proofs.Ytiegnhpccbnhhaa
open Go.RowKit
set_option linter.unusedSimpArgs false
set_option linter.unusedVariables false

def cmp3 (a b : Int) : Int := if a < b then -1 else if b < a then 1 else 0
theorem isNaN_any (a : Int) (w : World) : Calls Try.prog 82 #[.int .i64 a] w fun e w' => e = .returned (.bool false) ∧ w = w' := by
  go_enter Try.func82, Try.ntmps82
  go_wp2
  go_ret
  exact ⟨by simp, rfl⟩
theorem compareI_any (a b : Int) (w : World) : Calls Try.prog 78 #[.int .i64 a, .int .i64 b] w fun e w' => e = .returned (.int .i64 (cmp3 a b)) ∧ w = w' := by
  by_cases h : a < b
  · have HE := Lib.hid (show cmp3 a b = -1 from by unfold cmp3; rw [if_pos h])
    go_enter Try.func78, Try.ntmps78
    go_wp2_with (go_at_call 82; refine (isNaN_any _ _).mono ?_; rintro e w' ⟨rfl, rfl⟩)
    go_ret
    exact ⟨ret_int HE.out.symm, rfl⟩
  by_cases h2 : b < a
  · have HE := Lib.hid (show cmp3 a b = 1 from by unfold cmp3; rw [if_neg h, if_pos h2])
    go_enter Try.func78, Try.ntmps78
    go_wp2_with (go_at_call 82; refine (isNaN_any _ _).mono ?_; rintro e w' ⟨rfl, rfl⟩)
    go_ret
    exact ⟨ret_int HE.out.symm, rfl⟩
  · have HE := Lib.hid (show cmp3 a b = 0 from by unfold cmp3; rw [if_neg h, if_neg h2])
    go_enter Try.func78, Try.ntmps78
    go_wp2_with (go_at_call 82; refine (isNaN_any _ _).mono ?_; rintro e w' ⟨rfl, rfl⟩)
    go_ret
    exact ⟨ret_int HE.out.symm, rfl⟩
set_option maxHeartbeats 1000000 in
theorem partCompare_any (a b c d : Int) (w : World) (h1 : -4611686018427387904 ≤ a * d ∧ a * d ≤ 4611686018427387904) (h2 : -4611686018427387904 ≤ c * b ∧ c * b ≤ 4611686018427387904) :
    Calls Try.prog 69 #[.agg #[.int .i64 a, .int .i64 b], .agg #[.int .i64 c, .int .i64 d]] w fun e w' => e = .returned (.int .i64 (cmp3 (a * d) (c * b))) ∧ Below w.heap.size w w' := by
  have q1 : IntKind.i64.wrap (a * d) = a * d := wr64 h1.1 h1.2
  have q2 : IntKind.i64.wrap (c * b) = c * b := wr64 h2.1 h2.2
  go_enter Try.func69, Try.ntmps69
  go_wp2_with (go_at_call 78; refine (compareI_any _ _ _).mono ?_; rintro e w' ⟨rfl, rfl⟩)
  go_returns
  exact ⟨rfl, by go_grown⟩

/-- One more line: the best line so far, the size of its sum, the number of its crossings. -/
def wStep (ps : List GCrossing) (st : Int × Int × Int) (l : Int) : Int × Int × Int :=
  if 0 < (ownL ps l).length ∧ (st.1 = 0 ∨ st.2.1 * ((ownL ps l).length : Int) < absI (sumD (ownL ps l)) * st.2.2) then (l, absI (sumD (ownL ps l)), ((ownL ps l).length : Int)) else st
def wLine (ps : List GCrossing) : Nat → Int × Int × Int
  | 0 => (0, 0, 1)
  | k + 1 => wStep ps (wLine ps k) ((k : Int) + 1)
theorem wLine_succ (ps : List GCrossing) (k : Nat) : wLine ps (k + 1) = wStep ps (wLine ps k) ((k : Int) + 1) := rfl
def vWorstLine (ps : List GCrossing) : Int × Bool := if isCL ps = true ∧ 0 < ps.length then ((wLine ps 99).1, true) else (0, false)
theorem own_bound {ps : List GCrossing} {l : Int} (h : isCL ps = true) : -210000 ≤ sumD (ownL ps l) ∧ sumD (ownL ps l) ≤ 210000 ∧ (ownL ps l).length ≤ 10 := by
  have h1 := sumD_bound (allCx_own (l := l) (allCx_of h))
  have h2 := ownL_le ps l
  have h3 := isCL_len h
  omega
theorem wLine_bound {ps : List GCrossing} (h : isCL ps = true) (k : Nat) : 0 ≤ (wLine ps k).1 ∧ (wLine ps k).1 ≤ k ∧ 0 ≤ (wLine ps k).2.1 ∧ (wLine ps k).2.1 ≤ 210000 ∧ 1 ≤ (wLine ps k).2.2 ∧ (wLine ps k).2.2 ≤ 10 := by
  induction k with
  | zero => simp [wLine]
  | succ k ih =>
    rw [wLine_succ, wStep]
    have hb := own_bound (l := (k : Int) + 1) h
    have ha := absI_nonneg (sumD (ownL ps ((k : Int) + 1)))
    have ha' := absI_le (n := sumD (ownL ps ((k : Int) + 1))) (b := 210000) (by omega) (by omega)
    split
    · rename_i hc
      refine ⟨?_, ?_, ha, ha', ?_, ?_⟩ <;> simp only <;> push_cast <;> omega
    · push_cast
      omega
theorem wStep_empty {ps : List GCrossing} {st : Int × Int × Int} {l : Int} (h : ¬ 0 < (ownL ps l).length) : wStep ps st l = st := by unfold wStep; rw [if_neg (fun h' => h h'.1)]
theorem wStep_yes {ps : List GCrossing} {st : Int × Int × Int} {l : Int} (h : 0 < (ownL ps l).length) (h2 : st.1 = 0 ∨ st.2.1 * ((ownL ps l).length : Int) < absI (sumD (ownL ps l)) * st.2.2) : wStep ps st l = (l, absI (sumD (ownL ps l)), ((ownL ps l).length : Int)) := by unfold wStep; rw [if_pos ⟨h, h2⟩]
theorem wStep_no {ps : List GCrossing} {st : Int × Int × Int} {l : Int} (h2 : ¬ (st.1 = 0 ∨ st.2.1 * ((ownL ps l).length : Int) < absI (sumD (ownL ps l)) * st.2.2)) : wStep ps st l = st := by unfold wStep; rw [if_neg (fun h' => h2 h'.2)]

set_option maxHeartbeats 4000000 in
set_option maxRecDepth 100000 in
theorem sWorstLine {A : Option Addr} {c lo hi : Nat} {ps : List GCrossing} {w : World} (hr : RdC w lo hi A ps) (hl : ps.length ≤ 2097152) (hh : hi ≤ w.heap.size) :
    Calls Try.prog 32 #[.slice A ps.length c] w (RetIB (vWorstLine ps).1 (vWorstLine ps).2 w) := by
  by_cases h1 : isCL ps = true
  rotate_left
  · have h1' : isCL ps = false := by simpa using h1
    have HE := Lib.hid (show vWorstLine ps = (0, false) from by unfold vWorstLine; rw [if_neg (by simp [h1'])])
    clear h1
    go_enter Try.func32, Try.ntmps32
    go_wp2_with fail
    refine (l10Good_any hr hl hh).mono ?_
    rintro e w1 ⟨rfl, B1⟩
    go_wp2_with fail
    go_ret2
    rw [HE.out]
    exact ⟨rfl, B1⟩
  by_cases h2 : 0 < ps.length
  rotate_left
  · have h2' := ne_len h2
    have HE := Lib.hid (show vWorstLine ps = (0, false) from by unfold vWorstLine; rw [if_neg (fun h => h2 h.2)])
    clear h2
    go_enter Try.func32, Try.ntmps32
    go_wp2_with fail
    refine (l10Good_any hr hl hh).mono ?_
    rintro e w1 ⟨rfl, B1⟩
    go_wp2_with fail
    go_ret2
    rw [HE.out]
    exact ⟨rfl, B1⟩
  have HE := Lib.hid (show vWorstLine ps = ((wLine ps 99).1, true) from by unfold vWorstLine; rw [if_pos ⟨h1, h2⟩])
  have h2' := eq_len h2
  have H1 := Lib.hid h1
  go_enter Try.func32, Try.ntmps32
  go_wp2_with fail
  refine (l10Good_any hr hl hh).mono ?_
  rintro e w1 ⟨rfl, B1⟩
  go_wp2_with fail
  clear h1 h2 h2'
  go_loopw [4, 5, 6, 7] (fun x y z i wr => ∃ k : Nat, k ≤ 99 ∧ i = .int .i64 ((k : Int) + 1) ∧ x = .int .i64 (wLine ps k).1 ∧ y = .int .i64 (wLine ps k).2.1 ∧ z = .int .i64 (wLine ps k).2.2 ∧ Below w.heap.size w wr) (fun _ _ _ i _ => 100 - (intOf i).toNat)
  case atStart => exact ⟨0, by omega, rfl, rfl, rfl, rfl, B1⟩
  case round =>
    obtain ⟨k, hk, rfl, rfl, rfl, rfl, hb⟩ := hrel
    have hwb := wLine_bound H1.out k
    by_cases hlt : k < 99
    rotate_left
    · obtain rfl : k = 99 := by omega
      go_wp2_with fail
      go_ret2
      rw [HE.out]
      exact ⟨rfl, hb⟩
    have HW := Lib.hid (wLine_succ ps k)
    have hob := own_bound (l := (k : Int) + 1) H1.out
    obtain ⟨l, hl0⟩ : ∃ l : Int, l = (k : Int) + 1 := ⟨_, rfl⟩
    rw [← hl0] at hob
    have HL := Lib.hid hl0
    have hl1 : l ≤ 99 := by omega
    have hl2 : 1 ≤ l := by omega
    have HWS := Lib.hid (show wLine ps (k + 1) = wStep ps (wLine ps k) l from by rw [HW.out, HL.out])
    have ha := absI_nonneg (sumD (ownL ps l))
    have ha' := absI_le (n := sumD (ownL ps l)) (b := 210000) (by omega) (by omega)
    rw [← hl0]
    clear hl0
    rcases h0 : wLine ps k with ⟨bst, sa, sb⟩
    rw [h0] at hwb
    simp only at hwb ⊢
    have m1 : 0 ≤ absI (sumD (ownL ps l)) * sb := Int.mul_nonneg ha (by omega)
    have m2 : absI (sumD (ownL ps l)) * sb ≤ 210000 * 10 := Int.mul_le_mul ha' (by omega) (by omega) (by omega)
    have m3 : 0 ≤ sa * ((ownL ps l).length : Int) := Int.mul_nonneg (by omega) (by omega)
    have m4 : sa * ((ownL ps l).length : Int) ≤ 210000 * 10 := Int.mul_le_mul (by omega) (by omega) (by omega) (by omega)
    have q1 : IntKind.i64.wrap (absI (sumD (ownL ps l)) * sb) = absI (sumD (ownL ps l)) * sb := wr64 (by omega) (by omega)
    have q2 : IntKind.i64.wrap (sa * ((ownL ps l).length : Int)) = sa * ((ownL ps l).length : Int) := wr64 (by omega) (by omega)
    rw [h0] at HWS
    clear h0 HW
    by_cases hn : 0 < (ownL ps l).length
    rotate_left
    · have HN := Lib.hid (wStep_empty (st := (bst, sa, sb)) hn)
      have hn' : ¬ (0 : Int) < ((ownL ps l).length : Int) := by omega
      go_wp2_with fail
      refine (l10Offset_any (l := l) (hr.below hb hh) hl (by have := hb.size; omega)).mono ?_
      rintro e w0 ⟨S, rfl, hS, B0⟩
      clear hS
      have hb0 := hb.trans (B0.mono hb.size)
      go_wp2_with fail
      go_roundw
      case rel => exact ⟨k + 1, by omega, by rw [HL.out]; go_num, by rw [HWS.out, HN.out], by rw [HWS.out, HN.out], by rw [HWS.out, HN.out], hb0⟩
      case measure => simp [intOf]; omega
    have hn' : (0 : Int) < ((ownL ps l).length : Int) := by omega
    by_cases hz : bst = 0
    · have HN := Lib.hid (wStep_yes (st := (bst, sa, sb)) hn (.inl hz))
      have hz' : (bst == 0) = true := by simpa using hz
      clear hz
      go_wp2_with fail
      refine (l10Offset_any (l := l) (hr.below hb hh) hl (by have := hb.size; omega)).mono ?_
      rintro e w0 ⟨S, rfl, hS, B0⟩
      rw [hS H1.out]
      clear hS
      have hb0 := hb.trans (B0.mono hb.size)
      go_wp2_with (go_at_call 67; refine (l10Size_any _ _ (by omega) (by omega)).mono ?_; rintro e w' ⟨rfl, rfl⟩)
      go_roundw
      case rel => exact ⟨k + 1, by omega, by rw [HL.out]; go_num, by rw [HWS.out, HN.out], by rw [HWS.out, HN.out], by rw [HWS.out, HN.out], hb0⟩
      case measure => simp [intOf]; omega
    have hz' : (bst == 0) = false := by simpa using hz
    by_cases hc : sa * ((ownL ps l).length : Int) < absI (sumD (ownL ps l)) * sb
    · have HN := Lib.hid (wStep_yes (st := (bst, sa, sb)) hn (.inr hc))
      clear hz
      go_wp2_with fail
      refine (l10Offset_any (l := l) (hr.below hb hh) hl (by have := hb.size; omega)).mono ?_
      rintro e w0 ⟨S, rfl, hS, B0⟩
      rw [hS H1.out]
      clear hS
      have hb0 := hb.trans (B0.mono hb.size)
      go_wp2_with (go_at_call 67; refine (l10Size_any _ _ (by omega) (by omega)).mono ?_; rintro e w' ⟨rfl, rfl⟩)
      go_roundw
      case rel => exact ⟨k + 1, by omega, by rw [HL.out]; go_num, by rw [HWS.out, HN.out], by rw [HWS.out, HN.out], by rw [HWS.out, HN.out], hb0⟩
      case measure => simp [intOf]; omega
    · have HN := Lib.hid (wStep_no (ps := ps) (st := (bst, sa, sb)) (l := l) (fun h => h.elim hz hc))
      clear hz
      go_wp2_with fail
      refine (l10Offset_any (l := l) (hr.below hb hh) hl (by have := hb.size; omega)).mono ?_
      rintro e w0 ⟨S, rfl, hS, B0⟩
      rw [hS H1.out]
      clear hS
      have hb0 := hb.trans (B0.mono hb.size)
      go_wp2_with (go_at_call 67; refine (l10Size_any _ _ (by omega) (by omega)).mono ?_; rintro e w' ⟨rfl, rfl⟩)
      go_roundw
      case rel => exact ⟨k + 1, by omega, by rw [HL.out]; go_num, by rw [HWS.out, HN.out], by rw [HWS.out, HN.out], by rw [HWS.out, HN.out], hb0⟩
      case measure => simp [intOf]; omega

end Go.Proofs.Ytiegnhpccbnhhaa
