/-
  This file proves the contract of the function that marks a list of passes in place.
  Conditions: that the slice is a row of the call's own, that the marks are small.
-/
import Derived.Test.YtnljjocoloijfaaPassC
namespace Go.Proofs.Ytnljjocoloijfaa
open Go.RowKit
set_option linter.unusedSimpArgs false
set_option linter.unusedVariables false

theorem marks_6 (k : Int) (j : Nat) : ints (marks k ((j + 1) * 6)) = ints (marks k (j * 6)) ++ [.int .i64 (k + (j : Int) * 6), .int .i64 (k + (j : Int) * 6 + 1), .int .i64 (k + (j : Int) * 6 + 1 + 1), .int .i64 (k + (j : Int) * 6 + 1 + 1 + 1), .int .i64 (k + (j : Int) * 6 + 1 + 1 + 1 + 1), .int .i64 (k + (j : Int) * 6 + 1 + 1 + 1 + 1 + 1)] := by
  rw [show (j + 1) * 6 = j * 6 + 1 + 1 + 1 + 1 + 1 + 1 by omega]
  simp only [marks, ints, List.map_append, List.append_assoc, List.map_cons, List.map_nil, List.cons_append, List.nil_append, List.append_cancel_left_eq, List.cons.injEq, Value.int.injEq, true_and, and_true]
  omega
theorem mark_6 {zs : List Value} {k : Int} {j n : Nat} (hz : zs.length = (n - j) * 6) (hj : j < n) :
    ∃ zs' : List Value, ((((((ints (marks k (j * 6)) ++ zs).set (j * 6) (.int .i64 (k + (j : Int) * 6))).set (j * 6 + 1) (.int .i64 (k + (j : Int) * 6 + 1))).set (j * 6 + 2) (.int .i64 (k + (j : Int) * 6 + 1 + 1))).set (j * 6 + 3) (.int .i64 (k + (j : Int) * 6 + 1 + 1 + 1))).set (j * 6 + 4) (.int .i64 (k + (j : Int) * 6 + 1 + 1 + 1 + 1))).set (j * 6 + 5) (.int .i64 (k + (j : Int) * 6 + 1 + 1 + 1 + 1 + 1)) = ints (marks k ((j + 1) * 6)) ++ zs' ∧ zs'.length = (n - (j + 1)) * 6 := by
  have hX : (ints (marks k (j * 6))).length = j * 6 := by simp [ints, marks_length]
  obtain ⟨i, hi⟩ : ∃ i, n - j = i + 1 := ⟨n - j - 1, by omega⟩
  rw [hi] at hz
  match zs, hz with
  | z0 :: z1 :: z2 :: z3 :: z4 :: z5 :: R, hz =>
    refine ⟨R, ?_, by simp at hz; rw [show n - (j + 1) = i by omega]; omega⟩
    rw [set_6 hX, marks_6]
  | [], hz | [_], hz | [_, _], hz | [_, _, _], hz | [_, _, _, _], hz | [_, _, _, _, _], hz => exact absurd hz (by simp only [List.length_cons, List.length_nil]; omega)

set_option maxHeartbeats 2000000 in
set_option maxRecDepth 100000 in
theorem markPassS_any (A : Option Addr) (c lo hi : Nat) (ps : List GPass) (k : Int) (w : World) (ho : Own w 46 lo hi 6 A ps.length c (passCells ps)) (h0 : 0 ≤ k) (h1 : k ≤ 1000000000000) (hl : ps.length ≤ 1099511627776) :
    Calls Try.prog 26 #[.slice A ps.length c, .int .i64 k] w fun e w' => e = .returned (.int .i64 (k + (ps.length : Int) * 6)) ∧ Own w' 46 lo hi 6 A ps.length c (ints (marks k (ps.length * 6))) ∧ Only lo hi w w' ∧ w'.heap.size ≤ w.heap.size := by
  go_enter Try.func26, Try.ntmps26
  go_wp2_with fail
  go_loopw [1, 5] (fun t i wr => ∃ (j : Nat) (zs : List Value), j ≤ ps.length ∧ i = .int .i64 j ∧ t = .int .i64 (k + (j : Int) * 6) ∧ zs.length = (ps.length - j) * 6 ∧ Own wr 46 lo hi 6 A ps.length c (ints (marks k (j * 6)) ++ zs) ∧ Only lo hi w wr ∧ wr.heap.size = w.heap.size) (fun _ i _ => ps.length - (intOf i).toNat)
  case atStart => exact ⟨0, passCells ps, Nat.zero_le _, rfl, by simp, by rw [passCells_length]; rfl, by simpa [marks] using ho, Only.refl _ _ _, rfl⟩
  case round =>
    obtain ⟨j, zs, hj, rfl, rfl, hz, hown, honly, hsz⟩ := hrel
    have HZ := Lib.hid hsz
    have HL := Lib.hid hz
    clear hsz hz
    by_cases hlt : j < ps.length
    · obtain ⟨g, rfl, hg1, hg2⟩ := hown.length_pos (by omega)
      obtain ⟨u0, hu0⟩ : ∃ u, wr.cell? ⟨g, j * 6, none⟩ = some u := by
        have e1 := hown.1.cellAt (j * 6) (by omega)
        have e2 : j * 6 < (ints (marks k (j * 6)) ++ zs).length := by rw [hown.length]; omega
        exact ⟨_, e1.trans (List.getElem?_eq_getElem e2)⟩
      have hf0 : wr.frozen? ⟨g, j * 6, none⟩ = false := hown.frozen _
      obtain ⟨u1, hu1⟩ : ∃ u, wr.cell? ⟨g, j * 6 + 1, none⟩ = some u := by
        have e1 := hown.1.cellAt (j * 6 + 1) (by omega)
        have e2 : j * 6 + 1 < (ints (marks k (j * 6)) ++ zs).length := by rw [hown.length]; omega
        exact ⟨_, e1.trans (List.getElem?_eq_getElem e2)⟩
      have hf1 : wr.frozen? ⟨g, j * 6 + 1, none⟩ = false := hown.frozen _
      obtain ⟨u2, hu2⟩ : ∃ u, wr.cell? ⟨g, j * 6 + 2, none⟩ = some u := by
        have e1 := hown.1.cellAt (j * 6 + 2) (by omega)
        have e2 : j * 6 + 2 < (ints (marks k (j * 6)) ++ zs).length := by rw [hown.length]; omega
        exact ⟨_, e1.trans (List.getElem?_eq_getElem e2)⟩
      have hf2 : wr.frozen? ⟨g, j * 6 + 2, none⟩ = false := hown.frozen _
      obtain ⟨u3, hu3⟩ : ∃ u, wr.cell? ⟨g, j * 6 + 3, none⟩ = some u := by
        have e1 := hown.1.cellAt (j * 6 + 3) (by omega)
        have e2 : j * 6 + 3 < (ints (marks k (j * 6)) ++ zs).length := by rw [hown.length]; omega
        exact ⟨_, e1.trans (List.getElem?_eq_getElem e2)⟩
      have hf3 : wr.frozen? ⟨g, j * 6 + 3, none⟩ = false := hown.frozen _
      obtain ⟨u4, hu4⟩ : ∃ u, wr.cell? ⟨g, j * 6 + 4, none⟩ = some u := by
        have e1 := hown.1.cellAt (j * 6 + 4) (by omega)
        have e2 : j * 6 + 4 < (ints (marks k (j * 6)) ++ zs).length := by rw [hown.length]; omega
        exact ⟨_, e1.trans (List.getElem?_eq_getElem e2)⟩
      have hf4 : wr.frozen? ⟨g, j * 6 + 4, none⟩ = false := hown.frozen _
      obtain ⟨u5, hu5⟩ : ∃ u, wr.cell? ⟨g, j * 6 + 5, none⟩ = some u := by
        have e1 := hown.1.cellAt (j * 6 + 5) (by omega)
        have e2 : j * 6 + 5 < (ints (marks k (j * 6)) ++ zs).length := by rw [hown.length]; omega
        exact ⟨_, e1.trans (List.getElem?_eq_getElem e2)⟩
      have hf5 : wr.frozen? ⟨g, j * 6 + 5, none⟩ = false := hown.frozen _
      have w1 : IntKind.i64.wrap (k + (j : Int) * 6 + 1) = k + (j : Int) * 6 + 1 := wr64 (by omega) (by omega)
      have w2 : IntKind.i64.wrap (k + (j : Int) * 6 + 1 + 1) = k + (j : Int) * 6 + 1 + 1 := wr64 (by omega) (by omega)
      have w3 : IntKind.i64.wrap (k + (j : Int) * 6 + 1 + 1 + 1) = k + (j : Int) * 6 + 1 + 1 + 1 := wr64 (by omega) (by omega)
      have w4 : IntKind.i64.wrap (k + (j : Int) * 6 + 1 + 1 + 1 + 1) = k + (j : Int) * 6 + 1 + 1 + 1 + 1 := wr64 (by omega) (by omega)
      have w5 : IntKind.i64.wrap (k + (j : Int) * 6 + 1 + 1 + 1 + 1 + 1) = k + (j : Int) * 6 + 1 + 1 + 1 + 1 + 1 := wr64 (by omega) (by omega)
      have w6 : IntKind.i64.wrap (k + (j : Int) * 6 + 1 + 1 + 1 + 1 + 1 + 1) = k + (j : Int) * 6 + 1 + 1 + 1 + 1 + 1 + 1 := wr64 (by omega) (by omega)
      obtain ⟨zs', hs, hz'⟩ := mark_6 (k := k) HL.out hlt
      have hown' := ((((((hown.store (j * 6) (.int .i64 (k + (j : Int) * 6))).store (j * 6 + 1) (.int .i64 (k + (j : Int) * 6 + 1))).store (j * 6 + 2) (.int .i64 (k + (j : Int) * 6 + 1 + 1))).store (j * 6 + 3) (.int .i64 (k + (j : Int) * 6 + 1 + 1 + 1))).store (j * 6 + 4) (.int .i64 (k + (j : Int) * 6 + 1 + 1 + 1 + 1))).store (j * 6 + 5) (.int .i64 (k + (j : Int) * 6 + 1 + 1 + 1 + 1 + 1)))
      rw [hs] at hown'
      have HZ' := Lib.hid hz'
      clear hs hz' hown
      go_wp2_with fail
      go_roundw
      case rel => exact ⟨j + 1, zs', by omega, by go_num, by congr 1; omega, HZ'.out, hown', ((((((honly.setCell hg1 hg2 _).setCell hg1 hg2 _).setCell hg1 hg2 _).setCell hg1 hg2 _).setCell hg1 hg2 _).setCell hg1 hg2 _), by simpa [World.setCell] using HZ.out⟩
      case measure => simp [intOf]; omega
    · obtain rfl : j = ps.length := by omega
      go_wp2_with fail
      go_ret
      have hz0 : zs = [] := List.eq_nil_of_length_eq_zero (by rw [HL.out]; omega)
      rw [hz0, List.append_nil] at hown
      exact ⟨rfl, hown, honly, Nat.le_of_eq HZ.out⟩

end Go.Proofs.Ytnljjocoloijfaa
