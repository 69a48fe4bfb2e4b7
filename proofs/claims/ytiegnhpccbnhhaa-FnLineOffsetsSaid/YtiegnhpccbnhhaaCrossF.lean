/-
  This file proves contracts of NotTolerated and PassesTest, of the program and of the reference.
  Conditions: each contract's own hypotheses (that a slice reads as a list of crossings, that it is not too long).
-/
import Derived.Test.YtiegnhpccbnhhaaCrossE
namespace Go.Proofs.Ytiegnhpccbnhhaa
open Go.RowKit
set_option linter.unusedSimpArgs false
set_option linter.unusedVariables false

theorem row_below {w w' : World} {base : Nat} {e : TypeId} {size n : Nat} {v : Value} {xs : List Value} (h : w.ownsRow base e size v n xs) (hb : Below w.heap.size w w') : w'.ownsRow base e size v n xs := by
  obtain ⟨A, c, rfl, ho⟩ := Own.of_row h
  exact (ho.below hb (Nat.le_refl _)).1
theorem canTol_yes {ps : List GCrossing} {fx pc : Int} (h : canTol ps fx pc = true) : isCL ps = true ∧ (0 ≤ fx ∧ fx ≤ 1000000) ∧ (0 ≤ pc ∧ pc ≤ 100) := by
  unfold canTol at h
  rw [Bool.and_eq_true, Bool.and_eq_true] at h
  have h1 := inR_true.1 h.2.1
  have h2 := inR_true.1 h.2.2
  exact ⟨h.1, by omega, by omega⟩
theorem canTol_iff {ps : List GCrossing} {fx pc : Int} : canTol ps fx pc = true ↔ (isCL ps = true ∧ inR fx 0 500 = true ∧ inR pc 0 100 = true) := by
  unfold canTol
  rw [Bool.and_eq_true, Bool.and_eq_true]
theorem vNotTolerated_yes {ps : List GCrossing} {fx pc : Int} (h : canTol ps fx pc = true) : vNotTolerated ps fx pc = (gath (pNot ps fx pc) (fun i => (i : Int)) ps.length, true) := by
  unfold vNotTolerated
  rw [if_pos (canTol_iff.1 h)]
theorem vNotTolerated_no {ps : List GCrossing} {fx pc : Int} (h : canTol ps fx pc = false) : vNotTolerated ps fx pc = ([], false) := by
  unfold vNotTolerated
  rw [if_neg (fun h' => by rw [canTol_iff.2 h'] at h; cases h)]

set_option maxHeartbeats 2000000 in
theorem iNotTolerated {A : Option Addr} {c lo hi : Nat} {ps : List GCrossing} {fx pc : Int} {w : World} (hr : RdC w lo hi A ps) (hl : ps.length ≤ 2097152) (hh : hi ≤ w.heap.size) (hcap : ps.length ≤ c) :
    Calls Try.prog 28 #[.slice A ps.length c, .int .i64 fx, .int .i64 pc] w (RetLB (vNotTolerated ps fx pc).1 (vNotTolerated ps fx pc).2 w) := by
  by_cases h1 : canTol ps fx pc = true
  rotate_left
  · have h1' : canTol ps fx pc = false := by simpa using h1
    have HE := Lib.hid (vNotTolerated_no h1')
    clear h1
    go_enter Try.func28, Try.ntmps28
    go_wp2_with fail
    refine (canTolerate_any hr hl hh hcap).mono ?_
    rintro e w1 ⟨rfl, B1⟩
    rw [h1']
    go_wp2_with fail
    go_ret2
    rw [HE.out]
    exact retLB_nil _ _ _ B1
  have HE := Lib.hid (vNotTolerated_yes h1)
  have H1 := Lib.hid (canTol_yes h1)
  go_enter Try.func28, Try.ntmps28
  go_wp2_with fail
  refine (canTolerate_any hr hl hh hcap).mono ?_
  rintro e w1 ⟨rfl, B1⟩
  rw [h1]
  go_wp2_with fail
  refine (notTolerated_any (hr.below B1 hh) hl (by have := B1.size; omega) H1.out.1 H1.out.2.1 H1.out.2.2).mono ?_
  rintro e w2 ⟨A2, c2, rfl, O2, B2⟩
  have B3 := B1.trans (B2.mono B1.size)
  go_wp2_with fail
  go_ret2
  rw [HE.out]
  exact ⟨A2, c2, rfl, O2.more B1.size (Nat.le_refl _), B3⟩

set_option maxHeartbeats 2000000 in
set_option maxRecDepth 100000 in
theorem sNotTolerated {A : Option Addr} {c lo hi : Nat} {ps : List GCrossing} {fx pc : Int} {w : World} (hr : RdC w lo hi A ps) (hl : ps.length ≤ 2097152) (hh : hi ≤ w.heap.size) :
    Calls Try.prog 27 #[.slice A ps.length c, .int .i64 fx, .int .i64 pc] w (RetLB (vNotTolerated ps fx pc).1 (vNotTolerated ps fx pc).2 w) := by
  obtain ⟨i0, hi0, hz0, hz1, hz2⟩ := info_parts int_info
  by_cases h1 : canTol ps fx pc = true
  rotate_left
  · have h1' : canTol ps fx pc = false := by simpa using h1
    have HE := Lib.hid (vNotTolerated_no h1')
    clear h1
    go_enter Try.func27, Try.ntmps27
    go_wp2_with fail
    refine (l10Test_any (hr.below (below_alloc1 w _) hh) hl (by simp; omega)).mono ?_
    rintro e w1 ⟨rfl, B1⟩
    rw [h1']
    have B3 : Below w.heap.size w w1 := (below_alloc1 w _).trans (B1.mono (by simp))
    go_wp2_with fail
    go_ret2
    rw [HE.out]
    exact retLB_of (xs := []) (row_below (row_empty_at w _ _ (Nat.le_refl _)) B1) B3
  have HE := Lib.hid (vNotTolerated_yes h1)
  have H1 := Lib.hid (canTol_yes h1)
  have hfb := (canTol_yes h1).2.1
  have hpb := (canTol_yes h1).2.2
  go_enter Try.func27, Try.ntmps27
  go_wp2_with fail
  refine (l10Test_any (hr.below (below_alloc1 w _) hh) hl (by simp; omega)).mono ?_
  rintro e w1 ⟨rfl, B1⟩
  rw [h1]
  have B3 : Below w.heap.size w w1 := (below_alloc1 w _).trans (B1.mono (by simp))
  have O3 := row_below (row_empty_at w 3 1 (Nat.le_refl _)) B1
  clear h1
  go_wp2_with fail
  go_loopw [8, 9] (fun v i wr => ∃ k : Nat, k ≤ ps.length ∧ i = .int .i64 k ∧ wr.ownsRow w.heap.size 3 1 v (gath (pNot ps fx pc) (fun i => (i : Int)) k).length (ints (gath (pNot ps fx pc) (fun i => (i : Int)) k)) ∧ Below w.heap.size w wr) (fun _ i _ => ps.length - (intOf i).toNat)
  case atStart => exact ⟨0, Nat.zero_le _, rfl, O3, B3⟩
  case round =>
    obtain ⟨k, hk, rfl, hown, hb⟩ := hrel
    have hgl := gath_le (pNot ps fx pc) (fun i => (i : Int)) k
    by_cases hlt : k < ps.length
    rotate_left
    · obtain rfl : k = ps.length := by omega
      go_wp2_with fail
      go_ret2
      rw [HE.out]
      exact retLB_of hown hb
    obtain ⟨b, off, p, rfl, hblo, hbhi, hp, c0, c1, c2, c3⟩ := (hr.below hb hh).getCrossing hlt
    have HX := Lib.hid (isCL_get H1.out.1 hp)
    have HP := Lib.hid hp
    have q1 : (k : Int) < (ps.length : Int) := by omega
    have q2 : IntKind.i64.wrap (100 * fx) = 100 * fx := wr64 (by omega) (by omega)
    clear hp
    obtain ⟨ov, hov⟩ : ∃ ov, over p pc = ov := ⟨_, rfl⟩
    have HV := Lib.hid hov
    have HT := Lib.hid (show tol fx pc p = !decide (100 * fx < ov) from by rw [over_tol, hov])
    clear hov
    obtain ⟨A5, c5, rfl, O5⟩ := Own.of_row hown
    clear hown
    by_cases ht : 100 * fx < ov
    · have HQ := Lib.hid (pNot_is HP.out (show tol fx pc p = false from by rw [HT.out]; simp [ht]))
      go_wp2_with fail
      refine (l10Over_any p pc _ HX.out hpb).mono ?_
      rintro e w5 ⟨rfl, B5⟩
      rw [HV.out]
      have hb5 := hb.trans (B5.mono hb.size)
      have O7 := O5.below B5 (Nat.le_refl _)
      clear O5
      go_wp2_with (at_builtin; refine wpList_push _ rfl _ _ 41 rfl w.heap.size 3 i0 (.int .i64 0) 1 8 Try.underlying41 hi0 hz0 hz1 hz2 rfl (by decide) _ _ _ rfl O7.1 [.int .i64 ↑k] rfl (one_int _) rfl (by omega) (by decide) hb5.size ?_; intro v7 w7 hown7 hb7 hs7 _ _)
      go_roundw
      case rel => exact ⟨k + 1, by omega, by go_num, push_rel (gath_yes HQ.out rfl) hown7, hb7 _ hb5⟩
      case measure => simp [intOf]; omega
    · have HQ := Lib.hid (pNot_is HP.out (show tol fx pc p = true from by rw [HT.out]; simp [ht]))
      go_wp2_with fail
      refine (l10Over_any p pc _ HX.out hpb).mono ?_
      rintro e w5 ⟨rfl, B5⟩
      rw [HV.out]
      have hb5 := hb.trans (B5.mono hb.size)
      have O7 := O5.below B5 (Nat.le_refl _)
      clear O5
      go_wp2_with fail
      go_roundw
      case rel => exact ⟨k + 1, by omega, by go_num, by rw [gath_no HQ.out]; exact O7.1, hb5⟩
      case measure => simp [intOf]; omega

end Go.Proofs.Ytiegnhpccbnhhaa
