/-
  This file proves contracts of the draws of the laws on passes.
  Conditions: that the code reads as a list of bytes, 65536 at most.
-/
import Derived.Test.YtaehfcdcdjlanaaPassH2
namespace Go.Proofs.Ytaehfcdcdjlanaa
open Go.RowKit
set_option linter.unusedSimpArgs false
set_option linter.unusedVariables false

def DrPQ (N : Nat) (w : World) (e : Ending) (w' : World) : Prop := ∃ (B : Option Addr) (d : Nat) (ps : List GPass) (q : GPass), e = .returned (.tuple #[.slice B ps.length d, q.val]) ∧ ps.length ≤ N ∧ Own w' 40 w.heap.size w'.heap.size 6 B ps.length d (passCells ps) ∧ Below w.heap.size w w'
theorem six_own {W : World} {lo hi n d r : Nat} {B : Option Addr} {cs : List Value} {x0 x1 x2 x3 x4 x5 : Value} (h : Own W 40 lo hi 6 B n d cs) (hr : r < lo) (hh : hi ≤ W.heap.size) :
    Own ((((((W.setCell ⟨r, 0, none⟩ x0).setCell ⟨r, 1, none⟩ x1).setCell ⟨r, 2, none⟩ x2).setCell ⟨r, 3, none⟩ x3).setCell ⟨r, 4, none⟩ x4).setCell ⟨r, 5, none⟩ x5) 40 lo hi 6 B n d cs :=
  h.only (lo' := r) (hi' := r + 1) (((((((Only.refl r (r + 1) W).setCell (p := ⟨r, 0, none⟩) (Nat.le_refl _) (Nat.lt_succ_self _) _).setCell (p := ⟨r, 1, none⟩) (Nat.le_refl _) (Nat.lt_succ_self _) _).setCell (p := ⟨r, 2, none⟩) (Nat.le_refl _) (Nat.lt_succ_self _) _).setCell (p := ⟨r, 3, none⟩) (Nat.le_refl _) (Nat.lt_succ_self _) _).setCell (p := ⟨r, 4, none⟩) (Nat.le_refl _) (Nat.lt_succ_self _) _).setCell (p := ⟨r, 5, none⟩) (Nat.le_refl _) (Nat.lt_succ_self _) _) (.inr (by omega)) hh

set_option maxHeartbeats 2000000 in
set_option maxRecDepth 100000 in
theorem drawPutPass_any {A : Option Addr} {c : Nat} {xs : List Int} {w : World} (hc : Code8 w A xs) :
    Calls Try.prog 42 #[.slice A xs.length c] w (DrPQ 13 w) := by
  have hz1 : (w.alloc (.cells #[.int .i64 0, .int .i64 0, .int .i64 0, .int .i64 0, .int .i64 0, .int .i64 0] 40)).heap.size = w.heap.size + 1 := by simp
  have C0 := Cur.new (c := c) (hc.below (below_alloc1 w (.cells #[.int .i64 0, .int .i64 0, .int .i64 0, .int .i64 0, .int .i64 0, .int .i64 0] 40))) 71
  have hb0 := (below_alloc1 w (.cells #[.int .i64 0, .int .i64 0, .int .i64 0, .int .i64 0, .int .i64 0, .int .i64 0] 40)).trans ((below_alloc1 (w.alloc (.cells #[.int .i64 0, .int .i64 0, .int .i64 0, .int .i64 0, .int .i64 0, .int .i64 0] 40)) (.cells #[.slice A xs.length c, .int .i64 0, .int .u64 0] 71)).mono (by omega))
  have R0' : Cells6 (w.alloc (.cells #[.int .i64 0, .int .i64 0, .int .i64 0, .int .i64 0, .int .i64 0, .int .i64 0] 40)) w.heap.size ⟨0, 0, 0, 0, 0, 0⟩ := Cells6.new w ⟨0, 0, 0, 0, 0, 0⟩ 40
  have R0 := R0'.keep ((below_alloc1 (w.alloc (.cells #[.int .i64 0, .int .i64 0, .int .i64 0, .int .i64 0, .int .i64 0, .int .i64 0] 40)) (.cells #[.slice A xs.length c, .int .i64 0, .int .u64 0] 71)).block _ R0'.lt)
  clear R0'
  rw [hz1] at C0
  have hgw := C0.lt
  clear hz1
  go_enter Try.func42, Try.ntmps42
  go_wp2_with fail
  generalize (w.alloc (.cells #[.int .i64 0, .int .i64 0, .int .i64 0, .int .i64 0, .int .i64 0, .int .i64 0] 40)).alloc (.cells #[.slice A xs.length c, .int .i64 0, .int .u64 0] 71) = wx at C0 hb0 hgw R0 ⊢
  have HNE := Lib.hid (show w.heap.size < w.heap.size + 1 from Nat.lt_succ_self _)
  refine (passes_any C0 (by omega)).mono ?_
  rintro e w1 ⟨B, d, ys, rfl, hl, U0⟩
  have R1 := R0.keep (U0.on.block _ R0.lt (.inl HNE.out))
  clear R0 C0
  have T1 := U0.alloc (.cells #[.int .i64 0, .int .i64 500, .int .i64 9000] 3)
  have I1 := rdI_new w1 3 [0, 500, 9000] #[.int .i64 0, .int .i64 500, .int .i64 9000] rfl
  go_wp2_with fail
  refine (among_any T1.cur (by omega) I1 (.inr (by have := U0.base; have := U0.hg; omega)) (by simp) (by decide) (by decide)).mono ?_
  rintro e w2 ⟨bg, hm, rfl, on2, c2, z2⟩
  have U1 := T1.step on2 c2
  have R2 := R1.keep ((((Only.refl (w.heap.size + 1) (w.heap.size + 1 + 1) w1).alloc (.cells #[.int .i64 0, .int .i64 500, .int .i64 9000] 3)).trans on2).block _ R1.lt (.inl HNE.out))
  clear T1 I1 on2 c2 z2 hm U0 R1
  by_cases h0 : ys.length = 0
  · have q1 : decide ((0 : Int) < (ys.length : Int)) = false := by rw [decide_eq_false_iff_not]; omega
    have q2 : ¬ (0 : Int) < (ys.length : Int) := by omega
    clear h0
    go_wp2_with fail
    refine (pass_any U1.cur (by omega)).mono ?_
    rintro e w9 ⟨q, rfl, on9, c9⟩
    have U9 := U1.step on9 c9
    have R9 := R2.keep (on9.block _ R2.lt (.inl HNE.out))
    obtain ⟨r0, r1, r2, r3, r4, r5, g0, g1, g2, g3, g4, g5⟩ := R9
    have BO := ((U9.on.below (by omega)).mono (Nat.le_of_lt HNE.out))
    have BX := Lib.hid (hb0.trans BO)
    have hrx : w.heap.size < wx.heap.size := by omega
    have HRX := Lib.hid hrx
    clear on9 c9 U1 R2 BO
    go_wp2_with fail
    refine bodyPost_ret (v := .tuple #[.slice B ys.length d, .agg #[.int .i64 q.ln, .int .i64 q.bg, .int .i64 q.en, .int .i64 q.pg, .int .i64 q.bd, .int .i64 q.cs]]) (by simp [results, Try.results42, go_sem, r0, r1, r2, r3, r4, r5]) rfl ?_
    refine ⟨B, d, ys, q, rfl, hl, ?_, ?_⟩
    · have h9 := six_own (x0 := .int .i64 q.ln) (x1 := .int .i64 q.bg) (x2 := .int .i64 q.en) (x3 := .int .i64 q.pg) (x4 := .int .i64 q.bd) (x5 := .int .i64 q.cs) U9.own HRX.out (Nat.le_refl _)
      exact h9.more (by omega) (by simp [World.setCell])
    · exact (((((BX.out.setCell (p := ⟨w.heap.size, 0, none⟩) (Nat.le_refl _) _).setCell (p := ⟨w.heap.size, 1, none⟩) (Nat.le_refl _) _).setCell (p := ⟨w.heap.size, 2, none⟩) (Nat.le_refl _) _).setCell (p := ⟨w.heap.size, 3, none⟩) (Nat.le_refl _) _).setCell (p := ⟨w.heap.size, 4, none⟩) (Nat.le_refl _) _).setCell (p := ⟨w.heap.size, 5, none⟩) (Nat.le_refl _) _
  have q1 : decide ((0 : Int) < (ys.length : Int)) = true := by rw [decide_eq_true_iff]; omega
  have q2 : (0 : Int) < (ys.length : Int) := by omega
  go_wp2_with fail
  refine (one_any U1.cur (by omega) (by omega) (by omega)).mono ?_
  rintro e w4 ⟨ov, rfl, on4, c4, z4⟩
  have U4 := U1.step on4 c4
  have R4 := R2.keep (on4.block _ R2.lt (.inl HNE.out))
  clear U1 R2 on4 c4 z4
  rcases ov with _ | _
  rotate_left
  · go_wp2_with fail
    refine (pass_any U4.cur (by omega)).mono ?_
    rintro e w9 ⟨q, rfl, on9, c9⟩
    have U9 := U4.step on9 c9
    have R9 := R4.keep (on9.block _ R4.lt (.inl HNE.out))
    obtain ⟨r0, r1, r2, r3, r4, r5, g0, g1, g2, g3, g4, g5⟩ := R9
    have BO := ((U9.on.below (by omega)).mono (Nat.le_of_lt HNE.out))
    have BX := Lib.hid (hb0.trans BO)
    have hrx : w.heap.size < wx.heap.size := by omega
    have HRX := Lib.hid hrx
    clear on9 c9 U4 R4 BO
    go_wp2_with fail
    refine bodyPost_ret (v := .tuple #[.slice B ys.length d, .agg #[.int .i64 q.ln, .int .i64 q.bg, .int .i64 q.en, .int .i64 q.pg, .int .i64 q.bd, .int .i64 q.cs]]) (by simp [results, Try.results42, go_sem, r0, r1, r2, r3, r4, r5]) rfl ?_
    refine ⟨B, d, ys, q, rfl, hl, ?_, ?_⟩
    · have h9 := six_own (x0 := .int .i64 q.ln) (x1 := .int .i64 q.bg) (x2 := .int .i64 q.en) (x3 := .int .i64 q.pg) (x4 := .int .i64 q.bd) (x5 := .int .i64 q.cs) U9.own HRX.out (Nat.le_refl _)
      exact h9.more (by omega) (by simp [World.setCell])
    · exact (((((BX.out.setCell (p := ⟨w.heap.size, 0, none⟩) (Nat.le_refl _) _).setCell (p := ⟨w.heap.size, 1, none⟩) (Nat.le_refl _) _).setCell (p := ⟨w.heap.size, 2, none⟩) (Nat.le_refl _) _).setCell (p := ⟨w.heap.size, 3, none⟩) (Nat.le_refl _) _).setCell (p := ⟨w.heap.size, 4, none⟩) (Nat.le_refl _) _).setCell (p := ⟨w.heap.size, 5, none⟩) (Nat.le_refl _) _
  go_wp2_with fail
  refine (pick_any U4.cur (by omega) (by omega) (by omega)).mono ?_
  rintro e w5 ⟨pv, rfl, h1, h2, on5, c5, z5⟩
  have U5 := U4.step on5 c5
  have R5 := R4.keep (on5.block _ R4.lt (.inl HNE.out))
  clear U4 R4 on5 c5 z5
  obtain ⟨j, rfl⟩ : ∃ j : Nat, pv = (j : Int) := ⟨pv.toNat, by omega⟩
  have hj : j < ys.length := by omega
  have q3 : (j : Int) < (ys.length : Int) := by omega
  have RD := U5.own.rd
  obtain ⟨b1, o1, p, rfl, _, _, hp, e0, e1, e2, e3, e4, e5⟩ := Rd.getp RD hj
  clear hp RD
  go_wp2_with fail
  refine (pass_any U5.cur (by omega)).mono ?_
  rintro e w9 ⟨q, rfl, on9, c9⟩
  have U9 := U5.step on9 c9
  have R9 := R5.keep (on9.block _ R5.lt (.inl HNE.out))
  obtain ⟨r0, r1, r2, r3, r4, r5, g0, g1, g2, g3, g4, g5⟩ := R9
  have BO := ((U9.on.below (by omega)).mono (Nat.le_of_lt HNE.out))
  have BX := Lib.hid (hb0.trans BO)
  have hrx : w.heap.size < wx.heap.size := by omega
  have HRX := Lib.hid hrx
  clear on9 c9 U5 R5 BO
  go_wp2_with fail
  refine bodyPost_ret (v := .tuple #[.slice (some ⟨b1, o1, none⟩) ys.length d, .agg #[.int .i64 q.ln, .int .i64 q.bg, .int .i64 q.en, .int .i64 q.pg, .int .i64 q.bd, .int .i64 q.cs]]) (by simp [results, Try.results42, go_sem, r0, r1, r2, r3, r4, r5]) rfl ?_
  refine ⟨(some ⟨b1, o1, none⟩), d, ys, q, rfl, hl, ?_, ?_⟩
  · have h9 := six_own (x0 := .int .i64 q.ln) (x1 := .int .i64 q.bg) (x2 := .int .i64 q.en) (x3 := .int .i64 q.pg) (x4 := .int .i64 q.bd) (x5 := .int .i64 q.cs) U9.own HRX.out (Nat.le_refl _)
    exact h9.more (by omega) (by simp [World.setCell])
  · exact (((((BX.out.setCell (p := ⟨w.heap.size, 0, none⟩) (Nat.le_refl _) _).setCell (p := ⟨w.heap.size, 1, none⟩) (Nat.le_refl _) _).setCell (p := ⟨w.heap.size, 2, none⟩) (Nat.le_refl _) _).setCell (p := ⟨w.heap.size, 3, none⟩) (Nat.le_refl _) _).setCell (p := ⟨w.heap.size, 4, none⟩) (Nat.le_refl _) _).setCell (p := ⟨w.heap.size, 5, none⟩) (Nat.le_refl _) _

end Go.Proofs.Ytaehfcdcdjlanaa
