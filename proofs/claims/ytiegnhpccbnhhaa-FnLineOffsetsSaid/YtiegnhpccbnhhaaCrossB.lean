/-
  This file proves the plain facts on crossings' differences that the contracts of the tests on crossings use.
  Conditions: none.
-/
import Derived.Test.YtiegnhpccbnhhaaCrossA
namespace Go.Proofs.Ytiegnhpccbnhhaa
open Go.RowKit
set_option linter.unusedSimpArgs false
set_option linter.unusedVariables false

theorem isCL_len {ps : List GCrossing} (h : isCL ps = true) : ps.length ≤ 10 := by
  unfold isCL at h
  rw [Bool.and_eq_true] at h
  simpa using h.2
theorem isCL_get {ps : List GCrossing} {k : Nat} {p : GCrossing} (h : isCL ps = true) (hp : ps[k]? = some p) : isCx p = true := by
  unfold isCL at h
  rw [Bool.and_eq_true, List.all_eq_true] at h
  have hk : k < ps.length := (List.getElem?_eq_some_iff.1 hp).1
  have := h.1 k (List.mem_range.2 hk)
  unfold cOk at this
  rw [Bool.and_eq_true, gC_of hp] at this
  exact this.1
theorem isCx_bound {p : GCrossing} (h : isCx p = true) : (1 ≤ p.ln ∧ p.ln ≤ 99) ∧ (1 ≤ p.cr ∧ p.cr ≤ 99) ∧ (-1000 ≤ p.mn ∧ p.mn ≤ 20000) ∧ (-1000 ≤ p.ck ∧ p.ck ≤ 20000) := by
  simp only [isCx, Bool.and_eq_true, inR_true] at h
  omega
/-- Is the difference of a crossing tolerated? -/
def tol (fx pc : Int) (p : GCrossing) : Bool := decide (100 * absI (p.ck - p.mn) ≤ 100 * fx + pc * max p.mn 0)
def pNot (ps : List GCrossing) (fx pc : Int) (i : Nat) : Bool := !tol fx pc (gC ps i)
def vNotTolerated (ps : List GCrossing) (fx pc : Int) : List Int × Bool :=
  if isCL ps = true ∧ inR fx 0 500 = true ∧ inR pc 0 100 = true then (gath (pNot ps fx pc) (fun i => (i : Int)) ps.length, true) else ([], false)
theorem vNotTolerated_len0 (ps : List GCrossing) (fx pc : Int) : (vNotTolerated ps fx pc).1.length ≤ ps.length := by
  unfold vNotTolerated
  split
  · exact gath_le _ _ _
  · simp

set_option maxHeartbeats 2000000 in
theorem isTolerated_any (p : GCrossing) (fx pc : Int) (w : World) (hp : isCx p = true) (h1 : 0 ≤ fx ∧ fx ≤ 1000000) (h2 : 0 ≤ pc ∧ pc ≤ 100) :
    Calls Try.prog 57 #[.agg #[.int .i64 p.ln, .int .i64 p.cr, .int .i64 p.mn, .int .i64 p.ck], .int .i64 fx, .int .i64 pc] w (RetB (tol fx pc p) w) := by
  have hb := isCx_bound hp
  have ha := absI_nonneg (p.ck - p.mn)
  have ha' := absI_le (n := p.ck - p.mn) (b := 21000) (by omega) (by omega)
  have m1 : 0 ≤ pc * max p.mn 0 := Int.mul_nonneg h2.1 (by omega)
  have m2 : pc * max p.mn 0 ≤ 100 * 20000 := Int.mul_le_mul h2.2 (by omega) (by omega) (by omega)
  have HE := Lib.hid (show tol fx pc p = decide (100 * absI (p.ck - p.mn) ≤ 100 * fx + pc * max p.mn 0) from rfl)
  have q1 : IntKind.i64.wrap (p.ck - p.mn) = p.ck - p.mn := wr64 (by omega) (by omega)
  have q2 : IntKind.i64.wrap (100 * absI (p.ck - p.mn)) = 100 * absI (p.ck - p.mn) := wr64 (by omega) (by omega)
  have q3 : IntKind.i64.wrap (100 * fx) = 100 * fx := wr64 (by omega) (by omega)
  have q4 : IntKind.i64.wrap (pc * max p.mn 0) = pc * max p.mn 0 := wr64 (by omega) (by omega)
  have q5 : IntKind.i64.wrap (100 * fx + pc * max p.mn 0) = 100 * fx + pc * max p.mn 0 := wr64 (by omega) (by omega)
  by_cases hng : p.mn < 0
  · have hx : max p.mn 0 = 0 := by omega
    go_enter Try.func57, Try.ntmps57
    go_wp2_with fail
    have D := Crossing_cells p w 59
    have hbx := below_alloc1 w (.cells #[.int .i64 p.ln, .int .i64 p.cr, .int .i64 p.mn, .int .i64 p.ck] 59)
    generalize w.alloc (.cells #[.int .i64 p.ln, .int .i64 p.cr, .int .i64 p.mn, .int .i64 p.ck] 59) = wx at D hbx ⊢
    obtain ⟨d0, d1, d2, d3⟩ := D
    go_quiet ((go_at_call 68; exact quiet_left (absOf_any _ _ (by omega) (by omega))))
    go_wp2_with fail
    go_ret
    rw [HE.out, hx, Int.mul_zero, Int.add_zero]
    have z0 : wrap64 0 = 0 := IntWalk.wrap64_in 0 ⟨by omega, by omega⟩
    have z1 : wrap64 (100 * fx + wrap64 0) = 100 * fx := by rw [z0, Int.add_zero]; exact IntWalk.wrap64_in _ ⟨by omega, by omega⟩
    exact ⟨ret_bool (by rw [Bool.eq_iff_iff, decide_eq_true_eq, decide_eq_true_eq]; omega), below_drewN hbx _⟩
  have hx : max p.mn 0 = p.mn := by omega
  rw [hx] at m1 m2 q4 q5 HE
  go_enter Try.func57, Try.ntmps57
  go_wp2_with fail
  have D := Crossing_cells p w 59
  have hbx := below_alloc1 w (.cells #[.int .i64 p.ln, .int .i64 p.cr, .int .i64 p.mn, .int .i64 p.ck] 59)
  generalize w.alloc (.cells #[.int .i64 p.ln, .int .i64 p.cr, .int .i64 p.mn, .int .i64 p.ck] 59) = wx at D hbx ⊢
  obtain ⟨d0, d1, d2, d3⟩ := D
  go_quiet ((go_at_call 68; exact quiet_left (absOf_any _ _ (by omega) (by omega))))
  go_wp2_with fail
  go_ret
  rw [HE.out]
  exact ⟨rfl, below_drewN hbx _⟩

end Go.Proofs.Ytiegnhpccbnhhaa
