/-
  This file proves contracts of the draws of the laws on crossings: they give lists of 20 crossings at most, and numbers.
  Conditions: that the code reads as a list of bytes, 65536 at most.
-/
import Derived.Test.YtiegnhpccbnhhaaCrossO
namespace Go.Proofs.Ytiegnhpccbnhhaa
open Go.RowKit
set_option linter.unusedSimpArgs false
set_option linter.unusedVariables false

/-- The code: a slice of bytes. -/
structure Code8 (w : World) (A : Option Addr) (xs : List Int) : Prop where
  rd : Rd w 0 w.heap.size 1 A xs.length (bytesV xs)
  by8 : ∀ x ∈ xs, 0 ≤ x ∧ x ≤ 255
  len : xs.length ≤ 65536
theorem Code8.below {w w' : World} {A : Option Addr} {xs : List Int} (h : Code8 w A xs) (hb : Below w.heap.size w w') : Code8 w' A xs :=
  ⟨(h.rd.below hb (Nat.le_refl _)).more (Nat.le_refl _) hb.size, h.by8, h.len⟩
/-- The cursor, just made. -/
theorem Cur.new {w : World} {A : Option Addr} {c : Nat} {xs : List Int} (h : Code8 w A xs) (t : TypeId) : Cur (w.alloc (.cells #[.slice A xs.length c, .int .i64 0, .int .u64 0] t)) w.heap.size 0 := by
  have e := heap_alloc_new w (.cells #[.slice A xs.length c, .int .i64 0, .int .u64 0] t)
  refine ⟨⟨A, c, xs, 0, 0, ?_, ?_, ?_, Nat.le_refl _, by decide, by decide, h.rd.below (below_alloc1 _ _) (Nat.le_refl _), h.by8, h.len⟩, ?_, ?_⟩
  · rw [cell_of_row _ _ _ _ _ (0, 0) e]; rfl
  · rw [cell_of_row _ _ _ _ _ (0, 0) e]; rfl
  · rw [cell_of_row _ _ _ _ _ (0, 0) e]; rfl
  · unfold World.frozen?; rw [e]; rfl
  · unfold World.frozen?; rw [e]; rfl
theorem St.out {w0 w wr : World} {b : Nat} {e : TypeId} {size : Nat} {A : Option Addr} {n c : Nat} {cs : List Value} (h : St w wr w0.heap.size b e size A n c cs) (hb : Below w0.heap.size w0 w) : Below w0.heap.size w0 wr := by
  have := h.hg
  exact ⟨h.on.os.trans hb.os, h.on.tape.trans hb.tape, h.on.output.trans hb.output, Nat.le_trans hb.size h.on.size, fun k hk => (h.on.block k (by omega) (.inl hk)).trans (hb.block k hk)⟩
theorem St.own_out {w0 w wr : World} {g b : Nat} {e : TypeId} {size : Nat} {A : Option Addr} {n c : Nat} {cs : List Value} (h : St w wr g b e size A n c cs) (hb : w0.heap.size ≤ w.heap.size) : Own wr e w0.heap.size wr.heap.size size A n c cs := h.own.more hb (Nat.le_refl _)

def DrC0 (w : World) (e : Ending) (w' : World) : Prop := ∃ (B : Option Addr) (d : Nat) (ps : List GCrossing), e = .returned (.slice B ps.length d) ∧ ps.length ≤ 20 ∧ Own w' 59 w.heap.size w'.heap.size 4 B ps.length d (cellsCrossing ps) ∧ Below w.heap.size w w'
def DrC1 (w : World) (e : Ending) (w' : World) : Prop := ∃ (B : Option Addr) (d : Nat) (ps : List GCrossing) (v0 : Int), e = .returned (.tuple #[.slice B ps.length d, .int .i64 v0]) ∧ ps.length ≤ 20 ∧ Own w' 59 w.heap.size w'.heap.size 4 B ps.length d (cellsCrossing ps) ∧ Below w.heap.size w w'
def DrC2 (w : World) (e : Ending) (w' : World) : Prop := ∃ (B : Option Addr) (d : Nat) (ps : List GCrossing) (v0 v1 : Int), e = .returned (.tuple #[.slice B ps.length d, .int .i64 v0, .int .i64 v1]) ∧ ps.length ≤ 20 ∧ Own w' 59 w.heap.size w'.heap.size 4 B ps.length d (cellsCrossing ps) ∧ Below w.heap.size w w'
def DrC3 (w : World) (e : Ending) (w' : World) : Prop := ∃ (B : Option Addr) (d : Nat) (ps : List GCrossing) (v0 v1 v2 : Int), e = .returned (.tuple #[.slice B ps.length d, .int .i64 v0, .int .i64 v1, .int .i64 v2]) ∧ ps.length ≤ 20 ∧ Own w' 59 w.heap.size w'.heap.size 4 B ps.length d (cellsCrossing ps) ∧ Below w.heap.size w w'

set_option maxHeartbeats 2000000 in
set_option maxRecDepth 100000 in
theorem drawAre_any {A : Option Addr} {c : Nat} {xs : List Int} {w : World} (hc : Code8 w A xs) :
    Calls Try.prog 74 #[.slice A xs.length c] w (DrC0 w) := by
  have C0 := Cur.new (c := c) hc 81
  have hb0 := below_alloc1 w (.cells #[.slice A xs.length c, .int .i64 0, .int .u64 0] 81)
  go_enter Try.func74, Try.ntmps74
  go_wp2_with fail
  generalize w.alloc (.cells #[.slice A xs.length c, .int .i64 0, .int .u64 0] 81) = wx at C0 hb0 ⊢
  refine (crossings_any C0 (by omega)).mono ?_
  rintro e w1 ⟨B, d, ps, rfl, hl, U0⟩
  go_wp2_with fail
  go_ret
  exact ⟨B, d, ps, rfl, hl, U0.own_out hb0.size, U0.out hb0⟩

set_option maxHeartbeats 2000000 in
set_option maxRecDepth 100000 in
theorem drawNot_any {A : Option Addr} {c : Nat} {xs : List Int} {w : World} (hc : Code8 w A xs) :
    Calls Try.prog 35 #[.slice A xs.length c] w (DrC2 w) := by
  have C0 := Cur.new (c := c) hc 81
  have hb0 := below_alloc1 w (.cells #[.slice A xs.length c, .int .i64 0, .int .u64 0] 81)
  go_enter Try.func35, Try.ntmps35
  go_wp2_with fail
  generalize w.alloc (.cells #[.slice A xs.length c, .int .i64 0, .int .u64 0] 81) = wx at C0 hb0 ⊢
  refine (crossings_any C0 (by omega)).mono ?_
  rintro e w1 ⟨B, d, ps, rfl, hl, U0⟩
  have T1 := U0.alloc (.cells #[.int .i64 0, .int .i64 3, .int .i64 5, .int .i64 10, .int .i64 500, .int .i64 501, .int .i64 (-1)] 3)
  have R1 := rdI_new w1 3 [0, 3, 5, 10, 500, 501, -1] #[.int .i64 0, .int .i64 3, .int .i64 5, .int .i64 10, .int .i64 500, .int .i64 501, .int .i64 (-1)] rfl
  go_wp2_with fail
  refine (among_any T1.cur (by omega) R1 (.inr (by have := U0.base; have := U0.hg; omega)) (by simp) (by decide) (by decide)).mono ?_
  rintro e u1 ⟨v1, _, rfl, on1, cc1, z1⟩
  have U1 := T1.step on1 cc1
  clear U0 T1 R1 z1 on1 cc1
  have T2 := U1.alloc (.cells #[.int .i64 0, .int .i64 1, .int .i64 2, .int .i64 10, .int .i64 100, .int .i64 101, .int .i64 (-1)] 3)
  have R2 := rdI_new u1 3 [0, 1, 2, 10, 100, 101, -1] #[.int .i64 0, .int .i64 1, .int .i64 2, .int .i64 10, .int .i64 100, .int .i64 101, .int .i64 (-1)] rfl
  go_wp2_with fail
  refine (among_any T2.cur (by omega) R2 (.inr (by have := U1.base; have := U1.hg; omega)) (by simp) (by decide) (by decide)).mono ?_
  rintro e u2 ⟨v2, _, rfl, on2, cc2, z2⟩
  have U2 := T2.step on2 cc2
  clear U1 T2 R2 z2 on2 cc2
  go_wp2_with fail
  go_ret3
  exact ⟨B, d, ps, v1, v2, rfl, hl, U2.own_out hb0.size, U2.out hb0⟩

set_option maxHeartbeats 2000000 in
set_option maxRecDepth 100000 in
theorem drawPasses_any {A : Option Addr} {c : Nat} {xs : List Int} {w : World} (hc : Code8 w A xs) :
    Calls Try.prog 41 #[.slice A xs.length c] w (DrC3 w) := by
  have C0 := Cur.new (c := c) hc 81
  have hb0 := below_alloc1 w (.cells #[.slice A xs.length c, .int .i64 0, .int .u64 0] 81)
  go_enter Try.func41, Try.ntmps41
  go_wp2_with fail
  generalize w.alloc (.cells #[.slice A xs.length c, .int .i64 0, .int .u64 0] 81) = wx at C0 hb0 ⊢
  refine (crossings_any C0 (by omega)).mono ?_
  rintro e w1 ⟨B, d, ps, rfl, hl, U0⟩
  have T1 := U0.alloc (.cells #[.int .i64 0, .int .i64 3, .int .i64 5, .int .i64 10, .int .i64 500, .int .i64 501] 3)
  have R1 := rdI_new w1 3 [0, 3, 5, 10, 500, 501] #[.int .i64 0, .int .i64 3, .int .i64 5, .int .i64 10, .int .i64 500, .int .i64 501] rfl
  go_wp2_with fail
  refine (among_any T1.cur (by omega) R1 (.inr (by have := U0.base; have := U0.hg; omega)) (by simp) (by decide) (by decide)).mono ?_
  rintro e u1 ⟨v1, _, rfl, on1, cc1, z1⟩
  have U1 := T1.step on1 cc1
  clear U0 T1 R1 z1 on1 cc1
  have T2 := U1.alloc (.cells #[.int .i64 0, .int .i64 1, .int .i64 2, .int .i64 10, .int .i64 100] 3)
  have R2 := rdI_new u1 3 [0, 1, 2, 10, 100] #[.int .i64 0, .int .i64 1, .int .i64 2, .int .i64 10, .int .i64 100] rfl
  go_wp2_with fail
  refine (among_any T2.cur (by omega) R2 (.inr (by have := U1.base; have := U1.hg; omega)) (by simp) (by decide) (by decide)).mono ?_
  rintro e u2 ⟨v2, _, rfl, on2, cc2, z2⟩
  have U2 := T2.step on2 cc2
  clear U1 T2 R2 z2 on2 cc2
  have T3 := U2.alloc (.cells #[.int .i64 0, .int .i64 50, .int .i64 66, .int .i64 75, .int .i64 95, .int .i64 100, .int .i64 101, .int .i64 (-1)] 3)
  have R3 := rdI_new u2 3 [0, 50, 66, 75, 95, 100, 101, -1] #[.int .i64 0, .int .i64 50, .int .i64 66, .int .i64 75, .int .i64 95, .int .i64 100, .int .i64 101, .int .i64 (-1)] rfl
  go_wp2_with fail
  refine (among_any T3.cur (by omega) R3 (.inr (by have := U2.base; have := U2.hg; omega)) (by simp) (by decide) (by decide)).mono ?_
  rintro e u3 ⟨v3, _, rfl, on3, cc3, z3⟩
  have U3 := T3.step on3 cc3
  clear U2 T3 R3 z3 on3 cc3
  go_wp2_with fail
  go_returns
  exact ⟨B, d, ps, v1, v2, v3, rfl, hl, U3.own_out hb0.size, U3.out hb0⟩

set_option maxHeartbeats 2000000 in
set_option maxRecDepth 100000 in
theorem drawSmall_any {A : Option Addr} {c : Nat} {xs : List Int} {w : World} (hc : Code8 w A xs) :
    Calls Try.prog 40 #[.slice A xs.length c] w (DrC1 w) := by
  have C0 := Cur.new (c := c) hc 81
  have hb0 := below_alloc1 w (.cells #[.slice A xs.length c, .int .i64 0, .int .u64 0] 81)
  go_enter Try.func40, Try.ntmps40
  go_wp2_with fail
  generalize w.alloc (.cells #[.slice A xs.length c, .int .i64 0, .int .u64 0] 81) = wx at C0 hb0 ⊢
  refine (crossings_any C0 (by omega)).mono ?_
  rintro e w1 ⟨B, d, ps, rfl, hl, U0⟩
  have T1 := U0.alloc (.cells #[.int .i64 0, .int .i64 1, .int .i64 2, .int .i64 10, .int .i64 100, .int .i64 101, .int .i64 (-1)] 3)
  have R1 := rdI_new w1 3 [0, 1, 2, 10, 100, 101, -1] #[.int .i64 0, .int .i64 1, .int .i64 2, .int .i64 10, .int .i64 100, .int .i64 101, .int .i64 (-1)] rfl
  go_wp2_with fail
  refine (among_any T1.cur (by omega) R1 (.inr (by have := U0.base; have := U0.hg; omega)) (by simp) (by decide) (by decide)).mono ?_
  rintro e u1 ⟨v1, _, rfl, on1, cc1, z1⟩
  have U1 := T1.step on1 cc1
  clear U0 T1 R1 z1 on1 cc1
  go_wp2_with fail
  go_ret2
  exact ⟨B, d, ps, v1, rfl, hl, U1.own_out hb0.size, U1.out hb0⟩

theorem drawGreatest_any {A : Option Addr} {c : Nat} {xs : List Int} {w : World} (hc : Code8 w A xs) :
    Calls Try.prog 42 #[.slice A xs.length c] w (DrC0 w) := by
  go_enter Try.func42, Try.ntmps42
  go_wp2_with fail
  refine (drawAre_any hc).mono ?_
  rintro e w1 ⟨B, d, ps, rfl, hl, O, hb⟩
  go_wp2_with fail
  go_ret
  exact ⟨B, d, ps, rfl, hl, O, hb⟩

theorem drawWorst_any {A : Option Addr} {c : Nat} {xs : List Int} {w : World} (hc : Code8 w A xs) :
    Calls Try.prog 47 #[.slice A xs.length c] w (DrC0 w) := by
  go_enter Try.func47, Try.ntmps47
  go_wp2_with fail
  refine (drawAre_any hc).mono ?_
  rintro e w1 ⟨B, d, ps, rfl, hl, O, hb⟩
  go_wp2_with fail
  go_ret
  exact ⟨B, d, ps, rfl, hl, O, hb⟩

theorem drawMean_any {A : Option Addr} {c : Nat} {xs : List Int} {w : World} (hc : Code8 w A xs) :
    Calls Try.prog 50 #[.slice A xs.length c] w (DrC0 w) := by
  go_enter Try.func50, Try.ntmps50
  go_wp2_with fail
  refine (drawAre_any hc).mono ?_
  rintro e w1 ⟨B, d, ps, rfl, hl, O, hb⟩
  go_wp2_with fail
  go_ret
  exact ⟨B, d, ps, rfl, hl, O, hb⟩

end Go.Proofs.Ytiegnhpccbnhhaa
