/-
  This file proves contracts of the draws of the laws on lines' offsets: they give lists of 20 crossings at most, and numbers.
  Conditions: that the code reads as a list of bytes, 65536 at most.
-/
import Derived.Test.YtiegnhpccbnhhaaCrossP
import Derived.Test.YtiegnhpccbnhhaaCrossJ
namespace Go.Proofs.Ytiegnhpccbnhhaa
open Go.RowKit
set_option linter.unusedSimpArgs false
set_option linter.unusedVariables false

set_option maxHeartbeats 1000000 in
set_option maxRecDepth 100000 in
theorem lineIn_any {w0 w : World} {g b n c : Nat} {A : Option Addr} {ps : List GCrossing} (h : St w0 w g b 59 4 A n c (cellsCrossing ps)) (hn : n = ps.length) (hl : ps.length ≤ 20) (hb : b ≤ 1000000) :
    Calls Try.prog 75 #[.pointer (some ⟨g, 0, none⟩), .slice A n c] w fun e w' => ∃ v : Int, e = .returned (.int .i64 v) ∧ St w0 w' g (b + 10) 59 4 A n c (cellsCrossing ps) := by
  subst hn
  by_cases h0 : 0 < ps.length
  rotate_left
  · have hz : ((ps.length : Int) == 0) = true := ne_len h0
    have T1 := h.alloc (.cells #[.int .i64 0, .int .i64 1, .int .i64 5, .int .i64 100] 3)
    have R1 := rdI_new w 3 [0, 1, 5, 100] #[.int .i64 0, .int .i64 1, .int .i64 5, .int .i64 100] rfl
    go_enter Try.func75, Try.ntmps75
    go_wp2_with fail
    refine (among_any T1.cur (by omega) R1 (.inr (by have := h.base; have := h.hg; omega)) (by simp) (by decide) (by decide)).mono ?_
    rintro e u1 ⟨v1, _, rfl, on1, cc1, z1⟩
    have U1 := T1.step on1 cc1
    clear z1
    go_wp2_with fail
    go_ret
    exact ⟨v1, rfl, U1.more (by omega)⟩
  have hz : ((ps.length : Int) == 0) = false := eq_len h0
  go_enter Try.func75, Try.ntmps75
  go_wp2_with fail
  refine (one_any h.cur (by omega) (by omega) (by omega)).mono ?_
  rintro e w1 ⟨bv, rfl, on1, c1, z1⟩
  have S1 := h.step on1 c1
  clear z1 on1 c1
  rcases bv with _ | _
  · go_wp2_with fail
    refine (pick_any S1.cur (by omega) (by omega) (by omega)).mono ?_
    rintro e w2 ⟨pv, rfl, p1, p2, on2, c2, z2⟩
    have S2 := S1.step on2 c2
    clear z2 on2 c2
    obtain ⟨j, rfl⟩ : ∃ j : Nat, pv = (j : Int) := ⟨pv.toNat, by omega⟩
    obtain ⟨b0, off, q, rfl, _, _, hq, k0, k1, k2, k3⟩ := Rd.getCrossing (ps := ps) S2.own.rd (show j < ps.length by omega)
    have q1 : (j : Int) < (ps.length : Int) := by omega
    have q2 : j < ps.length := by omega
    clear hq
    go_wp2_with fail
    go_ret
    exact ⟨q.ln, rfl, S2.more (by omega)⟩
  · have T1 := S1.alloc (.cells #[.int .i64 0, .int .i64 1, .int .i64 5, .int .i64 100] 3)
    have R1 := rdI_new w1 3 [0, 1, 5, 100] #[.int .i64 0, .int .i64 1, .int .i64 5, .int .i64 100] rfl
    go_wp2_with fail
    refine (among_any T1.cur (by omega) R1 (.inr (by have := S1.base; have := S1.hg; omega)) (by simp) (by decide) (by decide)).mono ?_
    rintro e u1 ⟨v1, _, rfl, on1, cc1, z1⟩
    have U1 := T1.step on1 cc1
    clear z1
    go_wp2_with fail
    go_ret
    exact ⟨v1, rfl, U1.more (by omega)⟩

set_option maxHeartbeats 2000000 in
set_option maxRecDepth 100000 in
theorem drawOffset_any {A : Option Addr} {c : Nat} {xs : List Int} {w : World} (hc : Code8 w A xs) :
    Calls Try.prog 46 #[.slice A xs.length c] w (DrC1 w) := by
  have C0 := Cur.new (c := c) hc 81
  have hb0 := below_alloc1 w (.cells #[.slice A xs.length c, .int .i64 0, .int .u64 0] 81)
  go_enter Try.func46, Try.ntmps46
  go_wp2_with fail
  generalize w.alloc (.cells #[.slice A xs.length c, .int .i64 0, .int .u64 0] 81) = wx at C0 hb0 ⊢
  refine (crossings_any C0 (by omega)).mono ?_
  rintro e w1 ⟨B, d, ps, rfl, hl, U0⟩
  go_wp2_with fail
  refine (lineIn_any U0 rfl hl (by omega)).mono ?_
  rintro e u0 ⟨v0, rfl, U1⟩
  clear U0
  go_wp2_with fail
  go_ret2
  exact ⟨B, d, ps, v0, rfl, hl, U1.own_out hb0.size, U1.out hb0⟩

set_option maxHeartbeats 2000000 in
set_option maxRecDepth 100000 in
theorem drawCorrect_any {A : Option Addr} {c : Nat} {xs : List Int} {w : World} (hc : Code8 w A xs) :
    Calls Try.prog 48 #[.slice A xs.length c] w (DrC2 w) := by
  have C0 := Cur.new (c := c) hc 81
  have hb0 := below_alloc1 w (.cells #[.slice A xs.length c, .int .i64 0, .int .u64 0] 81)
  go_enter Try.func48, Try.ntmps48
  go_wp2_with fail
  generalize w.alloc (.cells #[.slice A xs.length c, .int .i64 0, .int .u64 0] 81) = wx at C0 hb0 ⊢
  refine (crossings_any C0 (by omega)).mono ?_
  rintro e w1 ⟨B, d, ps, rfl, hl, U0⟩
  go_wp2_with fail
  refine (lineIn_any U0 rfl hl (by omega)).mono ?_
  rintro e u0 ⟨v0, rfl, U1⟩
  clear U0
  have T1 := U1.alloc (.cells #[.int .i64 0, .int .i64 5, .int .i64 (-10), .int .i64 500, .int .i64 19500, .int .i64 30001] 3)
  have R1 := rdI_new u0 3 [0, 5, -10, 500, 19500, 30001] #[.int .i64 0, .int .i64 5, .int .i64 (-10), .int .i64 500, .int .i64 19500, .int .i64 30001] rfl
  go_wp2_with fail
  refine (among_any T1.cur (by omega) R1 (.inr (by have := U1.base; have := U1.hg; omega)) (by simp) (by decide) (by decide)).mono ?_
  rintro e u1 ⟨v1, _, rfl, on1, cc1, z1⟩
  have U2 := T1.step on1 cc1
  clear z1 U1 T1 R1
  go_wp2_with fail
  go_ret3
  exact ⟨B, d, ps, v0, v1, rfl, hl, U2.own_out hb0.size, U2.out hb0⟩

end Go.Proofs.Ytiegnhpccbnhhaa
