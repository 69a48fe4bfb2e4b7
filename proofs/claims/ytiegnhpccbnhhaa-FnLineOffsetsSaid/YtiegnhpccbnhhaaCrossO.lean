/-
  This file proves the contract of the function that draws crossings: a list of 20 crossings at most.
  Conditions: that the cursor lies in a block of the call's own, and has not been asked too often.
-/
import Derived.Test.YtiegnhpccbnhhaaCrossI
import Derived.Test.YtiegnhpccbnhhaaDraw
namespace Go.Proofs.Ytiegnhpccbnhhaa
open Go.RowKit
set_option linter.unusedSimpArgs false
set_option linter.unusedVariables false

/-- A list of crossings that a draw gives. -/
def DrawnC (g b : Nat) (w : World) (e : Ending) (w' : World) : Prop := ∃ (A : Option Addr) (c : Nat) (ps : List GCrossing), e = .returned (.slice A ps.length c) ∧ ps.length ≤ 20 ∧ St w w' g b 59 4 A ps.length c (cellsCrossing ps)
theorem cellsC_snoc (F : List GCrossing) (p : GCrossing) : cellsCrossing F ++ [.int .i64 p.ln, .int .i64 p.cr, .int .i64 p.mn, .int .i64 p.ck] = cellsCrossing (F ++ [p]) := by simp [cellsCrossing, GCrossing.cells]
theorem St.pushC {w wr w7 : World} {v7 : Value} {g b n c : Nat} {A : Option Addr} {F : List GCrossing} {x1 x2 x3 x4 : Int} (h : St w wr g b 59 4 A n c (cellsCrossing F)) (hn : n = F.length)
    (hown : w7.ownsRow w.heap.size 59 4 v7 (n + 1) (cellsCrossing F ++ [.int .i64 x1, .int .i64 x2, .int .i64 x3, .int .i64 x4])) (hb : ∀ w0, Below w.heap.size w0 wr → Below w.heap.size w0 w7) :
    ∃ A' c' F', v7 = .slice A' F'.length c' ∧ F'.length = n + 1 ∧ St w w7 g b 59 4 A' F'.length c' (cellsCrossing F') := by
  rw [cellsC_snoc F ⟨x1, x2, x3, x4⟩] at hown
  obtain ⟨A', c', hv, hs⟩ := h.push hown hb
  have e : (F ++ [(⟨x1, x2, x3, x4⟩ : GCrossing)]).length = n + 1 := by simp; omega
  exact ⟨A', c', F ++ [⟨x1, x2, x3, x4⟩], by rw [e]; exact hv, e, by rw [e]; exact hs⟩

set_option maxHeartbeats 4000000 in
set_option maxRecDepth 100000 in
theorem crossings_any {g b : Nat} {w : World} (hc : Cur w g b) (hb : b ≤ 1000000) :
    Calls Try.prog 70 #[.pointer (some ⟨g, 0, none⟩)] w (DrawnC g (b + 200) w) := by
  obtain ⟨i0, hi0, hz0, hz1, hz2⟩ := info_parts info_Crossing
  have S0 := St.nil 59 4 hc
  go_enter Try.func70, Try.ntmps70
  go_wp2_with fail
  go_loopw [3, 4] (fun v i wr => ∃ (k : Nat) (A : Option Addr) (c : Nat) (ps : List GCrossing), k ≤ 8 ∧ i = .int .i64 k ∧ v = .slice A ps.length c ∧ ps.length ≤ k ∧ St w wr g (b + 6 * k) 59 4 A ps.length c (cellsCrossing ps)) (fun _ i _ => 8 - (intOf i).toNat)
  case atStart => exact ⟨0, _, _, [], by omega, rfl, rfl, Nat.zero_le _, S0⟩
  case round =>
    obtain ⟨k, A, c, ps, hk, rfl, rfl, hl, hst⟩ := hrel
    by_cases hlt : k < 8
    · have q1 : (k : Int) < 8 := by omega
      go_wp2_with fail
      refine (one_any hst.cur (by omega) (by omega) (by omega)).mono ?_
      rintro e w1 ⟨bv, rfl, on1, c1, z1⟩
      have ST1 := hst.step on1 c1
      clear hst z1 on1 c1
      rcases bv with _ | _
      rotate_left
      · go_wp2_with fail
        go_roundw
        case rel => exact ⟨k + 1, A, c, ps, by omega, by go_num, rfl, by omega, ST1.more (by omega)⟩
        case measure => simp [intOf]; omega
      have ST2 := ST1.alloc (.cells #[.int .i64 0, .int .i64 300, .int .i64 800, .int .i64 1000, .int .i64 1500, .int .i64 (-20)] 3)
      have R2 := rdI_new w1 3 [0, 300, 800, 1000, 1500, -20] #[.int .i64 0, .int .i64 300, .int .i64 800, .int .i64 1000, .int .i64 1500, .int .i64 (-20)] rfl
      go_wp2_with fail
      refine (among_any ST2.cur (by omega) R2 (.inr (by have := ST1.base; have := ST1.hg; omega)) (by simp) (by decide) (by decide)).mono ?_
      rintro e w3 ⟨dp, _, rfl, on3, c3, z3⟩
      have ST3 := ST2.step on3 c3
      clear ST1 ST2 R2 z3 on3 c3
      have ST4 := ST3.alloc (.cells #[.int .i64 0, .int .i64 0, .int .i64 3, .int .i64 (-5), .int .i64 10, .int .i64 25, .int .i64 (-40), .int .i64 300] 3)
      have R4 := rdI_new w3 3 [0, 0, 3, -5, 10, 25, -40, 300] #[.int .i64 0, .int .i64 0, .int .i64 3, .int .i64 (-5), .int .i64 10, .int .i64 25, .int .i64 (-40), .int .i64 300] rfl
      go_wp2_with fail
      refine (among_any ST4.cur (by omega) R4 (.inr (by have := ST3.base; have := ST3.hg; omega)) (by simp) (by decide) (by decide)).mono ?_
      rintro e w5 ⟨df, _, rfl, on5, c5, z5⟩
      have HST := ST4.step on5 c5
      clear ST3 ST4 R4 z5 on5 c5
      go_wp2_with (at_builtin; refine wpList_push_at _ rfl _ _ 26 rfl w.heap.size 59 i0 (.agg #[.int .i64 0, .int .i64 0, .int .i64 0, .int .i64 0]) 4 32 Try.underlying26 hi0 hz0 hz1 hz2 rfl (by decide) _ _ _ rfl HST.own.1 _ rfl (one_cells ⟨_, _, _, _⟩) _ rfl (by simp) (by omega) (by decide) HST.base ?_; intro v7 w7 hown7 hb7 hs7 _ _)
      obtain ⟨A', c', F', rfl, hF', ST8⟩ := HST.pushC rfl hown7 hb7
      go_wp2_with fail
      go_roundw
      case rel => exact ⟨k + 1, A', c', F', by omega, by go_num, rfl, by omega, ST8.more (by omega)⟩
      case measure => simp [intOf]; omega
    obtain rfl : k = 8 := by omega
    go_wp2_with fail
    refine (pick_any hst.cur (by omega) (by omega) (by omega)).mono ?_
    rintro e w1 ⟨pv, rfl, p1, p2, on1, c1, z1⟩
    have ST1 := hst.step on1 c1
    clear hst z1 on1 c1
    by_cases hp0 : pv = 0
    · subst hp0
      have T1 := ST1.alloc (.cells #[.int .i64 0, .int .i64 1, .int .i64 99, .int .i64 100] 3)
      have R1 := rdI_new w1 3 [0, 1, 99, 100] #[.int .i64 0, .int .i64 1, .int .i64 99, .int .i64 100] rfl
      go_wp2_with fail
      refine (among_any T1.cur (by omega) R1 (.inr (by have := ST1.base; have := ST1.hg; omega)) (by simp) (by decide) (by decide)).mono ?_
      rintro e u1 ⟨a1, _, rfl, on1, cc1, z1⟩
      have U1 := T1.step on1 cc1
      clear ST1 T1 R1 z1 on1 cc1
      have T2 := U1.alloc (.cells #[.int .i64 0, .int .i64 10, .int .i64 99] 3)
      have R2 := rdI_new u1 3 [0, 10, 99] #[.int .i64 0, .int .i64 10, .int .i64 99] rfl
      go_wp2_with fail
      refine (among_any T2.cur (by omega) R2 (.inr (by have := U1.base; have := U1.hg; omega)) (by simp) (by decide) (by decide)).mono ?_
      rintro e u2 ⟨a2, _, rfl, on2, cc2, z2⟩
      have U2 := T2.step on2 cc2
      clear U1 T2 R2 z2 on2 cc2
      have T3 := U2.alloc (.cells #[.int .i64 (-1000), .int .i64 (-1001), .int .i64 20000, .int .i64 20001] 3)
      have R3 := rdI_new u2 3 [-1000, -1001, 20000, 20001] #[.int .i64 (-1000), .int .i64 (-1001), .int .i64 20000, .int .i64 20001] rfl
      go_wp2_with fail
      refine (among_any T3.cur (by omega) R3 (.inr (by have := U2.base; have := U2.hg; omega)) (by simp) (by decide) (by decide)).mono ?_
      rintro e u3 ⟨a3, _, rfl, on3, cc3, z3⟩
      have U3 := T3.step on3 cc3
      clear U2 T3 R3 z3 on3 cc3
      have HST := U3
      go_wp2_with (at_builtin; refine wpList_push_at _ rfl _ _ 26 rfl w.heap.size 59 i0 (.agg #[.int .i64 0, .int .i64 0, .int .i64 0, .int .i64 0]) 4 32 Try.underlying26 hi0 hz0 hz1 hz2 rfl (by decide) _ _ _ rfl HST.own.1 _ rfl (one_cells ⟨_, _, _, _⟩) _ rfl (by simp) (by omega) (by decide) HST.base ?_; intro v7 w7 hown7 hb7 hs7 _ _)
      obtain ⟨A', c', F', rfl, hF', ST8⟩ := HST.pushC rfl hown7 hb7
      go_wp2_with fail
      go_ret
      exact ⟨A', c', F', rfl, by omega, ST8.more (by omega)⟩
    by_cases hp1 : pv = 1
    · subst hp1
      go_wp2_with fail
      go_loopw [3] (fun v wr => ∃ (j : Nat) (A : Option Addr) (c : Nat) (qs : List GCrossing), v = .slice A qs.length c ∧ j ≤ qs.length ∧ (qs.length ≤ 11) ∧ St w wr g (b + 60 + 2 * j) 59 4 A qs.length c (cellsCrossing qs)) (fun v _ => match v with | .slice _ n _ => 12 - n | _ => 0)
      case atStart => exact ⟨0, A, c, ps, rfl, Nat.zero_le _, by omega, ST1.more (by omega)⟩
      case round =>
        obtain ⟨j, A, c, qs, rfl, hj, hq, hst⟩ := hrel
        go_wp2_with fail
        refine (pick_any hst.cur (by omega) (by omega) (by omega)).mono ?_
        rintro e w3 ⟨pv, rfl, p3, p4, on3, c3, z3⟩
        have HST := hst.step on3 c3
        clear hst z3 on3 c3
        by_cases hc2 : (qs.length : Int) < 10 + pv
        · go_wp2_with (at_builtin; refine wpList_push_at _ rfl _ _ 26 rfl w.heap.size 59 i0 (.agg #[.int .i64 0, .int .i64 0, .int .i64 0, .int .i64 0]) 4 32 Try.underlying26 hi0 hz0 hz1 hz2 rfl (by decide) _ _ _ rfl HST.own.1 _ rfl (one_cells ⟨_, _, _, _⟩) _ rfl (by simp) (by omega) (by decide) HST.base ?_; intro v7 w7 hown7 hb7 hs7 _ _)
          obtain ⟨A', c', F', rfl, hF', ST8⟩ := HST.pushC rfl hown7 hb7
          go_wp2_with fail
          go_roundw
          case rel => exact ⟨j + 1, A', c', F', rfl, by omega, by omega, ST8.more (by omega)⟩
          case measure => simp; omega
        · go_wp2_with fail
          go_ret
          exact ⟨A, c, qs, rfl, by omega, HST.more (by omega)⟩
    have n0 : (pv == 0) = false := by simpa using hp0
    have n1 : (pv == 1) = false := by simpa using hp1
    clear hp0 hp1
    go_wp2_with fail
    go_ret
    exact ⟨A, c, ps, rfl, by omega, ST1.more (by omega)⟩

end Go.Proofs.Ytiegnhpccbnhhaa
