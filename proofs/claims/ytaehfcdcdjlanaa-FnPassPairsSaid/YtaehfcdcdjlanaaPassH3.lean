/-
  This file proves contracts of the draws of the laws on passes.
  Conditions: that the code reads as a list of bytes, 65536 at most.
-/
import Derived.Test.YtaehfcdcdjlanaaPassH2
import Derived.Test.YtaehfcdcdjlanaaVotesB
namespace Go.Proofs.Ytaehfcdcdjlanaa
open Go.RowKit
set_option linter.unusedSimpArgs false
set_option linter.unusedVariables false

/-- One of the first n of some numbers. -/
theorem amongT {g b lo hi c n : Nat} {A : Option Addr} {xs : List Int} {w : World} (hc : Cur w g b) (hb : b ≤ 1000000) (hr : Rd w lo hi 1 A n (ints xs)) (hn : xs.length = n) (hd : hi ≤ g ∨ g + 1 ≤ lo) (hh : hi ≤ w.heap.size) (h1 : 1 ≤ n) (h2 : n ≤ 1000000) :
    Calls Try.prog 65 #[.pointer (some ⟨g, 0, none⟩), .slice A n c] w fun e w' => ∃ v : Int, e = .returned (.int .i64 v) ∧ Only g (g + 1) w w' ∧ Cur w' g (b + 2) := by
  subst hn
  refine (among_any hc (by omega) hr hd hh h1 h2).mono ?_
  rintro e w' ⟨v, _, rfl, on, cc, _⟩
  exact ⟨v, rfl, on, cc⟩

set_option maxHeartbeats 2000000 in
theorem line11_any {g b : Nat} {w : World} (hc : Cur w g b) (hb : b ≤ 900000) :
    Calls Try.prog 72 #[.pointer (some ⟨g, 0, none⟩)] w fun e w' => ∃ v : Int, e = .returned (.int .i64 v) ∧ Only g (g + 1) w w' ∧ Cur w' g (b + 4) := by
  have O0 := Only.refl g (g + 1) w
  go_enter Try.func72, Try.ntmps72
  have TC1 := hc.below (below_alloc1 w (.cells #[.int .i64 1, .int .i64 2, .int .i64 2, .int .i64 3, .int .i64 999, .int .i64 0, .int .i64 1000] 3)) hc.lt
  have TO1 := O0.alloc (.cells #[.int .i64 1, .int .i64 2, .int .i64 2, .int .i64 3, .int .i64 999, .int .i64 0, .int .i64 1000] 3)
  have TR1 := rdI_new w 3 [1, 2, 2, 3, 999, 0, 1000] #[.int .i64 1, .int .i64 2, .int .i64 2, .int .i64 3, .int .i64 999, .int .i64 0, .int .i64 1000] rfl
  have TL1 := hc.lt
  have TS1 : (w.alloc (.cells #[.int .i64 1, .int .i64 2, .int .i64 2, .int .i64 3, .int .i64 999, .int .i64 0, .int .i64 1000] 3)).heap.size = w.heap.size + 1 := by simp
  have HTS1 := Lib.hid TS1
  clear TS1
  go_wp2_with fail
  refine (pick_any TC1 (by omega) (by omega) (by omega)).mono ?_
  rintro e u1a ⟨pv1, rfl, h1_1, h2_1, on1, cc1, z1⟩
  have HZ1 := Lib.hid z1
  clear z1
  have PO1 := TO1.trans on1
  have PR1 := TR1.only on1 (.inr (by omega)) (by rw [HTS1.out]; omega)
  obtain ⟨j1, hj1⟩ : ∃ j : Nat, 5 + pv1 / 11 = (j : Int) := ⟨(5 + pv1 / 11).toNat, by omega⟩
  have hj1_1 : j1 ≤ 7 := by omega
  have hj0_1 : 1 ≤ j1 := by omega
  go_wp2_with fail
  refine (amongT cc1 (by omega) (Rd.take PR1 (show j1 ≤ [1, 2, 2, 3, 999, 0, 1000].length by simp; omega)) (by simp; omega) (.inr (by omega)) (by rw [HZ1.out, HTS1.out]; omega) (by omega) (by omega)).mono ?_
  rintro e u1 ⟨v, rfl, onb1, C1⟩
  have O1 := PO1.trans onb1
  clear TC1 TO1 TR1 on1 cc1 HZ1 PO1 PR1 onb1 HTS1 O0 hc
  go_wp2_with fail
  go_ret
  exact ⟨v, rfl, O1, C1.more (by omega)⟩

def DrP0 (N : Nat) (w : World) (e : Ending) (w' : World) : Prop := ∃ (B : Option Addr) (d : Nat) (ps : List GPass), e = .returned (.slice B ps.length d) ∧ ps.length ≤ N ∧ Own w' 40 w.heap.size w'.heap.size 6 B ps.length d (passCells ps) ∧ Below w.heap.size w w'
def DrP1 (N : Nat) (w : World) (e : Ending) (w' : World) : Prop := ∃ (B : Option Addr) (d : Nat) (ps : List GPass) (v0 : Int), e = .returned (.tuple #[.slice B ps.length d, .int .i64 v0]) ∧ ps.length ≤ N ∧ Own w' 40 w.heap.size w'.heap.size 6 B ps.length d (passCells ps) ∧ Below w.heap.size w w'
def DrP2 (N : Nat) (w : World) (e : Ending) (w' : World) : Prop := ∃ (B : Option Addr) (d : Nat) (ps : List GPass) (v0 v1 : Int), e = .returned (.tuple #[.slice B ps.length d, .int .i64 v0, .int .i64 v1]) ∧ ps.length ≤ N ∧ Own w' 40 w.heap.size w'.heap.size 6 B ps.length d (passCells ps) ∧ Below w.heap.size w w'
def DrPI (N L : Nat) (w : World) (e : Ending) (w' : World) : Prop := ∃ (B C : Option Addr) (d h : Nat) (ps : List GPass) (xs : List Int), e = .returned (.tuple #[.slice B ps.length d, .slice C xs.length h]) ∧ ps.length ≤ N ∧ xs.length ≤ L ∧ Own w' 40 w.heap.size w'.heap.size 6 B ps.length d (passCells ps) ∧ OwnI w' 3 w.heap.size w'.heap.size C h xs ∧ Below w.heap.size w w'

set_option maxHeartbeats 2000000 in
set_option maxRecDepth 100000 in
theorem drawArePasses_any {A : Option Addr} {c : Nat} {xs : List Int} {w : World} (hc : Code8 w A xs) :
    Calls Try.prog 78 #[.slice A xs.length c] w (DrP0 13 w) := by
  have C0 := Cur.new (c := c) hc 71
  have hb0 := below_alloc1 w (.cells #[.slice A xs.length c, .int .i64 0, .int .u64 0] 71)
  have hgw := C0.lt
  go_enter Try.func78, Try.ntmps78
  go_wp2_with fail
  generalize w.alloc (.cells #[.slice A xs.length c, .int .i64 0, .int .u64 0] 71) = wx at C0 hb0 hgw ⊢
  refine (passes_any C0 (by omega)).mono ?_
  rintro e w1 ⟨B, d, ys, rfl, hl, U0⟩
  go_wp2_with fail
  go_ret
  exact ⟨B, d, ys, rfl, hl, U0.own_out hb0.size, U0.out hb0⟩

set_option maxHeartbeats 2000000 in
set_option maxRecDepth 100000 in
theorem drawMinutesOn_any {A : Option Addr} {c : Nat} {xs : List Int} {w : World} (hc : Code8 w A xs) :
    Calls Try.prog 21 #[.slice A xs.length c] w (DrP1 13 w) := by
  have C0 := Cur.new (c := c) hc 71
  have hb0 := below_alloc1 w (.cells #[.slice A xs.length c, .int .i64 0, .int .u64 0] 71)
  have hgw := C0.lt
  go_enter Try.func21, Try.ntmps21
  go_wp2_with fail
  generalize w.alloc (.cells #[.slice A xs.length c, .int .i64 0, .int .u64 0] 71) = wx at C0 hb0 hgw ⊢
  refine (passes_any C0 (by omega)).mono ?_
  rintro e w1 ⟨B, d, ys, rfl, hl, U0⟩
  go_wp2_with fail
  refine (line11_any U0.cur (by omega)).mono ?_
  rintro e w2 ⟨v, rfl, on2, c2⟩
  have U1 := U0.step on2 c2
  go_wp2_with fail
  go_ret2
  exact ⟨B, d, ys, v, rfl, hl, U1.own_out hb0.size, U1.out hb0⟩

set_option maxHeartbeats 2000000 in
set_option maxRecDepth 100000 in
theorem drawLongestBreak_any {A : Option Addr} {c : Nat} {xs : List Int} {w : World} (hc : Code8 w A xs) :
    Calls Try.prog 39 #[.slice A xs.length c] w (DrP0 13 w) := by
  go_enter Try.func39, Try.ntmps39
  go_wp2_with fail
  refine (drawArePasses_any hc).mono ?_
  rintro e w1 ⟨B, d, ys, rfl, h⟩
  go_wp2_with fail
  go_ret
  exact ⟨B, d, ys, rfl, h⟩

set_option maxHeartbeats 2000000 in
set_option maxRecDepth 100000 in
theorem drawGoodShare_any {A : Option Addr} {c : Nat} {xs : List Int} {w : World} (hc : Code8 w A xs) :
    Calls Try.prog 45 #[.slice A xs.length c] w (DrP1 13 w) := by
  go_enter Try.func45, Try.ntmps45
  go_wp2_with fail
  refine (drawMinutesOn_any hc).mono ?_
  rintro e w1 ⟨B, d, ys, v, rfl, h⟩
  go_wp2_with fail
  go_ret2
  exact ⟨B, d, ys, v, rfl, h⟩

set_option maxHeartbeats 2000000 in
set_option maxRecDepth 100000 in
theorem drawOppositeOn_any {A : Option Addr} {c : Nat} {xs : List Int} {w : World} (hc : Code8 w A xs) :
    Calls Try.prog 37 #[.slice A xs.length c] w (DrP1 13 w) := by
  go_enter Try.func37, Try.ntmps37
  go_wp2_with fail
  refine (drawMinutesOn_any hc).mono ?_
  rintro e w1 ⟨B, d, ys, v, rfl, h⟩
  go_wp2_with fail
  go_ret2
  exact ⟨B, d, ys, v, rfl, h⟩

set_option maxHeartbeats 2000000 in
set_option maxRecDepth 100000 in
theorem drawBusyShare_any {A : Option Addr} {c : Nat} {xs : List Int} {w : World} (hc : Code8 w A xs) :
    Calls Try.prog 18 #[.slice A xs.length c] w (DrP2 13 w) := by
  have C0 := Cur.new (c := c) hc 71
  have hb0 := below_alloc1 w (.cells #[.slice A xs.length c, .int .i64 0, .int .u64 0] 71)
  have hgw := C0.lt
  go_enter Try.func18, Try.ntmps18
  go_wp2_with fail
  generalize w.alloc (.cells #[.slice A xs.length c, .int .i64 0, .int .u64 0] 71) = wx at C0 hb0 hgw ⊢
  refine (passes_any C0 (by omega)).mono ?_
  rintro e w1 ⟨B, d, ys, rfl, hl, U0⟩
  have C0' := U0.cur
  have O0 := Only.refl w.heap.size (w.heap.size + 1) w1
  have TC1 := C0'.below (below_alloc1 w1 (.cells #[.int .i64 0, .int .i64 0, .int .i64 5, .int .i64 100, .int .i64 110, .int .i64 9999, .int .i64 (-1), .int .i64 10000] 3)) C0'.lt
  have TO1 := O0.alloc (.cells #[.int .i64 0, .int .i64 0, .int .i64 5, .int .i64 100, .int .i64 110, .int .i64 9999, .int .i64 (-1), .int .i64 10000] 3)
  have TR1 := rdI_new w1 3 [0, 0, 5, 100, 110, 9999, -1, 10000] #[.int .i64 0, .int .i64 0, .int .i64 5, .int .i64 100, .int .i64 110, .int .i64 9999, .int .i64 (-1), .int .i64 10000] rfl
  have TL1 := C0'.lt
  have TS1 : (w1.alloc (.cells #[.int .i64 0, .int .i64 0, .int .i64 5, .int .i64 100, .int .i64 110, .int .i64 9999, .int .i64 (-1), .int .i64 10000] 3)).heap.size = w1.heap.size + 1 := by simp
  have HTS1 := Lib.hid TS1
  clear TS1
  go_wp2_with fail
  refine (pick_any TC1 (by omega) (by omega) (by omega)).mono ?_
  rintro e u1a ⟨pv1, rfl, h1_1, h2_1, on1, cc1, z1⟩
  have HZ1 := Lib.hid z1
  clear z1
  have PO1 := TO1.trans on1
  have PR1 := TR1.only on1 (.inr (by omega)) (by rw [HTS1.out]; omega)
  obtain ⟨j1, hj1⟩ : ∃ j : Nat, 6 + pv1 / 11 = (j : Int) := ⟨(6 + pv1 / 11).toNat, by omega⟩
  have hj1_1 : j1 ≤ 8 := by omega
  have hj0_1 : 1 ≤ j1 := by omega
  go_wp2_with fail
  refine (amongT cc1 (by omega) (Rd.take PR1 (show j1 ≤ [0, 0, 5, 100, 110, 9999, -1, 10000].length by simp; omega)) (by simp; omega) (.inr (by omega)) (by rw [HZ1.out, HTS1.out]; omega) (by omega) (by omega)).mono ?_
  rintro e u1 ⟨v, rfl, onb1, C1⟩
  have O1 := PO1.trans onb1
  clear TC1 TO1 TR1 on1 cc1 HZ1 PO1 PR1 onb1 HTS1 O0 C0'
  have TC2 := C1.below (below_alloc1 u1 (.cells #[.int .i64 1, .int .i64 20, .int .i64 130, .int .i64 10000, .int .i64 10000, .int .i64 0, .int .i64 10001] 3)) C1.lt
  have TO2 := O1.alloc (.cells #[.int .i64 1, .int .i64 20, .int .i64 130, .int .i64 10000, .int .i64 10000, .int .i64 0, .int .i64 10001] 3)
  have TR2 := rdI_new u1 3 [1, 20, 130, 10000, 10000, 0, 10001] #[.int .i64 1, .int .i64 20, .int .i64 130, .int .i64 10000, .int .i64 10000, .int .i64 0, .int .i64 10001] rfl
  have TL2 := C1.lt
  have TS2 : (u1.alloc (.cells #[.int .i64 1, .int .i64 20, .int .i64 130, .int .i64 10000, .int .i64 10000, .int .i64 0, .int .i64 10001] 3)).heap.size = u1.heap.size + 1 := by simp
  have HTS2 := Lib.hid TS2
  clear TS2
  go_wp2_with fail
  refine (pick_any TC2 (by omega) (by omega) (by omega)).mono ?_
  rintro e u2a ⟨pv2, rfl, h1_2, h2_2, on2, cc2, z2⟩
  have HZ2 := Lib.hid z2
  clear z2
  have PO2 := TO2.trans on2
  have PR2 := TR2.only on2 (.inr (by omega)) (by rw [HTS2.out]; omega)
  obtain ⟨j2, hj2⟩ : ∃ j : Nat, 5 + pv2 / 11 = (j : Int) := ⟨(5 + pv2 / 11).toNat, by omega⟩
  have hj1_2 : j2 ≤ 7 := by omega
  have hj0_2 : 1 ≤ j2 := by omega
  go_wp2_with fail
  refine (amongT cc2 (by omega) (Rd.take PR2 (show j2 ≤ [1, 20, 130, 10000, 10000, 0, 10001].length by simp; omega)) (by simp; omega) (.inr (by omega)) (by rw [HZ2.out, HTS2.out]; omega) (by omega) (by omega)).mono ?_
  rintro e u2 ⟨x, rfl, onb2, C2⟩
  have O2 := PO2.trans onb2
  clear TC2 TO2 TR2 on2 cc2 HZ2 PO2 PR2 onb2 HTS2 O1 C1
  have U1 := U0.step O2 C2
  go_wp2_with fail
  go_ret3
  exact ⟨B, d, ys, v, x, rfl, hl, U1.own_out hb0.size, U1.out hb0⟩

set_option maxHeartbeats 2000000 in
set_option maxRecDepth 100000 in
theorem drawLinesToRepeat_any {A : Option Addr} {c : Nat} {xs : List Int} {w : World} (hc : Code8 w A xs) :
    Calls Try.prog 9 #[.slice A xs.length c] w (DrPI 13 31 w) := by
  obtain ⟨i0, hi0, hz0, hz1, hz2⟩ := info_parts int_info
  have C0 := Cur.new (c := c) hc 71
  have hb0 := below_alloc1 w (.cells #[.slice A xs.length c, .int .i64 0, .int .u64 0] 71)
  have hgw := C0.lt
  go_enter Try.func9, Try.ntmps9
  go_wp2_with fail
  generalize w.alloc (.cells #[.slice A xs.length c, .int .i64 0, .int .u64 0] 71) = wx at C0 hb0 hgw ⊢
  refine (passes_any C0 (by omega)).mono ?_
  rintro e w1 ⟨B, d, ys, rfl, hl, U0⟩
  have S0 := St.nil 3 1 U0.cur
  have hsw1 : w.heap.size ≤ w1.heap.size := Nat.le_trans hb0.size U0.base
  have hg1 : w.heap.size < w1.heap.size := Nat.lt_of_lt_of_le U0.hg U0.base
  have hgN : w.heap.size ≤ w.heap.size := Nat.le_refl _
  go_wp2_with fail
  refine (pick_any S0.cur (by omega) (by omega) (by omega)).mono ?_
  rintro e w2 ⟨pn, rfl, h1_pn, h2_pn, on_S2, c_S2, z_S2⟩
  have S2 := S0.step on_S2 c_S2
  clear S0 z_S2 on_S2 c_S2
  obtain ⟨n, rfl⟩ : ∃ n : Nat, pn = (n : Int) := ⟨pn.toNat, by omega⟩
  go_wp2_with fail
  go_loopw [6, 7, 8] (fun v x i wr => ∃ (k : Nat) (K : Option Addr) (e : Nat) (F : List Int) (y : Int), i = .int .i64 k ∧ x = .int .i64 y ∧ v = .slice K F.length e ∧ F.length + k ≤ 5 ∧ St w1 wr w.heap.size (600 + 8 * F.length) 3 1 K F.length e (ints F)) (fun _ _ i _ => (intOf i).toNat)
  case atStart => exact ⟨n, _, _, [], 0, by go_num, rfl, rfl, by simp; omega, S2.more (by simp)⟩
  case round =>
    clear S2
    obtain ⟨k, K, e, F, y, rfl, rfl, rfl, hk, S3⟩ := hrel
    by_cases hk0 : 0 < k
    · have q1 : (0 : Int) < (k : Int) := by omega
      go_wp2_with fail
      refine (pick_any S3.cur (by omega) (by omega) (by omega)).mono ?_
      rintro e w4 ⟨p1, rfl, h1_p1, h2_p1, on_S4, c_S4, z_S4⟩
      have S4 := S3.step on_S4 c_S4
      clear S3 z_S4 on_S4 c_S4
      go_wp2_with fail
      refine (pick_any S4.cur (by omega) (by omega) (by omega)).mono ?_
      rintro e w5 ⟨p2, rfl, h1_p2, h2_p2, on_S5, c_S5, z_S5⟩
      have S5 := S4.step on_S5 c_S5
      clear S4 z_S5 on_S5 c_S5
      obtain ⟨k', rfl⟩ : ∃ k', k = k' + 1 := ⟨k - 1, by omega⟩
      go_wp2_with (at_builtin; refine wpList_push_at _ rfl _ _ 25 rfl w1.heap.size 3 i0 (.int .i64 0) 1 8 Try.underlying25 hi0 hz0 hz1 hz2 rfl (by decide) _ _ _ rfl S5.own.1 _ rfl (one_int _) _ rfl (by simp) (by omega) (by decide) S5.base ?_; intro v7 w7 hown7 hb7 hs7 _ _)
      obtain ⟨K', e', F', rfl, hF', S7⟩ := S5.pushI rfl hown7 hb7
      go_wp2_with fail
      go_roundw
      case rel => exact ⟨k', K', e', F', _, by go_num, rfl, rfl, by omega, S7.more (by omega)⟩
      case measure => first | (simp [intOf]; done) | (simp [intOf]; omega)
    obtain rfl : k = 0 := by omega
    have hFl : F.length ≤ 5 := by omega
    go_wp2_with fail
    refine (one_any S3.cur (by omega) (by omega) (by omega)).mono ?_
    rintro e w4 ⟨ov, rfl, on4, cc4, z4⟩
    have S4 := S3.step on4 cc4
    clear S3 on4 cc4 z4
    rcases ov with _ | _
    · go_wp2_with fail
      go_ret2
      exact ⟨B, _, d, _, ys, _, rfl, hl, by omega, (U0.own.only S4.on (.inr U0.hg) (Nat.le_refl _)).more hb0.size S4.on.size, S4.own.more (by omega) (Nat.le_refl _), (U0.out hb0).trans (S4.on.bel hg1 hgN)⟩
    have S6 := S4.renew
    go_wp2_with fail
    go_loopw [6, 9] (fun v i wr => ∃ (j : Nat) (K : Option Addr) (e : Nat) (F : List Int), i = .int .i64 j ∧ v = .slice K F.length e ∧ F.length = j ∧ j ≤ 31 ∧ St w1 wr w.heap.size (700 + 2 * j) 3 1 K F.length e (ints F)) (fun _ i _ => 32 - (intOf i).toNat)
    case atStart => exact ⟨0, _, _, [], rfl, rfl, rfl, by omega, S6.more (by omega)⟩
    case round =>
      clear S4 S6
      obtain ⟨j, K, e, F, rfl, rfl, hj, hj2, S5⟩ := hrel
      have HJ := Lib.hid hj
      have hj3 : F.length ≤ 31 := by omega
      clear hj
      go_wp2_with fail
      refine (pick_any S5.cur (by omega) (by omega) (by omega)).mono ?_
      rintro e w6 ⟨iv, rfl, h1_iv, h2_iv, on_S6, c_S6, z_S6⟩
      have S6 := S5.step on_S6 c_S6
      clear S5 z_S6 on_S6 c_S6
      by_cases hc2 : (j : Int) < 30 + iv
      · go_wp2_with (at_builtin; refine wpList_push_at _ rfl _ _ 25 rfl w1.heap.size 3 i0 (.int .i64 0) 1 8 Try.underlying25 hi0 hz0 hz1 hz2 rfl (by decide) _ _ _ rfl S6.own.1 _ rfl (one_int _) _ rfl (by simp) (by omega) (by decide) S6.base ?_; intro v7 w7 hown7 hb7 hs7 _ _)
        obtain ⟨K', e', F', rfl, hF', S7⟩ := S6.pushI rfl hown7 hb7
        go_wp2_with fail
        go_roundw
        case rel => exact ⟨j + 1, K', e', F', by go_num, rfl, by rw [hF', HJ.out], by omega, S7.more (by omega)⟩
        case measure => simp [intOf]; omega
      · go_wp2_with fail
        go_ret2
        exact ⟨B, _, d, _, ys, _, rfl, hl, by omega, (U0.own.only S6.on (.inr U0.hg) (Nat.le_refl _)).more hb0.size S6.on.size, S6.own.more (by omega) (Nat.le_refl _), (U0.out hb0).trans (S6.on.bel hg1 hgN)⟩

end Go.Proofs.Ytaehfcdcdjlanaa
