/-
  This file proves contracts of the draws of the laws on tracks.
  Conditions: that the code reads as a list of bytes, 65536 at most.
-/
import Derived.Test.YtchgcpdmomeofaaTrackJ
import Derived.Test.YtchgcpdmomeofaaCode
namespace Go.Proofs.Ytchgcpdmomeofaa
open Go.RowKit
set_option linter.unusedSimpArgs false
set_option linter.unusedVariables false

def DrI0 (N : Nat) (w : World) (e : Ending) (w' : World) : Prop := ∃ (B : Option Addr) (d : Nat) (xs : List Int), e = .returned (.slice B xs.length d) ∧ xs.length ≤ N ∧ OwnI w' 3 w.heap.size w'.heap.size B d xs ∧ Below w.heap.size w w'
def DrI1 (N : Nat) (w : World) (e : Ending) (w' : World) : Prop := ∃ (B : Option Addr) (d : Nat) (xs : List Int) (v0 : Int), e = .returned (.tuple #[.slice B xs.length d, .int .i64 v0]) ∧ xs.length ≤ N ∧ OwnI w' 3 w.heap.size w'.heap.size B d xs ∧ Below w.heap.size w w'
def DrII (N : Nat) (w : World) (e : Ending) (w' : World) : Prop := ∃ (B C : Option Addr) (d h : Nat) (xs ys : List Int), e = .returned (.tuple #[.slice B xs.length d, .slice C ys.length h]) ∧ xs.length ≤ N ∧ ys.length ≤ N + 1 ∧ OwnI w' 3 w.heap.size w'.heap.size B d xs ∧ OwnI w' 3 w.heap.size w'.heap.size C h ys ∧ Below w.heap.size w w'

set_option maxHeartbeats 1000000 in
set_option maxRecDepth 100000 in
theorem drawIsTrack_any {A : Option Addr} {c : Nat} {xs : List Int} {w : World} (hc : Code8 w A xs) :
    Calls Try.prog 56 #[.slice A xs.length c] w (DrI0 31 w) := by
  have C0 := Cur.new (c := c) hc 50
  have hb0 := below_alloc1 w (.cells #[.slice A xs.length c, .int .i64 0, .int .u64 0] 50)
  have hgw := C0.lt
  go_enter Try.func56, Try.ntmps56
  go_wp2_with fail
  generalize w.alloc (.cells #[.slice A xs.length c, .int .i64 0, .int .u64 0] 50) = wx at C0 hb0 hgw ⊢
  refine (track_any C0 (by omega)).mono ?_
  rintro e w1 ⟨B, d, ys, rfl, hl2, hl, U0⟩
  go_wp2_with fail
  go_ret
  exact ⟨B, d, ys, rfl, hl, U0.own_out hb0.size, U0.out hb0⟩

set_option maxHeartbeats 1000000 in
set_option maxRecDepth 100000 in
theorem drawSpikesIn_any {A : Option Addr} {c : Nat} {xs : List Int} {w : World} (hc : Code8 w A xs) :
    Calls Try.prog 6 #[.slice A xs.length c] w (DrI1 31 w) := by
  have C0 := Cur.new (c := c) hc 50
  have hb0 := below_alloc1 w (.cells #[.slice A xs.length c, .int .i64 0, .int .u64 0] 50)
  have hgw := C0.lt
  go_enter Try.func6, Try.ntmps6
  go_wp2_with fail
  generalize w.alloc (.cells #[.slice A xs.length c, .int .i64 0, .int .u64 0] 50) = wx at C0 hb0 hgw ⊢
  refine (track_any C0 (by omega)).mono ?_
  rintro e w1 ⟨B, d, ys, rfl, hl2, hl, U0⟩
  go_wp2_with fail
  refine (limit12_any U0.cur (by omega)).mono ?_
  rintro e w2 ⟨v, rfl, on2, c2, z2⟩
  have U1 := U0.step on2 c2
  go_wp2_with fail
  go_ret2
  exact ⟨B, d, ys, v, rfl, hl, U1.own_out hb0.size, U1.out hb0⟩

set_option maxHeartbeats 1000000 in
set_option maxRecDepth 100000 in
theorem drawShoalFilter_any {A : Option Addr} {c : Nat} {xs : List Int} {w : World} (hc : Code8 w A xs) :
    Calls Try.prog 25 #[.slice A xs.length c] w (DrI1 31 w) := by
  have C0 := Cur.new (c := c) hc 50
  have hb0 := below_alloc1 w (.cells #[.slice A xs.length c, .int .i64 0, .int .u64 0] 50)
  have hgw := C0.lt
  go_enter Try.func25, Try.ntmps25
  go_wp2_with fail
  generalize w.alloc (.cells #[.slice A xs.length c, .int .i64 0, .int .u64 0] 50) = wx at C0 hb0 hgw ⊢
  refine (track_any C0 (by omega)).mono ?_
  rintro e w1 ⟨B, d, ys, rfl, hl2, hl, U0⟩
  have T_U1 := U0.alloc (.cells #[.int .i64 0, .int .i64 1, .int .i64 2, .int .i64 3, .int .i64 10, .int .i64 11, .int .i64 (-1)] 3)
  have R_U1 := rdI_new w1 3 [0, 1, 2, 3, 10, 11, -1] #[.int .i64 0, .int .i64 1, .int .i64 2, .int .i64 3, .int .i64 10, .int .i64 11, .int .i64 (-1)] rfl
  go_wp2_with fail
  refine (among_any T_U1.cur (by omega) R_U1 (.inr (by have := U0.base; have := U0.hg; first | omega | (simp; omega))) (by simp) (by decide) (by decide)).mono ?_
  rintro e w2 ⟨v, hm_v, rfl, on_U1, cc_U1, z_U1⟩
  have hr_v : -1 ≤ v ∧ v ≤ 11 := by simp at hm_v; omega
  have U1 := T_U1.step on_U1 cc_U1
  clear T_U1 R_U1 z_U1 on_U1 cc_U1 hm_v
  go_wp2_with fail
  go_ret2
  exact ⟨B, d, ys, v, rfl, hl, U1.own_out hb0.size, U1.out hb0⟩

set_option maxHeartbeats 1000000 in
set_option maxRecDepth 100000 in
theorem drawMedianFilter_any {A : Option Addr} {c : Nat} {xs : List Int} {w : World} (hc : Code8 w A xs) :
    Calls Try.prog 22 #[.slice A xs.length c] w (DrI0 31 w) := by
  go_enter Try.func22, Try.ntmps22
  go_wp2_with fail
  refine (drawIsTrack_any hc).mono ?_
  rintro e w1 ⟨B, d, ys, rfl, h⟩
  go_wp2_with fail
  go_ret
  exact ⟨B, d, ys, rfl, h⟩

set_option maxHeartbeats 1000000 in
set_option maxRecDepth 100000 in
theorem drawRoughnessOf_any {A : Option Addr} {c : Nat} {xs : List Int} {w : World} (hc : Code8 w A xs) :
    Calls Try.prog 28 #[.slice A xs.length c] w (DrI0 31 w) := by
  go_enter Try.func28, Try.ntmps28
  go_wp2_with fail
  refine (drawIsTrack_any hc).mono ?_
  rintro e w1 ⟨B, d, ys, rfl, h⟩
  go_wp2_with fail
  go_ret
  exact ⟨B, d, ys, rfl, h⟩

set_option maxHeartbeats 1000000 in
set_option maxRecDepth 100000 in
theorem drawFlattened_any {A : Option Addr} {c : Nat} {xs : List Int} {w : World} (hc : Code8 w A xs) :
    Calls Try.prog 17 #[.slice A xs.length c] w (DrI1 31 w) := by
  go_enter Try.func17, Try.ntmps17
  go_wp2_with fail
  refine (drawSpikesIn_any hc).mono ?_
  rintro e w1 ⟨B, d, ys, v, rfl, h⟩
  go_wp2_with fail
  go_ret2
  exact ⟨B, d, ys, v, rfl, h⟩

set_option maxHeartbeats 1000000 in
set_option maxRecDepth 100000 in
theorem drawLongestSmooth_any {A : Option Addr} {c : Nat} {xs : List Int} {w : World} (hc : Code8 w A xs) :
    Calls Try.prog 31 #[.slice A xs.length c] w (DrI1 31 w) := by
  go_enter Try.func31, Try.ntmps31
  go_wp2_with fail
  refine (drawSpikesIn_any hc).mono ?_
  rintro e w1 ⟨B, d, ys, v, rfl, h⟩
  go_wp2_with fail
  go_ret2
  exact ⟨B, d, ys, v, rfl, h⟩

set_option maxHeartbeats 1000000 in
set_option maxRecDepth 100000 in
theorem drawKeptDepths_any {A : Option Addr} {c : Nat} {xs : List Int} {w : World} (hc : Code8 w A xs) :
    Calls Try.prog 20 #[.slice A xs.length c] w (DrII 31 w) := by
  obtain ⟨i0, hi0, hz0, hz1, hz2⟩ := info_parts int_info
  have C0 := Cur.new (c := c) hc 50
  have hb0 := below_alloc1 w (.cells #[.slice A xs.length c, .int .i64 0, .int .u64 0] 50)
  have hgw := C0.lt
  obtain ⟨gg, hgg⟩ : ∃ gg, gg = w.heap.size := ⟨_, rfl⟩
  go_enter Try.func20, Try.ntmps20
  go_wp2_with fail
  generalize w.alloc (.cells #[.slice A xs.length c, .int .i64 0, .int .u64 0] 50) = wx at C0 hb0 hgw ⊢
  refine (track_any C0 (by omega)).mono ?_
  rintro e w1 ⟨B, d, ys, rfl, hl2, hl, U0⟩
  have S0 := St.nil 3 1 U0.cur
  have hsw1 : w.heap.size ≤ w1.heap.size := Nat.le_trans hb0.size U0.base
  have hg1 : w.heap.size < w1.heap.size := Nat.lt_of_lt_of_le U0.hg U0.base
  have hgN : w.heap.size ≤ w.heap.size := Nat.le_refl _
  clear hgg
  go_wp2_with fail
  go_loopw [6, 7] (fun v i wr => ∃ (k : Nat) (K : Option Addr) (e : Nat) (F : List Int), k ≤ ys.length ∧ i = .int .i64 k ∧ v = .slice K F.length e ∧ F.length = k ∧ St w1 wr w.heap.size (200 + 2 * k) 3 1 K F.length e (ints F)) (fun _ i _ => ys.length - (intOf i).toNat)
  case atStart => exact ⟨0, _, _, [], Nat.zero_le _, rfl, rfl, rfl, S0.more (by omega)⟩
  case round => as_aux_lemma =>
    clear S0
    obtain ⟨k, K, e, F, hk, rfl, rfl, hFk, S1⟩ := hrel
    have HFK := Lib.hid hFk
    have hFle : F.length ≤ 31 := by omega
    have hFge : F.length = k := hFk
    by_cases hlt : k < ys.length
    · have q1 : (k : Int) < (ys.length : Int) := by omega
      clear hFk hFge
      have T_S2 := S1.alloc (.cells #[.int .i64 0, .int .i64 1, .int .i64 1] 3)
      have R_S2 := rdI_new wr 3 [0, 1, 1] #[.int .i64 0, .int .i64 1, .int .i64 1] rfl
      go_wp2_with fail
      refine (among_any T_S2.cur (by omega) R_S2 (.inr (by have := S1.base; have := S1.hg; first | omega | (simp; omega))) (by simp) (by decide) (by decide)).mono ?_
      rintro e w3 ⟨dv, hm_dv, rfl, on_S2, cc_S2, z_S2⟩
      have hr_dv : 0 ≤ dv ∧ dv ≤ 1 := by simp at hm_dv; omega
      have S2 := T_S2.step on_S2 cc_S2
      clear T_S2 R_S2 z_S2 on_S2 cc_S2 hm_dv
      go_wp2_with (at_builtin; refine wpList_push_at _ rfl _ _ 24 rfl w1.heap.size 3 i0 (.int .i64 0) 1 8 Try.underlying24 hi0 hz0 hz1 hz2 rfl (by decide) _ _ _ rfl S2.own.1 [.int .i64 dv] rfl (one_int _) _ rfl (by simp) (by omega) (by decide) S2.base ?_; intro v7 w7 hown7 hb7 hs7 _ _)
      obtain ⟨K', e', F', rfl, hF', S7⟩ := S2.pushI rfl hown7 hb7
      go_wp2_with fail
      go_roundw
      case rel => exact ⟨k + 1, K', e', F', by omega, by go_num, rfl, by rw [hF', HFK.out], S7.more (by omega)⟩
      case measure => simp [intOf]; omega
    have hF2 : 2 ≤ F.length := by omega
    clear hFk hFge
    go_wp2_with fail
    refine (pick_any S1.cur (by omega) (by omega) (by omega)).mono ?_
    rintro e w4 ⟨pv, rfl, p1, p2, on4, c4, z4⟩
    have S5 := S1.step on4 c4
    clear S1 z4 on4 c4
    by_cases hp0 : pv = 0
    · subst hp0
      go_wp2_with (at_builtin; refine wpList_push _ rfl _ _ 24 rfl w1.heap.size 3 i0 (.int .i64 0) 1 8 Try.underlying24 hi0 hz0 hz1 hz2 rfl (by decide) _ _ _ rfl S5.own.1 [.int .i64 1] rfl (one_int _) rfl (by omega) (by decide) S5.base ?_; intro v7 w7 hown7 hb7 hs7 _ _)
      obtain ⟨K', e', F', rfl, hF', S7⟩ := S5.pushI rfl hown7 hb7
      go_wp2_with fail
      go_ret2
      exact ⟨B, _, d, _, ys, _, rfl, hl, by omega, (U0.own.only S7.on (.inr U0.hg) (Nat.le_refl _)).more hb0.size S7.on.size, S7.own.more (by omega) (Nat.le_refl _), (U0.out hb0).trans (S7.on.bel hg1 hgN)⟩
    by_cases hp1 : pv = 1
    · subst hp1
      have T_S8 := S5.alloc (.cells #[.int .i64 (-1), .int .i64 2] 3)
      have R_S8 := rdI_new w4 3 [-1, 2] #[.int .i64 (-1), .int .i64 2] rfl
      go_wp2_with fail
      refine (among_any T_S8.cur (by omega) R_S8 (.inr (by have := S5.base; have := S5.hg; first | omega | (simp; omega))) (by simp) (by decide) (by decide)).mono ?_
      rintro e w8 ⟨ov, hm_ov, rfl, on_S8, cc_S8, z_S8⟩
      have hr_ov : -1 ≤ ov ∧ ov ≤ 2 := by simp at hm_ov; omega
      have S8 := T_S8.step on_S8 cc_S8
      clear T_S8 R_S8 z_S8 on_S8 cc_S8 hm_ov
      obtain ⟨g', rfl, hg1', hg2'⟩ := S8.own.length_pos (by omega)
      have hfr : w8.frozen? ⟨g', 0, none⟩ = false := S8.own.frozen 0
      obtain ⟨u, hu⟩ : ∃ u, w8.cell? ⟨g', 0, none⟩ = some u := by
        have e1 := S8.own.1.cellAt 0 (by omega)
        have e2 : 0 < (ints F).length := by simp [ints]; omega
        exact ⟨_, e1.trans (List.getElem?_eq_getElem e2)⟩
      have q3 : (0 : Int) < (F.length : Int) := by omega
      have q4 : 0 < F.length := by omega
      obtain ⟨F', hF', S9⟩ := S8.storeI (j := 0) (x := ov)
      go_wp2_with fail
      go_ret2
      exact ⟨B, _, d, _, ys, _, by rw [hF']; rfl, hl, by omega, (U0.own.only S9.on (.inr U0.hg) (Nat.le_refl _)).more hb0.size S9.on.size, S9.own.more (by omega) (Nat.le_refl _), (U0.out hb0).trans (S9.on.bel hg1 hgN)⟩
    have n0 : (pv == 0) = false := by simpa using hp0
    have n1 : (pv == 1) = false := by simpa using hp1
    clear hp0 hp1
    go_wp2_with fail
    go_ret2
    exact ⟨B, _, d, _, ys, _, rfl, hl, by omega, (U0.own.only S5.on (.inr U0.hg) (Nat.le_refl _)).more hb0.size S5.on.size, S5.own.more (by omega) (Nat.le_refl _), (U0.out hb0).trans (S5.on.bel hg1 hgN)⟩

end Go.Proofs.Ytchgcpdmomeofaa
