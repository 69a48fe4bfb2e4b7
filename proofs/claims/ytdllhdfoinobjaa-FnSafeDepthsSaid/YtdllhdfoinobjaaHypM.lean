/-
  This file proves contracts of the draws of the laws on votes.
  Conditions: that the code reads as a list of bytes, 65536 at most; that the cursor has not been asked too often.
-/
import Derived.Test.YtdllhdfoinobjaaTrackK
namespace Go.Proofs.Ytdllhdfoinobjaa
open Go.RowKit
set_option linter.unusedSimpArgs false
set_option linter.unusedVariables false

/-- A list of integers that a draw gives, empty or not. -/
def DrawnV (N g b : Nat) (w : World) (e : Ending) (w' : World) : Prop := ∃ (A : Option Addr) (c : Nat) (xs : List Int), e = .returned (.slice A xs.length c) ∧ xs.length ≤ N ∧ St w w' g b 3 1 A xs.length c (ints xs)
/-- The list is begun anew. -/
theorem St.renew {w wr : World} {g b : Nat} {e : TypeId} {size : Nat} {A : Option Addr} {n c : Nat} {cs : List Value} (h : St w wr g b e size A n c cs) : St w (wr.alloc (.cells #[] e)) g b e size (some ⟨wr.heap.size, 0, none⟩) 0 0 [] :=
  ⟨⟨row_empty_at wr e size h.base, fun a ha => by cases ha; simp⟩, h.on.alloc _, h.cur.below (below_alloc1 _ _) h.cur.lt, h.hg⟩

set_option maxHeartbeats 2000000 in
set_option maxRecDepth 100000 in
theorem votes_any {g b : Nat} {w : World} (hc : Cur w g b) (hb : b ≤ 1000000) :
    Calls Try.prog 46 #[.pointer (some ⟨g, 0, none⟩)] w (DrawnV 21 g (b + 200) w) := by
  obtain ⟨i0, hi0, hz0, hz1, hz2⟩ := info_parts int_info
  have S0 := St.nil 3 1 hc
  go_enter Try.func46, Try.ntmps46

  go_wp2_with fail
  refine (pick_any S0.cur (by omega) (by omega) (by omega)).mono ?_
  rintro e w2 ⟨pn, rfl, h1_pn, h2_pn, on_S2, c_S2, z_S2⟩
  have S2 := S0.step on_S2 c_S2
  clear S0 z_S2 on_S2 c_S2

  obtain ⟨n, rfl⟩ : ∃ n : Nat, pn = (n : Int) := ⟨pn.toNat, by omega⟩
  go_wp2_with fail
  go_loopw [3, 4] (fun v i wr => ∃ (k : Nat) (A : Option Addr) (c : Nat) (F : List Int), i = .int .i64 k ∧ v = .slice A F.length c ∧ 1 ≤ F.length + k ∧ F.length + k ≤ 9 ∧ St w wr g (b + 4 + 4 * F.length) 3 1 A F.length c (ints F)) (fun _ i _ => (intOf i).toNat)
  case atStart => exact ⟨1 + n, _, _, [], by go_num, rfl, by simp, by simp; omega, S2.more (by simp)⟩
  case round =>
    obtain ⟨k, A, c, F, rfl, rfl, hk3, hk12, S3⟩ := hrel
    by_cases hk : 0 < k
    · have q1 : (0 : Int) < (k : Int) := by omega

      have T_S4 := S3.alloc (.cells #[.int .i64 800, .int .i64 805, .int .i64 810, .int .i64 812, .int .i64 900, .int .i64 930, .int .i64 1500, .int .i64 0, .int .i64 660] 3)
      have R_S4 := rdI_new wr 3 [800, 805, 810, 812, 900, 930, 1500, 0, 660] #[.int .i64 800, .int .i64 805, .int .i64 810, .int .i64 812, .int .i64 900, .int .i64 930, .int .i64 1500, .int .i64 0, .int .i64 660] rfl
      go_wp2_with fail
      refine (among_any T_S4.cur (by omega) R_S4 (.inr (by have := S3.base; have := S3.hg; first | omega | (simp; omega))) (by simp) (by decide) (by decide)).mono ?_
      rintro e w3 ⟨dv, hm_dv, rfl, on_S4, cc_S4, z_S4⟩
      have hr_dv : 0 ≤ dv ∧ dv ≤ 1500 := by simp at hm_dv; omega
      have S4 := T_S4.step on_S4 cc_S4
      clear T_S4 R_S4 z_S4 on_S4 cc_S4 hm_dv

      go_wp2_with fail
      refine (pick_any S4.cur (by omega) (by omega) (by omega)).mono ?_
      rintro e w4 ⟨pv, rfl, h1_pv, h2_pv, on_S5, c_S5, z_S5⟩
      have S5 := S4.step on_S5 c_S5
      clear S4 z_S5 on_S5 c_S5

      have q2 : IntKind.i64.wrap (dv + pv) = dv + pv := wr64 (by omega) (by omega)
      go_wp2_with (at_builtin; refine wpList_push_at _ rfl _ _ 24 rfl w.heap.size 3 i0 (.int .i64 0) 1 8 Try.underlying24 hi0 hz0 hz1 hz2 rfl (by decide) _ _ _ rfl S5.own.1 [.int .i64 (dv + pv)] rfl (one_int _) _ rfl (by simp) (by omega) (by decide) S5.base ?_; intro v7 w7 hown7 hb7 hs7 _ _)
      obtain ⟨A', c', F', rfl, hF', S7⟩ := S5.pushI rfl hown7 hb7
      obtain ⟨k', rfl⟩ : ∃ k', k = k' + 1 := ⟨k - 1, by omega⟩
      go_wp2_with fail
      go_roundw
      case rel => exact ⟨k', A', c', F', by go_num, rfl, by omega, by omega, S7.more (by omega)⟩
      case measure => first | (simp [intOf]; done) | (simp [intOf]; omega)
    obtain rfl : k = 0 := by omega
    have hFl : 1 ≤ F.length ∧ F.length ≤ 9 := by omega

    go_wp2_with fail
    refine (pick_any S3.cur (by omega) (by omega) (by omega)).mono ?_
    rintro e w4 ⟨pv, rfl, h1_pv, h2_pv, on_S5, c_S5, z_S5⟩
    have S5 := S3.step on_S5 c_S5
    clear S3 z_S5 on_S5 c_S5

    by_cases hp0 : pv = 0
    · subst hp0

      have T_S8 := S5.alloc (.cells #[.int .i64 (-1001), .int .i64 (-1000), .int .i64 20000, .int .i64 20001] 3)
      have R_S8 := rdI_new w4 3 [-1001, -1000, 20000, 20001] #[.int .i64 (-1001), .int .i64 (-1000), .int .i64 20000, .int .i64 20001] rfl
      go_wp2_with fail
      refine (among_any T_S8.cur (by omega) R_S8 (.inr (by have := S5.base; have := S5.hg; first | omega | (simp; omega))) (by simp) (by decide) (by decide)).mono ?_
      rintro e w8 ⟨ov, hm_ov, rfl, on_S8, cc_S8, z_S8⟩
      have hr_ov : -1001 ≤ ov ∧ ov ≤ 20001 := by simp at hm_ov; omega
      have S8 := T_S8.step on_S8 cc_S8
      clear T_S8 R_S8 z_S8 on_S8 cc_S8 hm_ov

      obtain ⟨g', rfl, hg1, hg2⟩ := S8.own.length_pos (by omega)
      have hfr : w8.frozen? ⟨g', 0, none⟩ = false := S8.own.frozen 0
      obtain ⟨u, hu⟩ : ∃ u, w8.cell? ⟨g', 0, none⟩ = some u := by
        have e1 := S8.own.1.cellAt 0 (by omega)
        have e2 : 0 < (ints F).length := by simp [ints]; omega
        exact ⟨_, e1.trans (List.getElem?_eq_getElem e2)⟩
      have q3 : (0 : Int) < (F.length : Int) := by omega
      have q4 : 0 < F.length := by omega
      obtain ⟨F', hF', S9⟩ := S8.storeI (j := 0) (x := ov)
      go_wp2_with fail
      go_ret
      exact ⟨_, c, F', by rw [hF']; rfl, by omega, S9.more (by omega)⟩
    by_cases hp1 : pv = 1
    · subst hp1
      have S6 := S5.renew
      go_wp2_with fail
      go_ret
      exact ⟨_, 0, [], rfl, by simp, S6.more (by omega)⟩
    by_cases hp2' : pv = 2
    · subst hp2'
      go_wp2_with fail
      go_loopw [3] (fun v wr => ∃ (j : Nat) (A : Option Addr) (c : Nat) (qs : List Int), v = .slice A qs.length c ∧ j ≤ qs.length ∧ qs.length ≤ 21 ∧ St w wr g (b + 60 + 2 * j) 3 1 A qs.length c (ints qs)) (fun v _ => match v with | .slice _ n _ => 22 - n | _ => 0)
      case atStart => exact ⟨0, A, c, F, rfl, Nat.zero_le _, by omega, S5.more (by omega)⟩
      case round =>
        clear S5
        obtain ⟨j, A, c, qs, rfl, hj, hq, S5⟩ := hrel

        go_wp2_with fail
        refine (pick_any S5.cur (by omega) (by omega) (by omega)).mono ?_
        rintro e w6 ⟨iv, rfl, h1_iv, h2_iv, on_S6, c_S6, z_S6⟩
        have S6 := S5.step on_S6 c_S6
        clear S5 z_S6 on_S6 c_S6

        by_cases hc2 : (qs.length : Int) < 20 + iv
        · go_wp2_with (at_builtin; refine wpList_push_at _ rfl _ _ 24 rfl w.heap.size 3 i0 (.int .i64 0) 1 8 Try.underlying24 hi0 hz0 hz1 hz2 rfl (by decide) _ _ _ rfl S6.own.1 [.int .i64 801] rfl (one_int _) _ rfl (by simp) (by omega) (by decide) S6.base ?_; intro v7 w7 hown7 hb7 hs7 _ _)
          obtain ⟨A', c', F', rfl, hF', S7⟩ := S6.pushI rfl hown7 hb7
          go_wp2_with fail
          go_roundw
          case rel => exact ⟨j + 1, A', c', F', rfl, by omega, by omega, S7.more (by omega)⟩
          case measure => simp; omega
        · go_wp2_with fail
          go_ret
          exact ⟨A, c, qs, rfl, by omega, S6.more (by omega)⟩
    have n0 : (pv == 0) = false := by simpa using hp0
    have n1 : (pv == 1) = false := by simpa using hp1
    have n2 : (pv == 2) = false := by simpa using hp2'
    clear hp0 hp1 hp2'
    go_wp2_with fail
    go_ret
    exact ⟨A, c, F, rfl, by omega, S5.more (by omega)⟩

theorem width13_any {g b : Nat} {w : World} (hc : Cur w g b) (hb : b ≤ 1000000) :
    Calls Try.prog 47 #[.pointer (some ⟨g, 0, none⟩)] w fun e w' => ∃ v : Int, e = .returned (.int .i64 v) ∧ Only g (g + 1) w w' ∧ Cur w' g (b + 2) ∧ w.heap.size ≤ w'.heap.size := by
  have R := rdI_new w 3 [0, 1, 5, 10, 30, 100, 1000, 1001, -1, 8] #[.int .i64 0, .int .i64 1, .int .i64 5, .int .i64 10, .int .i64 30, .int .i64 100, .int .i64 1000, .int .i64 1001, .int .i64 (-1), .int .i64 8] rfl
  have C1 := hc.below (below_alloc1 w (.cells #[.int .i64 0, .int .i64 1, .int .i64 5, .int .i64 10, .int .i64 30, .int .i64 100, .int .i64 1000, .int .i64 1001, .int .i64 (-1), .int .i64 8] 3)) hc.lt
  have hlt := hc.lt
  go_enter Try.func47, Try.ntmps47
  go_wp2_with fail
  refine (among_any C1 (by omega) R (.inr (by omega)) (by simp) (by decide) (by decide)).mono ?_
  rintro e w1 ⟨v, _, rfl, on, cc, z⟩
  have Z := Lib.hid z
  clear z
  go_wp2_with fail
  go_ret
  exact ⟨v, rfl, ((Only.refl g (g + 1) w).alloc _).trans on, cc, by rw [Z.out]; simp⟩

def DrI2 (N : Nat) (w : World) (e : Ending) (w' : World) : Prop := ∃ (B : Option Addr) (d : Nat) (xs : List Int) (v0 v1 : Int), e = .returned (.tuple #[.slice B xs.length d, .int .i64 v0, .int .i64 v1]) ∧ xs.length ≤ N ∧ OwnI w' 3 w.heap.size w'.heap.size B d xs ∧ Below w.heap.size w w'

set_option maxHeartbeats 1000000 in
set_option maxRecDepth 100000 in
theorem drawAreVotes_any {A : Option Addr} {c : Nat} {xs : List Int} {w : World} (hc : Code8 w A xs) :
    Calls Try.prog 57 #[.slice A xs.length c] w (DrI0 21 w) := by
  have C0 := Cur.new (c := c) hc 60
  have hb0 := below_alloc1 w (.cells #[.slice A xs.length c, .int .i64 0, .int .u64 0] 60)
  have hgw := C0.lt
  go_enter Try.func57, Try.ntmps57
  go_wp2_with fail
  generalize w.alloc (.cells #[.slice A xs.length c, .int .i64 0, .int .u64 0] 60) = wx at C0 hb0 hgw ⊢
  refine (votes_any C0 (by omega)).mono ?_
  rintro e w1 ⟨B, d, ys, rfl, hl, U0⟩
  go_wp2_with fail
  go_ret
  exact ⟨B, d, ys, rfl, hl, U0.own_out hb0.size, U0.out hb0⟩

set_option maxHeartbeats 1000000 in
set_option maxRecDepth 100000 in
theorem drawHypothesesOf_any {A : Option Addr} {c : Nat} {xs : List Int} {w : World} (hc : Code8 w A xs) :
    Calls Try.prog 9 #[.slice A xs.length c] w (DrI1 21 w) := by
  have C0 := Cur.new (c := c) hc 60
  have hb0 := below_alloc1 w (.cells #[.slice A xs.length c, .int .i64 0, .int .u64 0] 60)
  have hgw := C0.lt
  go_enter Try.func9, Try.ntmps9
  go_wp2_with fail
  generalize w.alloc (.cells #[.slice A xs.length c, .int .i64 0, .int .u64 0] 60) = wx at C0 hb0 hgw ⊢
  refine (votes_any C0 (by omega)).mono ?_
  rintro e w1 ⟨B, d, ys, rfl, hl, U0⟩
  go_wp2_with fail
  refine (width13_any U0.cur (by omega)).mono ?_
  rintro e w2 ⟨v, rfl, on2, c2, z2⟩
  have U1 := U0.step on2 c2
  clear on2 c2 z2
  go_wp2_with fail
  go_ret2
  exact ⟨B, d, ys, v, rfl, hl, U1.own_out hb0.size, U1.out hb0⟩

set_option maxHeartbeats 1000000 in
set_option maxRecDepth 100000 in
theorem drawSafeDepth_any {A : Option Addr} {c : Nat} {xs : List Int} {w : World} (hc : Code8 w A xs) :
    Calls Try.prog 38 #[.slice A xs.length c] w (DrI2 21 w) := by
  have C0 := Cur.new (c := c) hc 60
  have hb0 := below_alloc1 w (.cells #[.slice A xs.length c, .int .i64 0, .int .u64 0] 60)
  have hgw := C0.lt
  go_enter Try.func38, Try.ntmps38
  go_wp2_with fail
  generalize w.alloc (.cells #[.slice A xs.length c, .int .i64 0, .int .u64 0] 60) = wx at C0 hb0 hgw ⊢
  refine (votes_any C0 (by omega)).mono ?_
  rintro e w1 ⟨B, d, ys, rfl, hl, U0⟩
  go_wp2_with fail
  refine (width13_any U0.cur (by omega)).mono ?_
  rintro e w2 ⟨v, rfl, on2, c2, z2⟩
  have U1 := U0.step on2 c2
  clear on2 c2 z2
  have T_U2 := U1.alloc (.cells #[.int .i64 1, .int .i64 1, .int .i64 2, .int .i64 3, .int .i64 5, .int .i64 20, .int .i64 0, .int .i64 21] 3)
  have R_U2 := rdI_new w2 3 [1, 1, 2, 3, 5, 20, 0, 21] #[.int .i64 1, .int .i64 1, .int .i64 2, .int .i64 3, .int .i64 5, .int .i64 20, .int .i64 0, .int .i64 21] rfl
  go_wp2_with fail
  refine (among_any T_U2.cur (by omega) R_U2 (.inr (by have := U1.base; have := U1.hg; first | omega | (simp; omega))) (by simp) (by decide) (by decide)).mono ?_
  rintro e w3 ⟨sv, hm_sv, rfl, on_U2, cc_U2, z_U2⟩
  have hr_sv : 0 ≤ sv ∧ sv ≤ 21 := by simp at hm_sv; omega
  have U2 := T_U2.step on_U2 cc_U2
  clear T_U2 R_U2 z_U2 on_U2 cc_U2 hm_sv

  go_wp2_with fail
  go_ret3
  exact ⟨B, d, ys, v, sv, rfl, hl, U2.own_out hb0.size, U2.out hb0⟩

set_option maxHeartbeats 1000000 in
set_option maxRecDepth 100000 in
theorem drawAddVote_any {A : Option Addr} {c : Nat} {xs : List Int} {w : World} (hc : Code8 w A xs) :
    Calls Try.prog 40 #[.slice A xs.length c] w (DrI1 21 w) := by
  have C0 := Cur.new (c := c) hc 60
  have hb0 := below_alloc1 w (.cells #[.slice A xs.length c, .int .i64 0, .int .u64 0] 60)
  have hgw := C0.lt
  go_enter Try.func40, Try.ntmps40
  go_wp2_with fail
  generalize w.alloc (.cells #[.slice A xs.length c, .int .i64 0, .int .u64 0] 60) = wx at C0 hb0 hgw ⊢
  refine (votes_any C0 (by omega)).mono ?_
  rintro e w1 ⟨B, d, ys, rfl, hl, U0⟩
  have T_U1 := U0.alloc (.cells #[.int .i64 800, .int .i64 850, .int .i64 (-1000), .int .i64 (-1001), .int .i64 20000, .int .i64 20001] 3)
  have R_U1 := rdI_new w1 3 [800, 850, -1000, -1001, 20000, 20001] #[.int .i64 800, .int .i64 850, .int .i64 (-1000), .int .i64 (-1001), .int .i64 20000, .int .i64 20001] rfl
  go_wp2_with fail
  refine (among_any T_U1.cur (by omega) R_U1 (.inr (by have := U0.base; have := U0.hg; first | omega | (simp; omega))) (by simp) (by decide) (by decide)).mono ?_
  rintro e w3 ⟨v, hm_v, rfl, on_U1, cc_U1, z_U1⟩
  have hr_v : -1001 ≤ v ∧ v ≤ 20001 := by simp at hm_v; omega
  have U1 := T_U1.step on_U1 cc_U1
  clear T_U1 R_U1 z_U1 on_U1 cc_U1 hm_v

  go_wp2_with fail
  go_ret2
  exact ⟨B, d, ys, v, rfl, hl, U1.own_out hb0.size, U1.out hb0⟩

set_option maxHeartbeats 1000000 in
set_option maxRecDepth 100000 in
theorem drawNarrowestSingle_any {A : Option Addr} {c : Nat} {xs : List Int} {w : World} (hc : Code8 w A xs) :
    Calls Try.prog 20 #[.slice A xs.length c] w (DrI0 21 w) := by
  go_enter Try.func20, Try.ntmps20
  go_wp2_with fail
  refine (drawAreVotes_any hc).mono ?_
  rintro e w1 ⟨B, d, ys, rfl, h⟩
  go_wp2_with fail
  go_ret
  exact ⟨B, d, ys, rfl, h⟩

set_option maxHeartbeats 1000000 in
set_option maxRecDepth 100000 in
theorem drawMedianVote_any {A : Option Addr} {c : Nat} {xs : List Int} {w : World} (hc : Code8 w A xs) :
    Calls Try.prog 43 #[.slice A xs.length c] w (DrI0 21 w) := by
  go_enter Try.func43, Try.ntmps43
  go_wp2_with fail
  refine (drawAreVotes_any hc).mono ?_
  rintro e w1 ⟨B, d, ys, rfl, h⟩
  go_wp2_with fail
  go_ret
  exact ⟨B, d, ys, rfl, h⟩

set_option maxHeartbeats 1000000 in
set_option maxRecDepth 100000 in
theorem drawStrongestOf_any {A : Option Addr} {c : Nat} {xs : List Int} {w : World} (hc : Code8 w A xs) :
    Calls Try.prog 23 #[.slice A xs.length c] w (DrI1 21 w) := by
  go_enter Try.func23, Try.ntmps23
  go_wp2_with fail
  refine (drawHypothesesOf_any hc).mono ?_
  rintro e w1 ⟨B, d, ys, v, rfl, h⟩
  go_wp2_with fail
  go_ret2
  exact ⟨B, d, ys, v, rfl, h⟩

set_option maxHeartbeats 1000000 in
set_option maxRecDepth 100000 in
theorem drawAmbiguityOf_any {A : Option Addr} {c : Nat} {xs : List Int} {w : World} (hc : Code8 w A xs) :
    Calls Try.prog 25 #[.slice A xs.length c] w (DrI1 21 w) := by
  go_enter Try.func25, Try.ntmps25
  go_wp2_with fail
  refine (drawHypothesesOf_any hc).mono ?_
  rintro e w1 ⟨B, d, ys, v, rfl, h⟩
  go_wp2_with fail
  go_ret2
  exact ⟨B, d, ys, v, rfl, h⟩

end Go.Proofs.Ytdllhdfoinobjaa
