/-
  This file proves the contract of the function that draws tracks: a list of 31 numbers at most.
  Conditions: that the cursor lies in a block of the call's own, and has not been asked too often.
-/
import Derived.Test.YtchgcpdmomeofaaDraw
import Derived.Test.YtchgcpdmomeofaaPushAt
import Derived.Deep.RegionHeld
namespace Go.Proofs.Ytchgcpdmomeofaa
open Go.RowKit
set_option linter.unusedSimpArgs false
set_option linter.unusedVariables false

theorem rdI_newg (w : World) (g : Nat) (e : TypeId) (xs : List Int) (cs : Array Value) (h : cs = (ints xs).toArray) (hg : g = w.heap.size) : RdI (w.alloc (.cells cs e)) g (g + 1) (some ⟨g, 0, none⟩) xs := by
  subst hg
  exact rdI_new w e xs cs h
theorem St.pushI {w wr w7 : World} {v7 : Value} {g b n c : Nat} {A : Option Addr} {F : List Int} {x : Int} (h : St w wr g b 3 1 A n c (ints F)) (hn : n = F.length)
    (hown : w7.ownsRow w.heap.size 3 1 v7 (n + 1) (ints F ++ [.int .i64 x])) (hb : ∀ w0, Below w.heap.size w0 wr → Below w.heap.size w0 w7) :
    ∃ A' c' F', v7 = .slice A' F'.length c' ∧ F'.length = n + 1 ∧ St w w7 g b 3 1 A' F'.length c' (ints F') := by
  rw [show ints F ++ [.int .i64 x] = ints (F ++ [x]) from by simp [ints]] at hown
  obtain ⟨A', c', hv, hs⟩ := h.push hown hb
  have e : (F ++ [x]).length = n + 1 := by simp; omega
  exact ⟨A', c', F ++ [x], by rw [e]; exact hv, e, by rw [e]; exact hs⟩
theorem row_cut {w : World} {base : Nat} {e : TypeId} {A : Option Addr} {n c m : Nat} {xs : List Int} (h : w.ownsRow base e 1 (.slice A n c) n (ints xs)) (hm : m ≤ n) (hn : 0 < n) : w.ownsRow base e 1 (.slice A m c) m (ints (xs.take m)) := by
  have hl : xs.length = n := by have := h.1; simpa [ints] using this
  rcases h.2 with ⟨_, h0⟩ | ⟨g, cap, cur, hv, hg, hh, h1, h2, h3, h4⟩
  · omega
  · injection hv with e1 e2 e3
    subst e1 e3
    refine ⟨by simp [ints]; omega, .inr ⟨g, c, cur, rfl, hg, hh, by omega, h2, h3, ?_⟩⟩
    have : ints (xs.take m) = (ints xs).take m := by simp [ints, List.map_take]
    rw [this, ← h4, List.take_take]
    congr 1
    omega
/-- A list that is cut short. -/
theorem St.cut {w wr : World} {g b c m : Nat} {A : Option Addr} {F : List Int} (h : St w wr g b 3 1 A F.length c (ints F)) (hm : m ≤ F.length) (hn : 0 < F.length) :
    ∃ F' : List Int, F'.length = m ∧ St w wr g b 3 1 A m c (ints F') :=
  ⟨F.take m, by simp; omega, ⟨row_cut h.own.1 hm hn, h.own.2⟩, h.on, h.cur, h.hg⟩
/-- A store into the list. -/
theorem St.storeI {w wr : World} {g b c g' j : Nat} {F : List Int} {x : Int} (h : St w wr g b 3 1 (some ⟨g', 0, none⟩) F.length c (ints F)) :
    ∃ F' : List Int, F'.length = F.length ∧ St w (wr.setCell ⟨g', j, none⟩ (.int .i64 x)) g b 3 1 (some ⟨g', 0, none⟩) F'.length c (ints F') := by
  have hg' : w.heap.size ≤ g' := by
    rcases h.own.head with ⟨h0, _⟩ | ⟨g0, e0, h1, _⟩
    · cases h0
    · injection e0 with e0; injection e0 with e0; omega
  have hne : g' ≠ g := by have := h.hg; omega
  have ho := h.own.store j (.int .i64 x)
  rw [show (ints F).set j (.int .i64 x) = ints (F.set j x) from by simp [ints, List.map_set]] at ho
  have hsz : (wr.setCell ⟨g', j, none⟩ (.int .i64 x)).heap.size = wr.heap.size := by simp [World.setCell]
  refine ⟨F.set j x, by simp, ⟨?_, ?_, ?_, h.hg⟩⟩
  · rw [hsz, List.length_set]
    exact ho
  · exact ⟨h.on.os, h.on.tape, h.on.output, by rw [hsz]; exact h.on.size, fun k hk hk2 => (Below.heap_setCell _ _ _ _ (by show k ≠ g'; omega)).trans (h.on.block k hk hk2)⟩
  · obtain ⟨⟨A, cc, ys, pos, sd, h1, h2, h3, h4, h5, h6, h7, h8, h9⟩, f1, f2⟩ := h.cur
    refine ⟨⟨A, cc, ys, pos, sd, (World.cell?_setCell_far _ _ _ _ hne).trans h1, (World.cell?_setCell_far _ _ _ _ hne).trans h2, (World.cell?_setCell_far _ _ _ _ hne).trans h3, h4, h5, h6, h7.keep fun b off _ hb2 => World.cell?_setCell_far _ _ _ _ (by show g' ≠ b; have := h.hg; omega), h8, h9⟩, ?_, ?_⟩
    · exact (World.frozen?_setCell _ _ _ _).trans f1
    · exact (World.frozen?_setCell _ _ _ _).trans f2

/-- A list of integers that a draw gives. -/
def DrawnI (N g b : Nat) (w : World) (e : Ending) (w' : World) : Prop := ∃ (A : Option Addr) (c : Nat) (xs : List Int), e = .returned (.slice A xs.length c) ∧ 2 ≤ xs.length ∧ xs.length ≤ N ∧ St w w' g b 3 1 A xs.length c (ints xs)

set_option maxHeartbeats 2000000 in
set_option maxRecDepth 100000 in
theorem track_any {g b : Nat} {w : World} (hc : Cur w g b) (hb : b ≤ 1000000) :
    Calls Try.prog 38 #[.pointer (some ⟨g, 0, none⟩)] w (DrawnI 31 g (b + 200) w) := by
  obtain ⟨i0, hi0, hz0, hz1, hz2⟩ := info_parts int_info
  have S0 := St.nil 3 1 hc
  go_enter Try.func38, Try.ntmps38
  have T_S1 := S0.alloc (.cells #[.int .i64 0, .int .i64 500, .int .i64 900, .int .i64 1500] 3)
  have R_S1 := rdI_newg (w.alloc (.cells #[] 3)) (w.heap.size + 1) 3 [0, 500, 900, 1500] #[.int .i64 0, .int .i64 500, .int .i64 900, .int .i64 1500] rfl (by simp)
  go_wp2_with fail
  refine (among_any T_S1.cur (by omega) R_S1 (.inr (by have := S0.base; have := S0.hg; omega)) (by simp) (by decide) (by decide)).mono ?_
  rintro e w1 ⟨ba, hm_ba, rfl, on_S1, cc_S1, z_S1⟩
  have hr_ba : 0 ≤ ba ∧ ba ≤ 1500 := by simp at hm_ba; omega
  have S1 := T_S1.step on_S1 cc_S1
  clear T_S1 R_S1 z_S1 on_S1 cc_S1 hm_ba
  go_wp2_with fail
  refine (pick_any S1.cur (by omega) (by omega) (by omega)).mono ?_
  rintro e w2 ⟨pn, rfl, hp1, hp2, on2, c2, z2⟩
  have S2 := S1.step on2 c2
  clear S1 z2 on2 c2
  obtain ⟨n, rfl⟩ : ∃ n : Nat, pn = (n : Int) := ⟨pn.toNat, by omega⟩
  go_wp2_with fail
  go_loopw [3, 5] (fun v i wr => ∃ (k : Nat) (A : Option Addr) (c : Nat) (F : List Int), i = .int .i64 k ∧ v = .slice A F.length c ∧ 3 ≤ F.length + k ∧ F.length + k ≤ 12 ∧ St w wr g (b + 4 + 2 * F.length) 3 1 A F.length c (ints F)) (fun _ i _ => (intOf i).toNat)
  case atStart => exact ⟨3 + n, _, _, [], by go_num, rfl, by simp, by simp; omega, S2.more (by simp)⟩
  case round =>
    obtain ⟨k, A, c, F, rfl, rfl, hk3, hk12, S3⟩ := hrel
    by_cases hk : 0 < k
    · have q1 : (0 : Int) < (k : Int) := by omega
      have T_S4 := S3.alloc (.cells #[.int .i64 0, .int .i64 0, .int .i64 5, .int .i64 10, .int .i64 20, .int .i64 (-15), .int .i64 200, .int .i64 (-150)] 3)
      have R_S4 := rdI_new wr 3 [0, 0, 5, 10, 20, -15, 200, -150] #[.int .i64 0, .int .i64 0, .int .i64 5, .int .i64 10, .int .i64 20, .int .i64 (-15), .int .i64 200, .int .i64 (-150)] rfl
      go_wp2_with fail
      refine (among_any T_S4.cur (by omega) R_S4 (.inr (by have := S3.base; have := S3.hg; first | omega | (simp; omega))) (by simp) (by decide) (by decide)).mono ?_
      rintro e w3 ⟨dv, hm_dv, rfl, on_S4, cc_S4, z_S4⟩
      have hr_dv : -150 ≤ dv ∧ dv ≤ 200 := by simp at hm_dv; omega
      have S4 := T_S4.step on_S4 cc_S4
      clear T_S4 R_S4 z_S4 on_S4 cc_S4 hm_dv
      go_wp2_with (at_builtin; refine wpList_push_at _ rfl _ _ 24 rfl w.heap.size 3 i0 (.int .i64 0) 1 8 Try.underlying24 hi0 hz0 hz1 hz2 rfl (by decide) _ _ _ rfl S4.own.1 [.int .i64 (ba + dv)] rfl (one_int _) _ rfl (by simp) (by omega) (by decide) S4.base ?_; intro v7 w7 hown7 hb7 hs7 _ _)
      obtain ⟨A', c', F', rfl, hF', S7⟩ := S4.pushI rfl hown7 hb7
      obtain ⟨k', rfl⟩ : ∃ k', k = k' + 1 := ⟨k - 1, by omega⟩
      go_wp2_with fail
      go_roundw
      case rel => exact ⟨k', A', c', F', by go_num, rfl, by omega, by omega, S7.more (by omega)⟩
      case measure => first | (simp [intOf]; done) | (simp [intOf]; omega)
    obtain rfl : k = 0 := by omega

    have hFl : 3 ≤ F.length ∧ F.length ≤ 12 := by omega
    go_wp2_with fail
    refine (pick_any S3.cur (by omega) (by omega) (by omega)).mono ?_
    rintro e w4 ⟨pv, rfl, p1, p2, on4, c4, z4⟩
    have S5 := S3.step on4 c4
    clear S3 z4 on4 c4
    by_cases hp0 : pv = 0
    · subst hp0
      obtain ⟨F', hF', S6⟩ := S5.cut (m := 2) (by omega) (by omega)
      have q2 : (2 : Int) ≤ (c : Int) := by have := S5.own.cap; omega
      go_wp2_with fail
      go_ret
      exact ⟨A, c, F', by rw [hF']; rfl, by omega, by omega, by rw [hF']; exact S6.more (by omega)⟩
    by_cases hp1 : pv = 1
    · subst hp1
      go_wp2_with fail
      refine (pick_any S5.cur (by omega) (by omega) (by omega)).mono ?_
      rintro e w6 ⟨iv, rfl, hi1, hi2, on6, c6, z6⟩
      have S6 := S5.step on6 c6
      clear S5 z6 on6 c6
      obtain ⟨j, rfl⟩ : ∃ j : Nat, iv = (j : Int) := ⟨iv.toNat, by omega⟩
      have T_S8 := S6.alloc (.cells #[.int .i64 (-1001), .int .i64 (-1000), .int .i64 20000, .int .i64 20001] 3)
      have R_S8 := rdI_new w6 3 [-1001, -1000, 20000, 20001] #[.int .i64 (-1001), .int .i64 (-1000), .int .i64 20000, .int .i64 20001] rfl
      go_wp2_with fail
      refine (among_any T_S8.cur (by omega) R_S8 (.inr (by have := S6.base; have := S6.hg; first | omega | (simp; omega))) (by simp) (by decide) (by decide)).mono ?_
      rintro e w8 ⟨ov, hm_ov, rfl, on_S8, cc_S8, z_S8⟩
      have hr_ov : -1001 ≤ ov ∧ ov ≤ 20001 := by simp at hm_ov; omega
      have S8 := T_S8.step on_S8 cc_S8
      clear T_S8 R_S8 z_S8 on_S8 cc_S8 hm_ov
      obtain ⟨g', rfl, hg1, hg2⟩ := S8.own.length_pos (by omega)
      have hfr : w8.frozen? ⟨g', j, none⟩ = false := S8.own.frozen j
      obtain ⟨u, hu⟩ : ∃ u, w8.cell? ⟨g', j, none⟩ = some u := by
        have e1 := S8.own.1.cellAt j (by omega)
        have e2 : j < (ints F).length := by simp [ints]; omega
        exact ⟨_, e1.trans (List.getElem?_eq_getElem e2)⟩
      have q3 : (j : Int) < (F.length : Int) := by omega
      obtain ⟨F', hF', S9⟩ := S8.storeI (j := j) (x := ov)
      go_wp2_with fail
      go_ret
      exact ⟨_, c, F', by rw [hF']; rfl, by omega, by omega, S9.more (by omega)⟩
    by_cases hp2' : pv = 2
    · subst hp2'
      go_wp2_with fail
      go_loopw [3] (fun v wr => ∃ (j : Nat) (A : Option Addr) (c : Nat) (qs : List Int), v = .slice A qs.length c ∧ j ≤ qs.length ∧ (2 ≤ qs.length ∧ qs.length ≤ 31) ∧ St w wr g (b + 40 + 2 * j) 3 1 A qs.length c (ints qs)) (fun v _ => match v with | .slice _ n _ => 32 - n | _ => 0)
      case atStart => exact ⟨0, A, c, F, rfl, Nat.zero_le _, by omega, S5.more (by omega)⟩
      case round =>
        clear S5
        obtain ⟨j, A, c, qs, rfl, hj, hq, S5⟩ := hrel
        go_wp2_with fail
        refine (pick_any S5.cur (by omega) (by omega) (by omega)).mono ?_
        rintro e w6 ⟨iv, rfl, hi1, hi2, on6, c6, z6⟩
        have S6 := S5.step on6 c6
        clear S5 z6 on6 c6
        by_cases hc2 : (qs.length : Int) < 30 + iv
        · have hm2 : 0 ≤ (qs.length : Int) % 2 ∧ (qs.length : Int) % 2 ≤ 1 := by omega
          go_wp2_with (at_builtin; refine wpList_push _ rfl _ _ 24 rfl w.heap.size 3 i0 (.int .i64 0) 1 8 Try.underlying24 hi0 hz0 hz1 hz2 rfl (by decide) _ _ _ rfl S6.own.1 [.int .i64 (ba + 7 * ((qs.length : Int) % 2))] rfl (one_int _) rfl (by omega) (by decide) S6.base ?_; intro v7 w7 hown7 hb7 hs7 _ _)
          obtain ⟨A', c', F', rfl, hF', S7⟩ := S6.pushI rfl hown7 hb7
          go_wp2_with fail
          go_roundw
          case rel => exact ⟨j + 1, A', c', F', rfl, by omega, by omega, S7.more (by omega)⟩
          case measure => simp; omega
        · go_wp2_with fail
          go_ret
          exact ⟨A, c, qs, rfl, by omega, by omega, S6.more (by omega)⟩
    have n0 : (pv == 0) = false := by simpa using hp0
    have n1 : (pv == 1) = false := by simpa using hp1
    have n2 : (pv == 2) = false := by simpa using hp2'
    clear hp0 hp1 hp2'
    go_wp2_with fail
    go_ret
    exact ⟨A, c, F, rfl, by omega, by omega, S5.more (by omega)⟩

theorem limit12_any {g b : Nat} {w : World} (hc : Cur w g b) (hb : b ≤ 1000000) :
    Calls Try.prog 39 #[.pointer (some ⟨g, 0, none⟩)] w fun e w' => ∃ v : Int, e = .returned (.int .i64 v) ∧ Only g (g + 1) w w' ∧ Cur w' g (b + 2) ∧ w.heap.size ≤ w'.heap.size := by
  have R := rdI_new w 3 [1, 5, 10, 30, 100, 5000, 0, 5001, 20, 15] #[.int .i64 1, .int .i64 5, .int .i64 10, .int .i64 30, .int .i64 100, .int .i64 5000, .int .i64 0, .int .i64 5001, .int .i64 20, .int .i64 15] rfl
  have C1 := hc.below (below_alloc1 w (.cells #[.int .i64 1, .int .i64 5, .int .i64 10, .int .i64 30, .int .i64 100, .int .i64 5000, .int .i64 0, .int .i64 5001, .int .i64 20, .int .i64 15] 3)) hc.lt
  have hlt := hc.lt
  go_enter Try.func39, Try.ntmps39
  go_wp2_with fail
  refine (among_any C1 (by omega) R (.inr (by omega)) (by simp) (by decide) (by decide)).mono ?_
  rintro e w1 ⟨v, _, rfl, on, cc, z⟩
  have Z := Lib.hid z
  clear z
  go_wp2_with fail
  go_ret
  exact ⟨v, rfl, ((Only.refl g (g + 1) w).alloc _).trans on, cc, by rw [Z.out]; simp⟩

end Go.Proofs.Ytchgcpdmomeofaa
