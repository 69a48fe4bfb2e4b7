/-
  This file proves the contract of WorstLine of the program.
  Conditions: that the slice reads as a list of crossings, that it is not too long.
-/
import Derived.Test.YtiegnhpccbnhhaaCrossM
namespace Go.Proofs.Ytiegnhpccbnhhaa
open Go.RowKit
set_option linter.unusedSimpArgs false
set_option linter.unusedVariables false

theorem frac_lt {mn md a b X A d n : Int} (h1 : mn * b = a * md) (h2 : X * n = A * d) (hd : 0 < d) (hn : 0 < n) (hmd : 0 < md) (hb : 0 < b) : mn * d < X * md ↔ a * n < A * b := by
  have e1 : mn * d * (b * n) = a * n * (md * d) := by
    have : mn * d * (b * n) = (mn * b) * (d * n) := by ac_rfl
    rw [this, h1]; ac_rfl
  have e2 : X * md * (b * n) = A * b * (md * d) := by
    have : X * md * (b * n) = (X * n) * (md * b) := by ac_rfl
    rw [this, h2]; ac_rfl
  have p1 : 0 < b * n := Int.mul_pos hb hn
  have p2 : 0 < md * d := Int.mul_pos hmd hd
  constructor
  · intro h
    have := Int.mul_lt_mul_of_pos_right h p1
    rw [e1, e2] at this
    exact Int.lt_of_mul_lt_mul_right this (Int.le_of_lt p2)
  · intro h
    have := Int.mul_lt_mul_of_pos_right h p2
    rw [← e1, ← e2] at this
    exact Int.lt_of_mul_lt_mul_right this (Int.le_of_lt p1)
theorem red_facts (s n : Int) (hn : 0 < n) : redN s n * n = s * redD s n ∧ 0 < redD s n ∧ redD s n ≤ n ∧ (redN s n).natAbs ≤ s.natAbs := by
  unfold redN redD
  obtain ⟨g, hg⟩ : ∃ g, g = Nat.gcd s.natAbs n.natAbs := ⟨_, rfl⟩
  rw [← hg]
  have hpos : 0 < g := by rw [hg]; exact Nat.gcd_pos_of_pos_right _ (by omega)
  have d1 : (g : Int) ∣ s := Int.ofNat_dvd_left.2 (by rw [hg]; exact Nat.gcd_dvd_left _ _)
  have d2 : (g : Int) ∣ n := Int.ofNat_dvd_left.2 (by rw [hg]; exact Nat.gcd_dvd_right _ _)
  have e1 := Int.tdiv_mul_cancel d1
  have e2 := Int.tdiv_mul_cancel d2
  have t2 := tdiv_le n g
  have t1 := tdiv_le s g
  refine ⟨?_, ?_, by omega, by omega⟩
  · generalize s.tdiv g = x at e1 ⊢
    generalize n.tdiv g = y at e2 ⊢
    rw [← e1, ← e2]
    ac_rfl
  · generalize n.tdiv g = y at e2 ⊢
    rcases Int.lt_or_le 0 y with h | h
    · exact h
    · have := Int.mul_nonneg (show 0 ≤ -y by omega) (show (0 : Int) ≤ g by omega)
      rw [Int.neg_mul, e2] at this
      omega
theorem absI_mul_pos (x n : Int) (hn : 0 < n) : absI (x * n) = absI x * n := by
  rw [absI_nat, absI_nat, Int.natAbs_mul]
  push_cast
  rw [show ((n.natAbs : Nat) : Int) = n by omega]
theorem absI_red (s n : Int) (hn : 0 < n) : absI (redN s n) * n = absI s * redD s n ∧ 0 ≤ absI (redN s n) ∧ absI (redN s n) ≤ absI s ∧ 0 < redD s n ∧ redD s n ≤ n := by
  obtain ⟨h1, h2, h3, h4⟩ := red_facts s n hn
  refine ⟨?_, absI_nonneg _, ?_, h2, h3⟩
  · rw [← absI_mul_pos _ _ hn, h1, absI_mul_pos _ _ h2]
  · rw [absI_nat, absI_nat]; omega
theorem cmp3_pos {a b : Int} : (0 < cmp3 a b) ↔ b < a := by unfold cmp3; split <;> (try split) <;> omega

/-- What the program keeps of the best line so far. -/
def mOk (st : Int × Int × Int) (mn md : Int) : Prop := (st.1 = 0 ∧ mn = -1 ∧ md = 1) ∨ (1 ≤ st.1 ∧ 0 ≤ mn ∧ mn ≤ 210000 ∧ 1 ≤ md ∧ md ≤ 10 ∧ mn * st.2.2 = st.2.1 * md)
theorem mOk_bound {st : Int × Int × Int} {mn md : Int} (h : mOk st mn md) : -1 ≤ mn ∧ mn ≤ 210000 ∧ 1 ≤ md ∧ md ≤ 10 := by
  rcases h with ⟨_, h2, h3⟩ | ⟨_, h2, h3, h4, h5, _⟩ <;> omega
theorem mStep {st : Int × Int × Int} {mn md s n : Int} (h : mOk st mn md) (hb : 1 ≤ st.2.2) (hn : 0 < n) :
    (0 < cmp3 (absI (redN s n) * md) (mn * redD s n)) ↔ (st.1 = 0 ∨ st.2.1 * n < absI s * st.2.2) := by
  obtain ⟨r1, r2, r3, r4, r5⟩ := absI_red s n hn
  rw [cmp3_pos]
  rcases h with ⟨h1, rfl, rfl⟩ | ⟨h1, h2, h3, h4, h5, h6⟩
  · constructor
    · exact fun _ => .inl h1
    · intro _; omega
  · rw [frac_lt h6 r1 r4 hn (by omega) (by omega)]
    constructor
    · exact fun h => .inr h
    · rintro (h | h)
      · omega
      · exact h
theorem mOk_next {l s n : Int} (hl : 1 ≤ l) (hn : 0 < n) (hn2 : n ≤ 10) (hs : absI s ≤ 210000) : mOk (l, absI s, n) (absI (redN s n)) (redD s n) := by
  obtain ⟨r1, r2, r3, r4, r5⟩ := absI_red s n hn
  exact .inr ⟨hl, r2, by omega, by omega, by omega, r1⟩
theorem part_store {W : World} {g : Nat} {u v a b : Value} (h0 : W.cell? ⟨g, 0, none⟩ = some u) (h1 : W.cell? ⟨g, 1, none⟩ = some v) :
    ((W.setCell ⟨g, 0, none⟩ a).setCell ⟨g, 1, none⟩ b).cell? ⟨g, 0, none⟩ = some a ∧ ((W.setCell ⟨g, 0, none⟩ a).setCell ⟨g, 1, none⟩ b).cell? ⟨g, 1, none⟩ = some b := by
  constructor
  · rw [World.cell?_setCell_other _ _ _ _ (by simp), World.cell?_setCell_same _ _ _ h0]
  · exact World.cell?_setCell_same _ _ _ ((World.cell?_setCell_other _ _ _ _ (by simp)).trans h1)
theorem frozen_store {W : World} {g j i : Nat} {a : Value} (h : W.frozen? ⟨g, i, none⟩ = false) : (W.setCell ⟨g, j, none⟩ a).frozen? ⟨g, i, none⟩ = false := (World.frozen?_setCell _ _ _ _).trans h
/-- The two cells of the best fraction, which may be written. -/
def Cells2 (W : World) (g : Nat) (a b : Int) : Prop := W.cell? ⟨g, 0, none⟩ = some (.int .i64 a) ∧ W.cell? ⟨g, 1, none⟩ = some (.int .i64 b) ∧ W.frozen? ⟨g, 0, none⟩ = false ∧ W.frozen? ⟨g, 1, none⟩ = false
theorem Cells2.lt {W : World} {g : Nat} {a b : Int} (h : Cells2 W g a b) : g < W.heap.size := World.block_lt_of_cell? W _ h.1
theorem Cells2.below {W W' : World} {N g : Nat} {a b : Int} (h : Cells2 W g a b) (hb : Below N W W') (hg : g < N) : Cells2 W' g a b :=
  ⟨(hb.cell (p := ⟨g, 0, none⟩) hg).trans h.1, (hb.cell (p := ⟨g, 1, none⟩) hg).trans h.2.1, (hb.frozen (p := ⟨g, 0, none⟩) hg).trans h.2.2.1, (hb.frozen (p := ⟨g, 1, none⟩) hg).trans h.2.2.2⟩
theorem Cells2.store {W : World} {g : Nat} {a b : Int} (h : Cells2 W g a b) (x y : Int) : Cells2 ((W.setCell ⟨g, 0, none⟩ (.int .i64 x)).setCell ⟨g, 1, none⟩ (.int .i64 y)) g x y :=
  ⟨(part_store h.1 h.2.1).1, (part_store h.1 h.2.1).2, frozen_store (frozen_store h.2.2.1), frozen_store (frozen_store h.2.2.2)⟩

set_option maxHeartbeats 1000000 in
set_option maxRecDepth 100000 in
theorem iWorstLine {A : Option Addr} {c lo hi : Nat} {ps : List GCrossing} {w : World} (hr : RdC w lo hi A ps) (hl : ps.length ≤ 2097152) (hh : hi ≤ w.heap.size) (hcap : ps.length ≤ c) :
    Calls Try.prog 33 #[.slice A ps.length c] w (RetIB (vWorstLine ps).1 (vWorstLine ps).2 w) := by
  by_cases h1 : isCL ps = true
  rotate_left
  · have h1' : isCL ps = false := by simpa using h1
    have HE := Lib.hid (show vWorstLine ps = (0, false) from by unfold vWorstLine; rw [if_neg (by simp [h1'])])
    clear h1
    go_enter Try.func33, Try.ntmps33
    go_wp2_with fail
    refine (areCrossings_any hr hl hh hcap).mono ?_
    rintro e w1 ⟨rfl, B1⟩
    go_wp2_with fail
    go_ret2
    rw [HE.out]
    exact ⟨rfl, B1⟩
  by_cases h2 : 0 < ps.length
  rotate_left
  · have h2' := ne_len h2
    have HE := Lib.hid (show vWorstLine ps = (0, false) from by unfold vWorstLine; rw [if_neg (fun h => h2 h.2)])
    clear h2
    go_enter Try.func33, Try.ntmps33
    go_wp2_with fail
    refine (areCrossings_any hr hl hh hcap).mono ?_
    rintro e w1 ⟨rfl, B1⟩
    go_wp2_with fail
    go_ret2
    rw [HE.out]
    exact ⟨rfl, B1⟩
  have HE := Lib.hid (show vWorstLine ps = ((wLine ps 99).1, true) from by unfold vWorstLine; rw [if_pos ⟨h1, h2⟩])
  have h2' := eq_len h2
  have H1 := Lib.hid h1
  go_enter Try.func33, Try.ntmps33
  go_wp2_with fail
  refine (areCrossings_any hr hl hh hcap).mono ?_
  rintro e w1 ⟨rfl, B1⟩
  have D : Cells2 (w1.alloc (.cells #[.int .i64 (-1), .int .i64 1] 73)) w1.heap.size (-1) 1 := part_cells (-1) 1 w1 73
  have hbx := B1.trans ((below_alloc1 w1 (.cells #[.int .i64 (-1), .int .i64 1] 73)).mono B1.size)
  have hgw := B1.size
  clear h1 h2
  go_wp2_with fail
  generalize w1.alloc (.cells #[.int .i64 (-1), .int .i64 1] 73) = wx at D hbx ⊢
  generalize w1.heap.size = gb at D hgw ⊢
  clear h2'
  go_loopw [4, 6] (fun x i wr => ∃ (k : Nat) (mn md : Int), k ≤ 99 ∧ i = .int .i64 ((k : Int) + 1) ∧ x = .int .i64 (wLine ps k).1 ∧ Cells2 wr gb mn md ∧ mOk (wLine ps k) mn md ∧ Below w.heap.size w wr) (fun _ i _ => 100 - (intOf i).toNat)
  case atStart => exact ⟨0, -1, 1, by omega, rfl, rfl, D, .inl ⟨rfl, rfl, rfl⟩, hbx⟩
  case round =>
    obtain ⟨k, mn, md, hk, rfl, rfl, hc2, hmk, hb⟩ := hrel
    have hwb := wLine_bound H1.out k
    have hmb := mOk_bound hmk
    have HMK := Lib.hid hmk
    clear hmk
    by_cases hlt : k < 99
    rotate_left
    · obtain rfl : k = 99 := by omega
      go_wp2_with fail
      go_ret2
      rw [HE.out]
      exact ⟨rfl, hb⟩
    have HW := Lib.hid (wLine_succ ps k)
    have hob := own_bound (l := (k : Int) + 1) H1.out
    obtain ⟨l, hl0⟩ : ∃ l : Int, l = (k : Int) + 1 := ⟨_, rfl⟩
    rw [← hl0] at hob
    have HL := Lib.hid hl0
    have hl1 : l ≤ 99 := by omega
    have hl2 : 1 ≤ l := by omega
    have HWS := Lib.hid (show wLine ps (k + 1) = wStep ps (wLine ps k) l from by rw [HW.out, HL.out])
    have HWB := Lib.hid hwb.2.2.2.2.1
    rw [← hl0]
    clear hl0 HW hwb
    have ha' := absI_le (n := sumD (ownL ps l)) (b := 210000) (by omega) (by omega)
    by_cases hn : 0 < (ownL ps l).length
    rotate_left
    · have HN := Lib.hid (wStep_empty (st := wLine ps k) hn)
      have hn' := ne_len hn
      go_wp2_with fail
      refine (ofLine_any (l := l) (hr.below hb hh) hl (by have := hb.size; omega)).mono ?_
      rintro e w0 ⟨A0, c0, rfl, O0, B0⟩
      have hb0 := hb.trans (B0.mono hb.size)
      have hc3 := hc2.below B0 hc2.lt
      clear hc2
      go_wp2_with fail
      go_roundw
      case rel => exact ⟨k + 1, mn, md, by omega, by rw [HL.out]; go_num, by rw [HWS.out, HN.out], hc3, by rw [HWS.out, HN.out]; exact HMK.out, hb0⟩
      case measure => simp [intOf]; omega
    have hn' := eq_len hn
    obtain ⟨xn, hxn⟩ : ∃ xn, xn = redN (sumD (ownL ps l)) (ownL ps l).length := ⟨_, rfl⟩
    obtain ⟨xd, hxd⟩ : ∃ xd, xd = redD (sumD (ownL ps l)) (ownL ps l).length := ⟨_, rfl⟩
    have hrf := absI_red (sumD (ownL ps l)) (ownL ps l).length (by omega)
    have hst := mStep (s := sumD (ownL ps l)) HMK.out HWB.out (show (0 : Int) < ((ownL ps l).length : Int) by omega)
    have hnx := mOk_next (l := l) (s := sumD (ownL ps l)) (n := ((ownL ps l).length : Int)) hl2 (by omega) (by omega) ha'
    rw [← hxn, ← hxd] at hrf hst hnx
    have hx1 : -210000 ≤ xn ∧ xn ≤ 210000 := by have h := hrf.2.2.1; unfold absI at h ha'; split at h <;> split at ha' <;> omega
    have hx2 : 0 ≤ absI xn ∧ absI xn ≤ 210000 := ⟨hrf.2.1, by omega⟩
    have hx3 : 1 ≤ xd ∧ xd ≤ 10 := by have h := hrf.2.2.2; omega
    have m1 : 0 ≤ absI xn * md := Int.mul_nonneg hx2.1 (by omega)
    have m2 : absI xn * md ≤ 210000 * 10 := Int.mul_le_mul hx2.2 (by omega) (by omega) (by omega)
    have m3 : mn * xd ≤ 210000 * 10 := by
      have := Int.mul_le_mul_of_nonneg_right (show mn ≤ 210000 by omega) (show 0 ≤ xd by omega)
      omega
    have m4 : -10 ≤ mn * xd := by
      have := Int.mul_le_mul_of_nonneg_right (show -1 ≤ mn by omega) (show 0 ≤ xd by omega)
      omega
    have HXN := Lib.hid hxn
    have HXD := Lib.hid hxd
    have HST := Lib.hid hst
    have HNX := Lib.hid hnx
    clear hxn hxd hst hnx hrf
    by_cases hcp : 0 < cmp3 (absI xn * md) (mn * xd)
    · have HN := Lib.hid (wStep_yes (st := wLine ps k) hn (HST.out.1 hcp))
      go_wp2_with fail
      refine (ofLine_any (l := l) (hr.below hb hh) hl (by have := hb.size; omega)).mono ?_
      rintro e w0 ⟨A0, c0, rfl, O0, B0⟩
      have hb0 := hb.trans (B0.mono hb.size)
      have hc3 := hc2.below B0 hc2.lt
      go_wp2_with fail
      refine (meanDifference_any O0.rd (by omega) (Nat.le_refl _) (allCx_own (allCx_of H1.out)) hn).mono ?_
      rintro e w2 ⟨rfl, B2⟩
      have hb2 := hb0.trans (B2.mono hb0.size)
      have hc4 := hc3.below B2 hc3.lt
      rw [← HXN.out, ← HXD.out]
      clear hc2 hc3
      go_wp2_with fail
      refine (absOf_any xn _ (by omega) (by omega)).mono ?_
      rintro e w' ⟨rfl, rfl⟩
      have hb5 := hb2.trans ((below_alloc1 w2 (.cells #[.int .i64 (absI xn), .int .i64 xd] 73)).mono hb2.size)
      have hc5 := hc4.below (below_alloc1 w2 (.cells #[.int .i64 (absI xn), .int .i64 xd] 73)) hc4.lt
      obtain ⟨k0, k1, f0, f1⟩ := hc5
      go_wp2_with fail
      have hc5 : Cells2 _ gb mn md := ⟨k0, k1, f0, f1⟩
      have D5 : Cells2 (w2.alloc (.cells #[.int .i64 (absI xn), .int .i64 xd] 73)) w2.heap.size (absI xn) xd := part_cells (absI xn) xd w2 73
      generalize w2.alloc (.cells #[.int .i64 (absI xn), .int .i64 xd] 73) = w3 at hc5 hb5 D5 ⊢
      clear k0 k1 f0 f1 hc4
      generalize w2.heap.size = g3 at D5 ⊢
      refine (partCompare_any (absI xn) xd mn md _ ⟨by omega, by omega⟩ ⟨by omega, by omega⟩).mono ?_
      rintro e w4 ⟨rfl, B4⟩
      have hb6 := hb5.trans (B4.mono hb5.size)
      have hc6 := hc5.below B4 hc5.lt
      have D6 := D5.below B4 D5.lt
      obtain ⟨p0, p1, p2, p3⟩ := hc6
      obtain ⟨e0, e1, e2, e3⟩ := D6
      clear D5 hc5
      go_wp2_with fail
      have hc6 : Cells2 _ gb mn md := ⟨p0, p1, p2, p3⟩
      go_region
      all_goals
        go_wp2_with fail
        go_roundw
        case rel => exact ⟨k + 1, absI xn, xd, by omega, by rw [HL.out]; go_num, by rw [HWS.out, HN.out], hc6.store _ _, by rw [HWS.out, HN.out]; exact HNX.out, (hb6.drew.setCell hgw _).setCell hgw _⟩
        case measure => simp [intOf]; omega
    · have HN := Lib.hid (wStep_no (ps := ps) (st := wLine ps k) (l := l) (fun h => hcp (HST.out.2 h)))
      go_wp2_with fail
      refine (ofLine_any (l := l) (hr.below hb hh) hl (by have := hb.size; omega)).mono ?_
      rintro e w0 ⟨A0, c0, rfl, O0, B0⟩
      have hb0 := hb.trans (B0.mono hb.size)
      have hc3 := hc2.below B0 hc2.lt
      go_wp2_with fail
      refine (meanDifference_any O0.rd (by omega) (Nat.le_refl _) (allCx_own (allCx_of H1.out)) hn).mono ?_
      rintro e w2 ⟨rfl, B2⟩
      have hb2 := hb0.trans (B2.mono hb0.size)
      have hc4 := hc3.below B2 hc3.lt
      rw [← HXN.out, ← HXD.out]
      clear hc2 hc3
      go_wp2_with fail
      refine (absOf_any xn _ (by omega) (by omega)).mono ?_
      rintro e w' ⟨rfl, rfl⟩
      have hb5 := hb2.trans ((below_alloc1 w2 (.cells #[.int .i64 (absI xn), .int .i64 xd] 73)).mono hb2.size)
      have hc5 := hc4.below (below_alloc1 w2 (.cells #[.int .i64 (absI xn), .int .i64 xd] 73)) hc4.lt
      obtain ⟨k0, k1, f0, f1⟩ := hc5
      go_wp2_with fail
      have hc5 : Cells2 _ gb mn md := ⟨k0, k1, f0, f1⟩
      have D5 : Cells2 (w2.alloc (.cells #[.int .i64 (absI xn), .int .i64 xd] 73)) w2.heap.size (absI xn) xd := part_cells (absI xn) xd w2 73
      generalize w2.alloc (.cells #[.int .i64 (absI xn), .int .i64 xd] 73) = w3 at hc5 hb5 D5 ⊢
      clear k0 k1 f0 f1 hc4
      generalize w2.heap.size = g3 at D5 ⊢
      refine (partCompare_any (absI xn) xd mn md _ ⟨by omega, by omega⟩ ⟨by omega, by omega⟩).mono ?_
      rintro e w4 ⟨rfl, B4⟩
      have hb6 := hb5.trans (B4.mono hb5.size)
      have hc6 := hc5.below B4 hc5.lt
      have D6 := D5.below B4 D5.lt
      obtain ⟨p0, p1, p2, p3⟩ := hc6
      obtain ⟨e0, e1, e2, e3⟩ := D6
      clear D5 hc5
      go_wp2_with fail
      have hc6 : Cells2 _ gb mn md := ⟨p0, p1, p2, p3⟩
      go_roundw
      case rel => exact ⟨k + 1, mn, md, by omega, by rw [HL.out]; go_num, by rw [HWS.out, HN.out], hc6, by rw [HWS.out, HN.out]; exact HMK.out, hb6⟩
      case measure => simp [intOf]; omega

end Go.Proofs.Ytiegnhpccbnhhaa
