/-
  This file proves contracts of MeanDifference, of the program and of the reference.
  Conditions: each contract's own hypotheses (that a slice reads as a list of crossings, that it is not too long).
-/
import Derived.Test.YtiegnhpccbnhhaaCrossI
namespace Go.Proofs.Ytiegnhpccbnhhaa
open Go.RowKit
set_option linter.unusedSimpArgs false
set_option linter.unusedVariables false

theorem part_cells (a b : Int) (w : World) (t : TypeId) : (w.alloc (.cells #[.int .i64 a, .int .i64 b] t)).cell? ⟨w.heap.size, 0, none⟩ = some (.int .i64 a) ∧ (w.alloc (.cells #[.int .i64 a, .int .i64 b] t)).cell? ⟨w.heap.size, 1, none⟩ = some (.int .i64 b)
    ∧ (w.alloc (.cells #[.int .i64 a, .int .i64 b] t)).frozen? ⟨w.heap.size, 0, none⟩ = false ∧ (w.alloc (.cells #[.int .i64 a, .int .i64 b] t)).frozen? ⟨w.heap.size, 1, none⟩ = false := by
  have h := heap_alloc_new w (.cells #[.int .i64 a, .int .i64 b] t)
  refine ⟨?_, ?_, ?_, ?_⟩
  · rw [cell_of_row _ _ _ _ _ (0, 0) h]; rfl
  · rw [cell_of_row _ _ _ _ _ (0, 0) h]; rfl
  · unfold World.frozen?; rw [h]; rfl
  · unfold World.frozen?; rw [h]; rfl

theorem take_snocC {xs : List GCrossing} {k : Nat} {x : GCrossing} (h : xs[k]? = some x) : xs.take (k + 1) = xs.take k ++ [x] := by rw [List.take_add_one, h]; rfl

theorem red_le (a b : Int) : -(a.natAbs : Int) ≤ redN a b ∧ redN a b ≤ a.natAbs := tdiv_le _ _

set_option maxHeartbeats 1000000 in
theorem asPart_any (a b : Int) (w : World) (ha : a.natAbs ≤ 1099511627776) (hb : b.natAbs ≤ 1099511627776) (hb0 : 0 < b) :
    Calls Try.prog 77 #[.int .i64 a, .int .i64 b] w fun e w' => e = .returned (.agg #[.int .i64 (redN a b), .int .i64 (redD a b)]) ∧ Below w.heap.size w w' := by
  go_enter Try.func77, Try.ntmps77
  have D := part_cells 0 0 w 73
  have hbx := below_alloc1 w (.cells #[.int .i64 0, .int .i64 0] 73)
  go_wp2_with fail
  generalize w.alloc (.cells #[.int .i64 0, .int .i64 0] 73) = wx at D hbx ⊢
  obtain ⟨d0, d1, f0, f1⟩ := D
  refine (lowestTerms_any a b _ ha hb hb0).mono ?_
  rintro e w1 ⟨rfl, n, rfl⟩
  have d0' : (wx.drewN n).cell? ⟨w.heap.size, 0, none⟩ = some (.int .i64 0) := d0
  have d1' : (wx.drewN n).cell? ⟨w.heap.size, 1, none⟩ = some (.int .i64 0) := d1
  have f0' : (wx.drewN n).frozen? ⟨w.heap.size, 0, none⟩ = false := f0
  have f1' : (wx.drewN n).frozen? ⟨w.heap.size, 1, none⟩ = false := f1
  have hbx' := below_drewN hbx n
  generalize wx.drewN n = wy at d0' d1' f0' f1' hbx' ⊢
  clear d0 d1 f0 f1
  go_wp2_with fail
  refine bodyPost_ret (v := .agg #[.int .i64 (redN a b), .int .i64 (redD a b)]) (by simp [results, Try.results77, go_sem, d0', d1']) rfl ?_
  exact ⟨rfl, (hbx'.setCell (Nat.le_refl _) _).setCell (Nat.le_refl _) _⟩

set_option maxHeartbeats 2000000 in
set_option maxRecDepth 100000 in
theorem meanDifference_any {A : Option Addr} {c lo hi : Nat} {ps : List GCrossing} {w : World} (hr : RdC w lo hi A ps) (hl : ps.length ≤ 2097152) (hh : hi ≤ w.heap.size) (hcx : allCx ps) (h0 : 0 < ps.length) :
    Calls Try.prog 63 #[.slice A ps.length c] w fun e w' => e = .returned (.agg #[.int .i64 (redN (sumD ps) ps.length), .int .i64 (redD (sumD ps) ps.length)]) ∧ Below w.heap.size w w' := by
  have HCX := Lib.hid hcx
  have hsb0 := sumD_bound hcx
  clear hcx
  go_enter Try.func63, Try.ntmps63
  have D := part_cells 0 0 w 73
  have hbx := below_alloc1 w (.cells #[.int .i64 0, .int .i64 0] 73)
  go_wp2_with fail
  generalize w.alloc (.cells #[.int .i64 0, .int .i64 0] 73) = wx at D hbx ⊢
  obtain ⟨d0, d1, f0, f1⟩ := D
  obtain ⟨N, hNN⟩ : ∃ N, N = wx.heap.size := ⟨_, rfl⟩
  have hgN : w.heap.size < N := by rw [hNN]; exact World.block_lt_of_cell? wx _ d0
  generalize hgb : w.heap.size = gb at d0 d1 f0 f1 hgN ⊢
  rw [hgb] at hbx hh
  go_loopw [3, 8] (fun s i wr => ∃ k : Nat, k ≤ ps.length ∧ i = .int .i64 k ∧ s = .int .i64 (sumD (ps.take k)) ∧ Below N wx wr) (fun _ i _ => ps.length - (intOf i).toNat)
  case atStart => exact ⟨0, Nat.zero_le _, rfl, rfl, Below.refl _ _⟩
  case round =>
    obtain ⟨k, hk, rfl, rfl, hby⟩ := hrel
    have hbz := hbx.trans (hby.mono (Nat.le_of_lt hgN))
    have hsb := sumD_bound (allCx_take (k := k) HCX.out)
    have hlk : (ps.take k).length = k := by rw [List.length_take]; omega
    rw [hlk] at hsb
    clear hlk
    by_cases hlt : k < ps.length
    rotate_left
    · have HTA := Lib.hid (show ps.take k = ps from List.take_of_length_le (by omega))
      rw [HTA.out]
      obtain rfl : k = ps.length := by omega
      have e0 := (hby.cell (p := ⟨gb, 0, none⟩) hgN).trans d0
      have e1 := (hby.cell (p := ⟨gb, 1, none⟩) hgN).trans d1
      have g0 := (hby.frozen (p := ⟨gb, 0, none⟩) hgN).trans f0
      have g1 := (hby.frozen (p := ⟨gb, 1, none⟩) hgN).trans f1
      go_wp2_with fail
      refine (asPart_any (sumD ps) ps.length _ (by omega) (by omega) (by omega)).mono ?_
      rintro e w5 ⟨rfl, B5⟩
      have hs5 := hby.size
      have k0 := (B5.cell (p := ⟨gb, 0, none⟩) (show gb < _ from by omega)).trans e0
      have k1 := (B5.cell (p := ⟨gb, 1, none⟩) (show gb < _ from by omega)).trans e1
      have m0 := (B5.frozen (p := ⟨gb, 0, none⟩) (show gb < _ from by omega)).trans g0
      have m1 := (B5.frozen (p := ⟨gb, 1, none⟩) (show gb < _ from by omega)).trans g1
      have hb5 := hbz.trans (B5.mono (by omega))
      clear d0 d1 f0 f1 e0 e1 g0 g1
      obtain ⟨rn, hrn⟩ : ∃ rn, rn = redN (sumD ps) ps.length := ⟨_, rfl⟩
      obtain ⟨rd, hrd⟩ : ∃ rd, rd = redD (sumD ps) ps.length := ⟨_, rfl⟩
      rw [← hrn, ← hrd]
      have HRN := Lib.hid hrn
      have HRD := Lib.hid hrd
      clear hrn hrd
      go_wp2_with fail
      refine bodyPost_ret (v := .agg #[.int .i64 rn, .int .i64 rd]) (by simp [results, Try.results63, go_sem, k0, k1]) rfl ?_
      exact ⟨by rw [HRN.out, HRD.out], by rw [hgb]; exact (hb5.setCell (Nat.le_refl _) _).setCell (Nat.le_refl _) _⟩
    obtain ⟨b, off, p, rfl, hblo, hbhi, hp, c0, c1, c2, c3⟩ := (hr.below hbz hh).getCrossing hlt
    have hpb := isCx_bound (HCX.out k p hp)
    have HS := Lib.hid (show sumD (ps.take (k + 1)) = sumD (ps.take k) + (p.ck - p.mn) from by rw [take_snocC hp, sumD_snoc])
    have q1 : (k : Int) < (ps.length : Int) := by omega
    clear hp
    generalize sumD (ps.take k) = s0 at hsb HS ⊢
    have E := Crossing_cells p wr 59
    have hbx2 : Below N wx (wr.alloc (.cells #[.int .i64 p.ln, .int .i64 p.cr, .int .i64 p.mn, .int .i64 p.ck] 59)) := hby.trans ((below_alloc1 _ _).mono (by have := hby.size; omega))
    go_wp2_with fail
    go_roundw
    case rel => exact ⟨k + 1, by omega, by go_num, by rw [HS.out], hbx2⟩
    case measure => simp [intOf]; omega

def vMeanDifference (ps : List GCrossing) : Int × Int × Bool := if isCL ps = true ∧ 0 < ps.length then (redN (sumD ps) ps.length, redD (sumD ps) ps.length, true) else (0, 0, false)
theorem ne_len {n : Nat} (h : ¬ 0 < n) : ((n : Int) == 0) = true := by simp; omega
theorem eq_len {n : Nat} (h : 0 < n) : ((n : Int) == 0) = false := by simp; omega

set_option maxHeartbeats 2000000 in
set_option maxRecDepth 100000 in
theorem iMeanDifference {A : Option Addr} {c lo hi : Nat} {ps : List GCrossing} {w : World} (hr : RdC w lo hi A ps) (hl : ps.length ≤ 2097152) (hh : hi ≤ w.heap.size) (hcap : ps.length ≤ c) :
    Calls Try.prog 20 #[.slice A ps.length c] w (RetIIB (vMeanDifference ps).1 (vMeanDifference ps).2.1 (vMeanDifference ps).2.2 w) := by
  by_cases h1 : isCL ps = true
  rotate_left
  · have h1' : isCL ps = false := by simpa using h1
    have HE := Lib.hid (show vMeanDifference ps = (0, 0, false) from by unfold vMeanDifference; rw [if_neg (by simp [h1'])])
    clear h1
    go_enter Try.func20, Try.ntmps20
    go_wp2_with fail
    refine (areCrossings_any hr hl hh hcap).mono ?_
    rintro e w1 ⟨rfl, B1⟩
    go_wp2_with fail
    go_ret3
    rw [HE.out]
    exact ⟨rfl, B1⟩
  by_cases h2 : 0 < ps.length
  rotate_left
  · have h2' := ne_len h2
    have HE := Lib.hid (show vMeanDifference ps = (0, 0, false) from by unfold vMeanDifference; rw [if_neg (fun h => h2 h.2)])
    clear h2
    go_enter Try.func20, Try.ntmps20
    go_wp2_with fail
    refine (areCrossings_any hr hl hh hcap).mono ?_
    rintro e w1 ⟨rfl, B1⟩
    go_wp2_with fail
    go_ret3
    rw [HE.out]
    exact ⟨rfl, B1⟩
  have HE := Lib.hid (show vMeanDifference ps = (redN (sumD ps) ps.length, redD (sumD ps) ps.length, true) from by unfold vMeanDifference; rw [if_pos ⟨h1, h2⟩])
  have h2' := eq_len h2
  have HC := Lib.hid (allCx_of h1)
  have hn := isCL_len h1
  go_enter Try.func20, Try.ntmps20
  go_wp2_with fail
  refine (areCrossings_any hr hl hh hcap).mono ?_
  rintro e w1 ⟨rfl, B1⟩
  go_wp2_with fail
  refine (meanDifference_any (hr.below B1 hh) hl (by have := B1.size; omega) HC.out h2).mono ?_
  rintro e w2 ⟨rfl, B2⟩
  have B3 := B1.trans (B2.mono B1.size)
  have D := part_cells (redN (sumD ps) ps.length) (redD (sumD ps) ps.length) w2 73
  have hbx := B3.trans ((below_alloc1 w2 (.cells #[.int .i64 (redN (sumD ps) ps.length), .int .i64 (redD (sumD ps) ps.length)] 73)).mono B3.size)
  go_wp2_with fail
  generalize w2.alloc (.cells #[.int .i64 (redN (sumD ps) ps.length), .int .i64 (redD (sumD ps) ps.length)] 73) = wx at D hbx ⊢
  obtain ⟨d0, d1, f0, f1⟩ := D
  go_quiet (fail)
  go_wp2_with fail
  go_ret3
  rw [HE.out]
  exact ⟨rfl, below_drewN hbx _⟩

set_option maxHeartbeats 2000000 in
set_option maxRecDepth 100000 in
theorem sMeanDifference {A : Option Addr} {c lo hi : Nat} {ps : List GCrossing} {w : World} (hr : RdC w lo hi A ps) (hl : ps.length ≤ 2097152) (hh : hi ≤ w.heap.size) :
    Calls Try.prog 19 #[.slice A ps.length c] w (RetIIB (vMeanDifference ps).1 (vMeanDifference ps).2.1 (vMeanDifference ps).2.2 w) := by
  by_cases h1 : isCL ps = true
  rotate_left
  · have h1' : isCL ps = false := by simpa using h1
    have HE := Lib.hid (show vMeanDifference ps = (0, 0, false) from by unfold vMeanDifference; rw [if_neg (by simp [h1'])])
    clear h1
    go_enter Try.func19, Try.ntmps19
    go_wp2_with fail
    refine (l10Good_any hr hl hh).mono ?_
    rintro e w1 ⟨rfl, B1⟩
    go_wp2_with fail
    go_ret3
    rw [HE.out]
    exact ⟨rfl, B1⟩
  by_cases h2 : 0 < ps.length
  rotate_left
  · have h2' := ne_len h2
    have HE := Lib.hid (show vMeanDifference ps = (0, 0, false) from by unfold vMeanDifference; rw [if_neg (fun h => h2 h.2)])
    clear h2
    go_enter Try.func19, Try.ntmps19
    go_wp2_with fail
    refine (l10Good_any hr hl hh).mono ?_
    rintro e w1 ⟨rfl, B1⟩
    go_wp2_with fail
    go_ret3
    rw [HE.out]
    exact ⟨rfl, B1⟩
  have HE := Lib.hid (show vMeanDifference ps = (redN (sumD ps) ps.length, redD (sumD ps) ps.length, true) from by unfold vMeanDifference; rw [if_pos ⟨h1, h2⟩])
  have h2' := eq_len h2
  have HC := Lib.hid (allCx_of h1)
  have hn := isCL_len h1
  go_enter Try.func19, Try.ntmps19
  go_wp2_with fail
  refine (l10Good_any hr hl hh).mono ?_
  rintro e w1 ⟨rfl, B1⟩
  go_wp2_with fail
  clear h1 h2'
  go_loopw [5, 6] (fun s i wr => ∃ k : Nat, k ≤ ps.length ∧ i = .int .i64 k ∧ s = .int .i64 (sumD (ps.take k)) ∧ Below w.heap.size w wr) (fun _ i _ => ps.length - (intOf i).toNat)
  case atStart => exact ⟨0, Nat.zero_le _, rfl, rfl, B1⟩
  case round =>
    obtain ⟨k, hk, rfl, rfl, hb⟩ := hrel
    have hsb := sumD_bound (allCx_take (k := k) HC.out)
    have hlk : (ps.take k).length = k := by rw [List.length_take]; omega
    rw [hlk] at hsb
    clear hlk
    by_cases hlt : k < ps.length
    rotate_left
    · have HTA := Lib.hid (show ps.take k = ps from List.take_of_length_le (by omega))
      rw [HTA.out] at hsb ⊢
      go_wp2_with fail
      refine (l2Reduce_any (sumD ps) ps.length _ (by omega) (by omega) (by omega)).mono ?_
      rintro e w3 ⟨rfl, n, rfl⟩
      have hb3 := below_drewN hb n
      go_wp2_with fail
      go_ret3
      rw [HE.out]
      exact ⟨rfl, hb3⟩
    obtain ⟨b, off, p, rfl, hblo, hbhi, hp, c0, c1, c2, c3⟩ := (hr.below hb hh).getCrossing hlt
    have HX := Lib.hid (HC.out k p hp)
    have hpb := isCx_bound (HC.out k p hp)
    have HS := Lib.hid (show sumD (ps.take (k + 1)) = sumD (ps.take k) + (p.ck - p.mn) from by rw [take_snocC hp, sumD_snoc])
    have q1 : (k : Int) < (ps.length : Int) := by omega
    clear hp
    generalize sumD (ps.take k) = s0 at hsb HS ⊢
    go_wp2_with fail
    refine (l10Diff_any p _ HX.out).mono ?_
    rintro e w5 ⟨rfl, B5⟩
    have hb5 := hb.trans (B5.mono hb.size)
    go_wp2_with fail
    go_roundw
    case rel => exact ⟨k + 1, by omega, by go_num, by rw [HS.out], hb5⟩
    case measure => simp [intOf]; omega

end Go.Proofs.Ytiegnhpccbnhhaa
