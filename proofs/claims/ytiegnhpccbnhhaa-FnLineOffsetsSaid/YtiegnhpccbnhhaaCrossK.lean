/-
  This file proves contracts of OffsetOfLine, of the program and of the reference.
  Conditions: each contract's own hypotheses (that a slice reads as a list of crossings, that it is not too long).
-/
import Derived.Test.YtiegnhpccbnhhaaCrossJ
namespace Go.Proofs.Ytiegnhpccbnhhaa
open Go.RowKit
set_option linter.unusedSimpArgs false
set_option linter.unusedVariables false

/-- Some number, which of a crossing is its difference. -/
def SomeDiff (p : GCrossing) (w : World) (e : Ending) (w' : World) : Prop := ∃ D : Int, e = .returned (.int .i64 D) ∧ (isCx p = true → D = p.ck - p.mn) ∧ Below w.heap.size w w'
theorem l10Diff_raw (p : GCrossing) (w : World) : Calls Try.prog 61 #[.agg #[.int .i64 p.ln, .int .i64 p.cr, .int .i64 p.mn, .int .i64 p.ck]] w (SomeDiff p w) := by
  by_cases hp : isCx p = true
  · exact (l10Diff_any p w hp).mono fun e w' h => ⟨_, h.1, fun _ => rfl, h.2⟩
  · have HP := Lib.hid hp
    clear hp
    go_enter Try.func61, Try.ntmps61
    go_wp2_with fail
    go_returns
    exact ⟨_, rfl, fun h => absurd h HP.out, by go_grown⟩

/-- Some sum, which of crossings is that of the line's differences, and how many there are. -/
def SomeSum (ps : List GCrossing) (l : Int) (w : World) (e : Ending) (w' : World) : Prop :=
  ∃ S : Int, e = .returned (.tuple #[.int .i64 S, .int .i64 ((ownL ps l).length : Int)]) ∧ (isCL ps = true → S = sumD (ownL ps l)) ∧ Below w.heap.size w w'
theorem own_sum_bound {ps : List GCrossing} {l : Int} {k : Nat} (h : isCL ps = true) (hk : k ≤ ps.length) : -210000 ≤ sumD (ownL (ps.take k) l) ∧ sumD (ownL (ps.take k) l) ≤ 210000 := by
  have h1 := sumD_bound (allCx_own (l := l) (allCx_take (k := k) (allCx_of h)))
  have h2 := ownL_take_le (ps := ps) (l := l) (k := k)
  have h3 := isCL_len h
  omega

set_option maxHeartbeats 2000000 in
set_option maxRecDepth 100000 in
theorem l10Offset_any {A : Option Addr} {c lo hi : Nat} {ps : List GCrossing} {l : Int} {w : World} (hr : RdC w lo hi A ps) (hl : ps.length ≤ 2097152) (hh : hi ≤ w.heap.size) :
    Calls Try.prog 64 #[.slice A ps.length c, .int .i64 l] w (SomeSum ps l w) := by
  go_enter Try.func64, Try.ntmps64
  go_wp2_with fail
  go_loopw [6, 7, 8] (fun s n i wr => ∃ (k : Nat) (S : Int), k ≤ ps.length ∧ i = .int .i64 k ∧ s = .int .i64 S ∧ n = .int .i64 ((ownL (ps.take k) l).length : Int) ∧ (isCL ps = true → S = sumD (ownL (ps.take k) l)) ∧ Below w.heap.size w wr) (fun _ _ i _ => ps.length - (intOf i).toNat)
  case atStart => exact ⟨0, 0, Nat.zero_le _, rfl, rfl, rfl, fun _ => rfl, Below.refl _ _⟩
  case round =>
    obtain ⟨k, S, hk, rfl, rfl, rfl, hS, hb⟩ := hrel
    have hgl := ownL_take_le (ps := ps) (l := l) (k := k)
    have HSS := Lib.hid hS
    clear hS
    by_cases hlt : k < ps.length
    rotate_left
    · have HTA := Lib.hid (show ps.take k = ps from List.take_of_length_le (by omega))
      go_wp2_with fail
      go_ret2
      have h := HSS.out
      rw [HTA.out] at h ⊢
      exact ⟨S, rfl, h, hb⟩
    obtain ⟨b, off, p, rfl, hblo, hbhi, hp, c0, c1, c2, c3⟩ := (hr.below hb hh).getCrossing hlt
    have HP := Lib.hid hp
    have q1 : (k : Int) < (ps.length : Int) := by omega
    clear hp
    by_cases hln : p.ln = l
    · have HG := Lib.hid (ownL_yes HP.out hln)
      have s1 : (p.ln == l) = true := by simpa using hln
      clear hln
      go_wp2_with fail
      refine (l10Diff_raw p _).mono ?_
      rintro e w5 ⟨D, rfl, hD, B5⟩
      have HD := Lib.hid hD
      clear hD
      have hb5 := hb.trans (B5.mono hb.size)
      go_wp2_with fail
      go_roundw
      case rel =>
        refine ⟨k + 1, _, by omega, by go_num, rfl, by rw [HG.out, List.length_append]; go_num, fun h => ?_, hb5⟩
        have hpb := isCx_bound (isCL_get h HP.out)
        have hob := own_sum_bound (l := l) h hk
        rw [HG.out, sumD_snoc, HSS.out h, HD.out (isCL_get h HP.out)]
        exact IntWalk.wrap64_in _ ⟨by omega, by omega⟩
      case measure => simp [intOf]; omega
    · have HG := Lib.hid (ownL_no HP.out hln)
      have s1 : (p.ln == l) = false := by simpa using hln
      clear hln
      go_wp2_with fail
      go_roundw
      case rel => exact ⟨k + 1, S, by omega, by go_num, rfl, by rw [HG.out], fun h => by rw [HG.out]; exact HSS.out h, hb⟩
      case measure => simp [intOf]; omega

def vOffsetOfLine (ps : List GCrossing) (l : Int) : Int × Int × Bool :=
  if isCL ps = true ∧ 0 < (ownL ps l).length then (redN (sumD (ownL ps l)) (ownL ps l).length, redD (sumD (ownL ps l)) (ownL ps l).length, true) else (0, 0, false)

set_option maxHeartbeats 2000000 in
set_option maxRecDepth 100000 in
theorem iOffsetOfLine {A : Option Addr} {c lo hi : Nat} {ps : List GCrossing} {l : Int} {w : World} (hr : RdC w lo hi A ps) (hl : ps.length ≤ 2097152) (hh : hi ≤ w.heap.size) (hcap : ps.length ≤ c) :
    Calls Try.prog 22 #[.slice A ps.length c, .int .i64 l] w (RetIIB (vOffsetOfLine ps l).1 (vOffsetOfLine ps l).2.1 (vOffsetOfLine ps l).2.2 w) := by
  by_cases h1 : isCL ps = true
  rotate_left
  · have h1' : isCL ps = false := by simpa using h1
    have HE := Lib.hid (show vOffsetOfLine ps l = (0, 0, false) from by unfold vOffsetOfLine; rw [if_neg (by simp [h1'])])
    clear h1
    go_enter Try.func22, Try.ntmps22
    go_wp2_with fail
    refine (ofLine_any (l := l) hr hl hh).mono ?_
    rintro e w0 ⟨A0, c0, rfl, O0, B0⟩
    have s0 := B0.size
    go_wp2_with fail
    refine (areCrossings_any (hr.below B0 hh) hl (by omega) hcap).mono ?_
    rintro e w1 ⟨rfl, B1⟩
    have B2 := B0.trans (B1.mono s0)
    go_wp2_with fail
    go_ret3
    rw [HE.out]
    exact ⟨rfl, B2⟩
  by_cases h2 : 0 < (ownL ps l).length
  rotate_left
  · have h2' := ne_len h2
    have HE := Lib.hid (show vOffsetOfLine ps l = (0, 0, false) from by unfold vOffsetOfLine; rw [if_neg (fun h => h2 h.2)])
    clear h2
    go_enter Try.func22, Try.ntmps22
    go_wp2_with fail
    refine (ofLine_any (l := l) hr hl hh).mono ?_
    rintro e w0 ⟨A0, c0, rfl, O0, B0⟩
    have s0 := B0.size
    go_wp2_with fail
    refine (areCrossings_any (hr.below B0 hh) hl (by omega) hcap).mono ?_
    rintro e w1 ⟨rfl, B1⟩
    have B2 := B0.trans (B1.mono s0)
    go_wp2_with fail
    go_ret3
    rw [HE.out]
    exact ⟨rfl, B2⟩
  have HE := Lib.hid (show vOffsetOfLine ps l = (redN (sumD (ownL ps l)) (ownL ps l).length, redD (sumD (ownL ps l)) (ownL ps l).length, true) from by unfold vOffsetOfLine; rw [if_pos ⟨h1, h2⟩])
  have h2' := eq_len h2
  have H1 := Lib.hid h1
  have HC := Lib.hid (allCx_own (l := l) (allCx_of h1))
  have hn := ownL_le ps l
  have hsb := sumD_bound (allCx_own (l := l) (allCx_of h1))
  go_enter Try.func22, Try.ntmps22
  go_wp2_with fail
  refine (ofLine_any (l := l) hr hl hh).mono ?_
  rintro e w0 ⟨A0, c0, rfl, O0, B0⟩
  have s0 := B0.size
  go_wp2_with fail
  refine (areCrossings_any (hr.below B0 hh) hl (by omega) hcap).mono ?_
  rintro e w1 ⟨rfl, B1⟩
  have B2 := B0.trans (B1.mono s0)
  go_wp2_with fail
  refine (meanDifference_any (O0.rd.below B1 (Nat.le_refl _)) (by omega) B1.size HC.out h2).mono ?_
  rintro e w2 ⟨rfl, B3⟩
  have B4 := B2.trans (B3.mono B2.size)
  have D := part_cells (redN (sumD (ownL ps l)) (ownL ps l).length) (redD (sumD (ownL ps l)) (ownL ps l).length) w2 73
  have hbx := B4.trans ((below_alloc1 w2 (.cells #[.int .i64 (redN (sumD (ownL ps l)) (ownL ps l).length), .int .i64 (redD (sumD (ownL ps l)) (ownL ps l).length)] 73)).mono B4.size)
  go_wp2_with fail
  generalize w2.alloc (.cells #[.int .i64 (redN (sumD (ownL ps l)) (ownL ps l).length), .int .i64 (redD (sumD (ownL ps l)) (ownL ps l).length)] 73) = wx at D hbx ⊢
  obtain ⟨d0, d1, f0, f1⟩ := D
  go_quiet (fail)
  go_wp2_with fail
  go_ret3
  rw [HE.out]
  exact ⟨rfl, below_drewN hbx _⟩

set_option maxHeartbeats 2000000 in
set_option maxRecDepth 100000 in
theorem sOffsetOfLine {A : Option Addr} {c lo hi : Nat} {ps : List GCrossing} {l : Int} {w : World} (hr : RdC w lo hi A ps) (hl : ps.length ≤ 2097152) (hh : hi ≤ w.heap.size) :
    Calls Try.prog 21 #[.slice A ps.length c, .int .i64 l] w (RetIIB (vOffsetOfLine ps l).1 (vOffsetOfLine ps l).2.1 (vOffsetOfLine ps l).2.2 w) := by
  by_cases h1 : isCL ps = true
  rotate_left
  · have h1' : isCL ps = false := by simpa using h1
    have HE := Lib.hid (show vOffsetOfLine ps l = (0, 0, false) from by unfold vOffsetOfLine; rw [if_neg (by simp [h1'])])
    clear h1
    go_enter Try.func21, Try.ntmps21
    go_wp2_with fail
    refine (l10Offset_any (l := l) hr hl hh).mono ?_
    rintro e w0 ⟨S, rfl, hS, B0⟩
    have HS := Lib.hid hS
    clear hS
    have s0 := B0.size
    go_wp2_with fail
    refine (l10Good_any (hr.below B0 hh) hl (by omega)).mono ?_
    rintro e w1 ⟨rfl, B1⟩
    have B2 := B0.trans (B1.mono s0)
    go_wp2_with fail
    go_ret3
    rw [HE.out]
    exact ⟨rfl, B2⟩
  by_cases h2 : 0 < (ownL ps l).length
  rotate_left
  · have h2' := ne_len h2
    have HE := Lib.hid (show vOffsetOfLine ps l = (0, 0, false) from by unfold vOffsetOfLine; rw [if_neg (fun h => h2 h.2)])
    clear h2
    go_enter Try.func21, Try.ntmps21
    go_wp2_with fail
    refine (l10Offset_any (l := l) hr hl hh).mono ?_
    rintro e w0 ⟨S, rfl, hS, B0⟩
    have HS := Lib.hid hS
    clear hS
    have s0 := B0.size
    go_wp2_with fail
    refine (l10Good_any (hr.below B0 hh) hl (by omega)).mono ?_
    rintro e w1 ⟨rfl, B1⟩
    have B2 := B0.trans (B1.mono s0)
    go_wp2_with fail
    go_ret3
    rw [HE.out]
    exact ⟨rfl, B2⟩
  have HE := Lib.hid (show vOffsetOfLine ps l = (redN (sumD (ownL ps l)) (ownL ps l).length, redD (sumD (ownL ps l)) (ownL ps l).length, true) from by unfold vOffsetOfLine; rw [if_pos ⟨h1, h2⟩])
  have h2' := eq_len h2
  have H1 := Lib.hid h1
  have HC := Lib.hid (allCx_own (l := l) (allCx_of h1))
  have hn := ownL_le ps l
  have hsb := sumD_bound (allCx_own (l := l) (allCx_of h1))
  go_enter Try.func21, Try.ntmps21
  go_wp2_with fail
  refine (l10Offset_any (l := l) hr hl hh).mono ?_
  rintro e w0 ⟨S, rfl, hS, B0⟩
  have HS := Lib.hid hS
  clear hS
  have s0 := B0.size
  go_wp2_with fail
  refine (l10Good_any (hr.below B0 hh) hl (by omega)).mono ?_
  rintro e w1 ⟨rfl, B1⟩
  have B2 := B0.trans (B1.mono s0)
  go_wp2_with fail
  rw [HS.out H1.out]
  refine (l2Reduce_any (sumD (ownL ps l)) (ownL ps l).length _ (by omega) (by omega) (by omega)).mono ?_
  rintro e w3 ⟨rfl, n, rfl⟩
  have hb3 := below_drewN B2 n
  go_wp2_with fail
  go_ret3
  rw [HE.out]
  exact ⟨rfl, hb3⟩

end Go.Proofs.Ytiegnhpccbnhhaa
