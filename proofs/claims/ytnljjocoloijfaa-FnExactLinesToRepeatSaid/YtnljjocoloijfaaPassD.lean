/-
  This file proves contracts of MinutesOn and LongestBreak, of the program and of the reference.
  Conditions: each contract's own hypotheses (that a slice reads as a list of passes, that it is not too long).
-/
import Derived.Test.YtnljjocoloijfaaPassC
import Derived.Test.YtnljjocoloijfaaBase2
namespace Go.Proofs.Ytnljjocoloijfaa
open Go.RowKit
set_option linter.unusedSimpArgs false
set_option linter.unusedVariables false

theorem isPL_get {ps : List GPass} {k : Nat} {p : GPass} (h : isPL ps = true) (hp : ps[k]? = some p) : isPs p = true ∧ ps.length ≤ 12 := by
  unfold isPL at h
  rw [Bool.and_eq_true, List.all_eq_true] at h
  have hk : k < ps.length := (List.getElem?_eq_some_iff.1 hp).1
  have := h.1 k (List.mem_range.2 hk)
  unfold pOk at this
  rw [hp, Bool.and_eq_true] at this
  exact ⟨by simpa using this.1, by simpa using h.2⟩
theorem isPs_bound {p : GPass} (h : isPs p = true) : (1 ≤ p.ln ∧ p.ln ≤ 999) ∧ (0 ≤ p.bg ∧ p.bg < p.en ∧ p.en ≤ 10000) ∧ (0 ≤ p.bd ∧ p.bd ≤ p.pg ∧ p.pg ≤ 100000) ∧ (0 ≤ p.cs ∧ p.cs ≤ 359) := by
  simp only [isPs, Bool.and_eq_true, inR_true, decide_eq_true_eq] at h
  omega
theorem isPL_len {ps : List GPass} (h : isPL ps = true) : ps.length ≤ 12 := by
  unfold isPL at h
  rw [Bool.and_eq_true] at h
  simpa using h.2
def gP (ps : List GPass) (k : Nat) : GPass := ps.getD k ⟨0, 0, 0, 0, 0, 0⟩
theorem gP_of {ps : List GPass} {k : Nat} {p : GPass} (h : ps[k]? = some p) : gP ps k = p := by simp [gP, List.getD, h]

/-- The minutes of pass i, where it is of the line. -/
def fMin (ps : List GPass) (line : Int) (i : Nat) : Int := if (gP ps i).ln = line then (gP ps i).en - (gP ps i).bg else 0
theorem fMin_bound {ps : List GPass} {line : Int} (h : isPL ps = true) (k : Nat) (hk : k ≤ ps.length) : 0 ≤ rsum (fMin ps line) k ∧ rsum (fMin ps line) k ≤ 120000 := by
  have h12 := isPL_len h
  have := rsum_bound (f := fMin ps line) (B := 10000) (k := k) (fun i hi => by
    have hp : ps[i]? = some ps[i] := List.getElem?_eq_getElem (by omega)
    have hb := isPs_bound (isPL_get h hp).1
    unfold fMin
    rw [gP_of hp]
    split <;> omega)
  omega
def vMinutesOn (ps : List GPass) (line : Int) : Int × Bool := if isPL ps = true ∧ inR line 1 999 = true then (rsum (fMin ps line) ps.length, true) else (0, false)

/-- The pass before which the greatest break of the first k lies (it begins at 1). -/
def brk (ps : List GPass) : Nat → Nat
  | 0 => 1
  | k + 1 => if 1 ≤ k ∧ (gP ps (brk ps k)).bg - (gP ps (brk ps k - 1)).en < (gP ps (k + 1)).bg - (gP ps k).en then k + 1 else brk ps k
theorem brk_le (ps : List GPass) (k : Nat) : 1 ≤ brk ps k ∧ brk ps k ≤ max k 1 := by
  induction k with
  | zero => simp [brk]
  | succ k ih =>
    unfold brk
    split <;> omega
def vLongestBreak (ps : List GPass) : Int × Int × Bool := if isPL ps = true ∧ 2 ≤ ps.length then ((gP ps (brk ps (ps.length - 1) - 1)).en, (gP ps (brk ps (ps.length - 1))).bg, true) else (0, 0, false)

set_option maxHeartbeats 2000000 in
set_option maxRecDepth 100000 in
theorem iMinutesOn {A : Option Addr} {c lo hi : Nat} {ps : List GPass} {line : Int} {w : World} (hr : RdP w lo hi A ps) (hl : ps.length ≤ 2097152) (hh : hi ≤ w.heap.size) :
    Calls Try.prog 17 #[.slice A ps.length c, .int .i64 line] w (RetIB (vMinutesOn ps line).1 (vMinutesOn ps line).2 w) := by
  by_cases h1 : isPL ps = true
  rotate_left
  · have h1' : isPL ps = false := by simpa using h1
    clear h1
    have HE := Lib.hid (show vMinutesOn ps line = (0, false) from by unfold vMinutesOn; rw [if_neg (by simp [h1'])])
    go_enter Try.func17, Try.ntmps17
    go_wp2_with fail
    refine (arePasses_any hr (by omega) hh).mono ?_
    rintro e w1 ⟨rfl, B1⟩
    go_wp2_with fail
    go_ret2
    rw [HE.out]
    exact ⟨rfl, B1⟩
  by_cases h2 : inR line 1 999 = true
  rotate_left
  · have h2' : inR line 1 999 = false := by simpa using h2
    clear h2
    have HE := Lib.hid (show vMinutesOn ps line = (0, false) from by unfold vMinutesOn; rw [if_neg (by simp [h2'])])
    go_enter Try.func17, Try.ntmps17
    go_wp2_with fail
    refine (arePasses_any hr (by omega) hh).mono ?_
    rintro e w1 ⟨rfl, B1⟩
    go_wp2_with (go_at_call 34; refine (isLine_any _ _).mono ?_; rintro e w' ⟨rfl, rfl⟩)
    go_ret2
    rw [HE.out]
    exact ⟨rfl, B1⟩
  have HE := Lib.hid (show vMinutesOn ps line = (rsum (fMin ps line) ps.length, true) from by unfold vMinutesOn; rw [if_pos ⟨h1, h2⟩])
  have H1 := Lib.hid h1
  go_enter Try.func17, Try.ntmps17
  go_wp2_with fail
  refine (arePasses_any hr (by omega) hh).mono ?_
  rintro e w1 ⟨rfl, B1⟩
  skip
  go_wp2_with (go_at_call 34; refine (isLine_any _ _).mono ?_; rintro e w' ⟨rfl, rfl⟩)
  clear h1
  go_loopw [6, 19] (fun s i wr => ∃ k : Nat, k ≤ ps.length ∧ i = .int .i64 k ∧ s = .int .i64 (rsum (fMin ps line) k) ∧ Below w.heap.size w wr) (fun _ i _ => ps.length - (intOf i).toNat)
  case atStart => exact ⟨0, Nat.zero_le _, rfl, rfl, B1⟩
  case round =>
    obtain ⟨k, hk, rfl, rfl, hb⟩ := hrel
    have hsb := fMin_bound (line := line) H1.out k hk
    have HS := Lib.hid (rsum_succ (fMin ps line) k)
    by_cases hlt : k < ps.length
    rotate_left
    · obtain rfl : k = ps.length := by omega
      go_wp2_with fail
      go_ret2
      rw [HE.out]
      exact ⟨rfl, hb⟩
    obtain ⟨b, off, p, rfl, hblo, hbhi, hp, c0, c1, c2, c3, c4, c5⟩ := (hr.below hb hh).getp hlt
    have hpb := isPs_bound (isPL_get H1.out hp).1
    have HP := Lib.hid hp
    have q1 : (k : Int) < (ps.length : Int) := by omega
    clear hp
    generalize rsum (fMin ps line) k = sm at hsb HS ⊢
    have q2 : IntKind.i64.wrap (p.en - p.bg) = p.en - p.bg := wr64 (by omega) (by omega)
    have q3 : IntKind.i64.wrap (sm + (p.en - p.bg)) = sm + (p.en - p.bg) := wr64 (by omega) (by omega)
    have q4 : IntKind.i64.wrap (sm + p.en) = sm + p.en := wr64 (by omega) (by omega)
    have q5 : IntKind.i64.wrap (sm + p.en - p.bg) = sm + p.en - p.bg := wr64 (by omega) (by omega)
    by_cases hln : p.ln = line
    · have HN := Lib.hid (show rsum (fMin ps line) (k + 1) = sm + (p.en - p.bg) from by rw [HS.out, fMin, gP_of HP.out, if_pos hln])
      have qe : (p.ln == line) = true := by simpa using hln
      clear hln
      go_wp2_with fail
      have C := pass_cells p wr 46
      have hbx : Below w.heap.size w (wr.alloc (.cells #[.int .i64 p.ln, .int .i64 p.bg, .int .i64 p.en, .int .i64 p.pg, .int .i64 p.bd, .int .i64 p.cs] 46)) := hb.trans ((below_alloc1 _ _).mono hb.size)
      generalize wr.alloc (.cells #[.int .i64 p.ln, .int .i64 p.bg, .int .i64 p.en, .int .i64 p.pg, .int .i64 p.bd, .int .i64 p.cs] 46) = wx at C hbx ⊢
      obtain ⟨d0, d1, d2, d3, d4, d5⟩ := C
      go_wp2_with fail
      go_roundw
      case rel => exact ⟨k + 1, by omega, by go_num, by rw [HN.out], hbx⟩
      case measure => simp [intOf]; omega
    · have HN := Lib.hid (show rsum (fMin ps line) (k + 1) = sm from by rw [HS.out, fMin, gP_of HP.out, if_neg hln, Int.add_zero])
      have qe : (p.ln == line) = false := by simpa using hln
      clear hln
      go_wp2_with fail
      have C := pass_cells p wr 46
      have hbx : Below w.heap.size w (wr.alloc (.cells #[.int .i64 p.ln, .int .i64 p.bg, .int .i64 p.en, .int .i64 p.pg, .int .i64 p.bd, .int .i64 p.cs] 46)) := hb.trans ((below_alloc1 _ _).mono hb.size)
      generalize wr.alloc (.cells #[.int .i64 p.ln, .int .i64 p.bg, .int .i64 p.en, .int .i64 p.pg, .int .i64 p.bd, .int .i64 p.cs] 46) = wx at C hbx ⊢
      obtain ⟨d0, d1, d2, d3, d4, d5⟩ := C
      go_wp2_with fail
      go_roundw
      case rel => exact ⟨k + 1, by omega, by go_num, by rw [HN.out], hbx⟩
      case measure => simp [intOf]; omega

set_option maxHeartbeats 4000000 in
set_option maxRecDepth 100000 in
theorem iLongestBreak {A : Option Addr} {c lo hi : Nat} {ps : List GPass} {w : World} (hr : RdP w lo hi A ps) (hl : ps.length ≤ 2097152) (hh : hi ≤ w.heap.size) :
    Calls Try.prog 15 #[.slice A ps.length c] w (RetIIB (vLongestBreak ps).1 (vLongestBreak ps).2.1 (vLongestBreak ps).2.2 w) := by
  by_cases h1 : isPL ps = true
  rotate_left
  · have h1' : isPL ps = false := by simpa using h1
    clear h1
    have HE := Lib.hid (show vLongestBreak ps = (0, 0, false) from by unfold vLongestBreak; rw [if_neg (by simp [h1'])])
    go_enter Try.func15, Try.ntmps15
    go_wp2_with fail
    refine (arePasses_any hr (by omega) hh).mono ?_
    rintro e w1 ⟨rfl, B1⟩
    go_wp2_with fail
    go_ret3
    rw [HE.out]
    exact ⟨rfl, B1⟩
  by_cases h2 : 2 ≤ ps.length
  rotate_left
  · have h2' : (ps.length : Int) < 2 := by omega
    have HE := Lib.hid (show vLongestBreak ps = (0, 0, false) from by unfold vLongestBreak; rw [if_neg (by omega)])
    clear h2
    go_enter Try.func15, Try.ntmps15
    go_wp2_with fail
    refine (arePasses_any hr (by omega) hh).mono ?_
    rintro e w1 ⟨rfl, B1⟩
    go_wp2_with fail
    go_ret3
    rw [HE.out]
    exact ⟨rfl, B1⟩
  have HE := Lib.hid (show vLongestBreak ps = ((gP ps (brk ps (ps.length - 1) - 1)).en, (gP ps (brk ps (ps.length - 1))).bg, true) from by unfold vLongestBreak; rw [if_pos ⟨h1, h2⟩])
  have H1 := Lib.hid h1
  have h2' : ¬ ((ps.length : Int) < 2) := by omega
  go_enter Try.func15, Try.ntmps15
  go_wp2_with fail
  refine (arePasses_any hr (by omega) hh).mono ?_
  rintro e w1 ⟨rfl, B1⟩
  go_wp2_with fail
  clear h1
  go_loopw [5, 6] (fun s i wr => ∃ k j : Nat, 1 ≤ k ∧ k + 1 ≤ ps.length ∧ i = .int .i64 ((k : Int) + 1) ∧ s = .int .i64 j ∧ j = brk ps k ∧ Below w.heap.size w wr) (fun _ i _ => ps.length - (intOf i).toNat)
  case atStart => exact ⟨1, 1, Nat.le_refl _, by omega, rfl, rfl, by simp [brk], B1⟩
  case round =>
    obtain ⟨k, j, hk1, hk, rfl, rfl, hj, hb⟩ := hrel
    have hjb := brk_le ps k
    rw [← hj] at hjb
    have HJ := Lib.hid hj
    clear hj
    obtain ⟨ba, oa, a, hA, _, _, ha, a0, a1, a2, _, _, _⟩ := (hr.below hb hh).getp (show j < ps.length by omega)
    obtain ⟨b2, o2, b, hA2, _, _, hbb, b0, b1, b2', _, _, _⟩ := (hr.below hb hh).getp (show j - 1 < ps.length by omega)
    subst hA
    obtain ⟨rfl, rfl⟩ : ba = b2 ∧ oa = o2 := by cases hA2; exact ⟨rfl, rfl⟩
    have xa := isPs_bound (isPL_get H1.out ha).1
    have xb := isPs_bound (isPL_get H1.out hbb).1
    have HA := Lib.hid ha
    have HB := Lib.hid hbb
    clear ha hbb hA2
    have g2 : (0 : Int) ≤ (j : Int) - 1 := by omega
    have g2b : (1 : Int) ≤ (j : Int) := by omega
    have g3 : ((j : Int) - 1).toNat = j - 1 := by omega
    have g7 : (j : Int) - 1 < (ps.length : Int) := by omega
    have g8 : (j : Int) < (ps.length : Int) := by omega
    have g9 : j < ps.length := by omega
    have g4 : IntKind.i64.wrap ((j : Int) - 1) = (j : Int) - 1 := wr64 (by omega) (by omega)
    by_cases hlt : k + 1 < ps.length
    rotate_left
    · have q1 : ¬ ((k : Int) + 1 < (ps.length : Int)) := by omega
      have HK := Lib.hid (show brk ps (ps.length - 1) = j from by rw [show ps.length - 1 = k by omega]; exact HJ.out.symm)
      go_wp2_with fail
      go_quiet (fail)
      go_wp2_with fail
      go_ret3
      rw [HE.out, HK.out, gP_of HA.out, gP_of HB.out]
      exact ⟨rfl, below_drewN hb _⟩
    obtain ⟨b3, o3, d, hA3, _, _, hd, d0, d1, d2, _, _, _⟩ := (hr.below hb hh).getp hlt
    obtain ⟨b4, o4, e, hA4, _, _, he, e0, e1, e2, _, _, _⟩ := (hr.below hb hh).getp (show k < ps.length by omega)
    obtain ⟨rfl, rfl⟩ : ba = b3 ∧ oa = o3 := by cases hA3; exact ⟨rfl, rfl⟩
    obtain ⟨rfl, rfl⟩ : ba = b4 ∧ oa = o4 := by cases hA4; exact ⟨rfl, rfl⟩
    have xd := isPs_bound (isPL_get H1.out hd).1
    have xe := isPs_bound (isPL_get H1.out he).1
    have HD := Lib.hid hd
    have HEE := Lib.hid he
    clear hd he hA3 hA4
    have q1 : (k : Int) + 1 < (ps.length : Int) := by omega
    have q2 : (0 : Int) ≤ (k : Int) + 1 := by omega
    have q3 : ((k : Int) + 1).toNat = k + 1 := by omega
    have q4 : IntKind.i64.wrap ((k : Int) + 1 - 1) = (k : Int) := by rw [Int.add_sub_cancel]; exact wr64 (by omega) (by omega)
    have q5 : (k : Int) < (ps.length : Int) := by omega
    have q5b : k < ps.length := by omega
    have q6 : IntKind.i64.wrap (d.bg - e.en) = d.bg - e.en := wr64 (by omega) (by omega)
    have q7 : IntKind.i64.wrap (a.bg - b.en) = a.bg - b.en := wr64 (by omega) (by omega)
    by_cases hgt : a.bg - b.en < d.bg - e.en
    · have HN := Lib.hid (show k + 1 = brk ps (k + 1) from by rw [brk, ← HJ.out, gP_of HA.out, gP_of HB.out, gP_of HD.out, gP_of HEE.out, if_pos ⟨hk1, hgt⟩])
      go_wp2_with fail
      go_quiet (fail)
      go_wp2_with fail
      go_roundw
      case rel => exact ⟨k + 1, k + 1, by omega, by omega, by go_num, by go_num, HN.out, below_drewN hb _⟩
      case measure => simp [intOf]; omega
    · have HN := Lib.hid (show j = brk ps (k + 1) from by rw [brk, ← HJ.out, gP_of HA.out, gP_of HB.out, gP_of HD.out, gP_of HEE.out, if_neg (fun h => hgt h.2)])
      go_wp2_with fail
      go_quiet (fail)
      go_wp2_with fail
      go_roundw
      case rel => exact ⟨k + 1, j, by omega, by omega, by go_num, rfl, HN.out, below_drewN hb _⟩
      case measure => simp [intOf]; omega

set_option maxHeartbeats 2000000 in
set_option maxRecDepth 100000 in
theorem sMinutesOn {A : Option Addr} {c lo hi : Nat} {ps : List GPass} {line : Int} {w : World} (hr : RdP w lo hi A ps) (hl : ps.length ≤ 2097152) (hh : hi ≤ w.heap.size) :
    Calls Try.prog 16 #[.slice A ps.length c, .int .i64 line] w (RetIB (vMinutesOn ps line).1 (vMinutesOn ps line).2 w) := by
  by_cases h1 : isPL ps = true
  rotate_left
  · have h1' : isPL ps = false := by simpa using h1
    clear h1
    have HE := Lib.hid (show vMinutesOn ps line = (0, false) from by unfold vMinutesOn; rw [if_neg (by simp [h1'])])
    go_enter Try.func16, Try.ntmps16
    go_wp2_with fail
    refine (l11Good_any hr (by omega) hh).mono ?_
    rintro e w1 ⟨rfl, B1⟩
    go_wp2_with fail
    go_ret2
    rw [HE.out]
    exact ⟨rfl, B1⟩
  by_cases h2 : inR line 1 999 = true
  rotate_left
  · have h2' : inR line 1 999 = false := by simpa using h2
    clear h2
    have HE := Lib.hid (show vMinutesOn ps line = (0, false) from by unfold vMinutesOn; rw [if_neg (by simp [h2'])])
    go_enter Try.func16, Try.ntmps16
    go_wp2_with fail
    refine (l11Good_any hr (by omega) hh).mono ?_
    rintro e w1 ⟨rfl, B1⟩
    go_wp2_with (go_at_call 33; refine (l11Line_any _ _).mono ?_; rintro e w' ⟨rfl, rfl⟩)
    go_ret2
    rw [HE.out]
    exact ⟨rfl, B1⟩
  have HE := Lib.hid (show vMinutesOn ps line = (rsum (fMin ps line) ps.length, true) from by unfold vMinutesOn; rw [if_pos ⟨h1, h2⟩])
  have H1 := Lib.hid h1
  go_enter Try.func16, Try.ntmps16
  go_wp2_with fail
  refine (l11Good_any hr (by omega) hh).mono ?_
  rintro e w1 ⟨rfl, B1⟩
  skip
  go_wp2_with (go_at_call 33; refine (l11Line_any _ _).mono ?_; rintro e w' ⟨rfl, rfl⟩)
  clear h1
  go_loopw [6, 7] (fun s i wr => ∃ k : Nat, k ≤ ps.length ∧ i = .int .i64 k ∧ s = .int .i64 (rsum (fMin ps line) k) ∧ Below w.heap.size w wr) (fun _ i _ => ps.length - (intOf i).toNat)
  case atStart => exact ⟨0, Nat.zero_le _, rfl, rfl, B1⟩
  case round =>
    obtain ⟨k, hk, rfl, rfl, hb⟩ := hrel
    have hsb := fMin_bound (line := line) H1.out k hk
    have HS := Lib.hid (rsum_succ (fMin ps line) k)
    by_cases hlt : k < ps.length
    rotate_left
    · obtain rfl : k = ps.length := by omega
      go_wp2_with fail
      go_ret2
      rw [HE.out]
      exact ⟨rfl, hb⟩
    obtain ⟨b, off, p, rfl, hblo, hbhi, hp, c0, c1, c2, c3, c4, c5⟩ := (hr.below hb hh).getp hlt
    have hpb := isPs_bound (isPL_get H1.out hp).1
    have HP := Lib.hid hp
    have q1 : (k : Int) < (ps.length : Int) := by omega
    clear hp
    generalize rsum (fMin ps line) k = sm at hsb HS ⊢
    have q2 : IntKind.i64.wrap (p.en - p.bg) = p.en - p.bg := wr64 (by omega) (by omega)
    have q3 : IntKind.i64.wrap (sm + (p.en - p.bg)) = sm + (p.en - p.bg) := wr64 (by omega) (by omega)
    have q4 : IntKind.i64.wrap (sm + p.en) = sm + p.en := wr64 (by omega) (by omega)
    have q5 : IntKind.i64.wrap (sm + p.en - p.bg) = sm + p.en - p.bg := wr64 (by omega) (by omega)
    by_cases hln : p.ln = line
    · have HN := Lib.hid (show rsum (fMin ps line) (k + 1) = sm + (p.en - p.bg) from by rw [HS.out, fMin, gP_of HP.out, if_pos hln])
      have qe : (p.ln == line) = true := by simpa using hln
      clear hln
      go_wp2_with fail
      go_quiet (fail)
      go_wp2_with fail
      go_roundw
      case rel => exact ⟨k + 1, by omega, by go_num, by rw [HN.out]; congr 1; omega, below_drewN hb _⟩
      case measure => simp [intOf]; omega
    · have HN := Lib.hid (show rsum (fMin ps line) (k + 1) = sm from by rw [HS.out, fMin, gP_of HP.out, if_neg hln, Int.add_zero])
      have qe : (p.ln == line) = false := by simpa using hln
      clear hln
      go_wp2_with fail
      go_roundw
      case rel => exact ⟨k + 1, by omega, by go_num, by rw [HN.out], hb⟩
      case measure => simp [intOf]; omega

set_option maxHeartbeats 4000000 in
set_option maxRecDepth 100000 in
theorem sLongestBreak {A : Option Addr} {c lo hi : Nat} {ps : List GPass} {w : World} (hr : RdP w lo hi A ps) (hl : ps.length ≤ 2097152) (hh : hi ≤ w.heap.size) :
    Calls Try.prog 14 #[.slice A ps.length c] w (RetIIB (vLongestBreak ps).1 (vLongestBreak ps).2.1 (vLongestBreak ps).2.2 w) := by
  by_cases h1 : isPL ps = true
  rotate_left
  · have h1' : isPL ps = false := by simpa using h1
    clear h1
    have HE := Lib.hid (show vLongestBreak ps = (0, 0, false) from by unfold vLongestBreak; rw [if_neg (by simp [h1'])])
    go_enter Try.func14, Try.ntmps14
    go_wp2_with fail
    refine (l11Good_any hr (by omega) hh).mono ?_
    rintro e w1 ⟨rfl, B1⟩
    go_wp2_with fail
    go_ret3
    rw [HE.out]
    exact ⟨rfl, B1⟩
  by_cases h2 : 2 ≤ ps.length
  rotate_left
  · have h2' : (ps.length : Int) < 2 := by omega
    have HE := Lib.hid (show vLongestBreak ps = (0, 0, false) from by unfold vLongestBreak; rw [if_neg (by omega)])
    clear h2
    go_enter Try.func14, Try.ntmps14
    go_wp2_with fail
    refine (l11Good_any hr (by omega) hh).mono ?_
    rintro e w1 ⟨rfl, B1⟩
    go_wp2_with fail
    go_ret3
    rw [HE.out]
    exact ⟨rfl, B1⟩
  have HE := Lib.hid (show vLongestBreak ps = ((gP ps (brk ps (ps.length - 1) - 1)).en, (gP ps (brk ps (ps.length - 1))).bg, true) from by unfold vLongestBreak; rw [if_pos ⟨h1, h2⟩])
  have H1 := Lib.hid h1
  have h2' : ¬ ((ps.length : Int) < 2) := by omega
  go_enter Try.func14, Try.ntmps14
  go_wp2_with fail
  refine (l11Good_any hr (by omega) hh).mono ?_
  rintro e w1 ⟨rfl, B1⟩
  go_wp2_with fail
  clear h1
  go_loopw [5, 6] (fun s i wr => ∃ k j : Nat, 1 ≤ k ∧ k + 1 ≤ ps.length ∧ i = .int .i64 ((k : Int) + 1) ∧ s = .int .i64 j ∧ j = brk ps k ∧ Below w.heap.size w wr) (fun _ i _ => ps.length - (intOf i).toNat)
  case atStart => exact ⟨1, 1, Nat.le_refl _, by omega, rfl, rfl, by simp [brk], B1⟩
  case round =>
    obtain ⟨k, j, hk1, hk, rfl, rfl, hj, hb⟩ := hrel
    have hjb := brk_le ps k
    rw [← hj] at hjb
    have HJ := Lib.hid hj
    clear hj
    obtain ⟨ba, oa, a, hA, _, _, ha, a0, a1, a2, _, _, _⟩ := (hr.below hb hh).getp (show j < ps.length by omega)
    obtain ⟨b2, o2, b, hA2, _, _, hbb, b0, b1, b2', _, _, _⟩ := (hr.below hb hh).getp (show j - 1 < ps.length by omega)
    subst hA
    obtain ⟨rfl, rfl⟩ : ba = b2 ∧ oa = o2 := by cases hA2; exact ⟨rfl, rfl⟩
    have xa := isPs_bound (isPL_get H1.out ha).1
    have xb := isPs_bound (isPL_get H1.out hbb).1
    have HA := Lib.hid ha
    have HB := Lib.hid hbb
    clear ha hbb hA2
    have g2 : (0 : Int) ≤ (j : Int) - 1 := by omega
    have g2b : (1 : Int) ≤ (j : Int) := by omega
    have g3 : ((j : Int) - 1).toNat = j - 1 := by omega
    have g7 : (j : Int) - 1 < (ps.length : Int) := by omega
    have g8 : (j : Int) < (ps.length : Int) := by omega
    have g9 : j < ps.length := by omega
    have g4 : IntKind.i64.wrap ((j : Int) - 1) = (j : Int) - 1 := wr64 (by omega) (by omega)
    by_cases hlt : k + 1 < ps.length
    rotate_left
    · have q1 : ¬ ((k : Int) + 1 < (ps.length : Int)) := by omega
      have HK := Lib.hid (show brk ps (ps.length - 1) = j from by rw [show ps.length - 1 = k by omega]; exact HJ.out.symm)
      go_wp2_with fail
      go_quiet (fail)
      go_wp2_with fail
      go_ret3
      rw [HE.out, HK.out, gP_of HA.out, gP_of HB.out]
      exact ⟨rfl, below_drewN hb _⟩
    obtain ⟨b3, o3, d, hA3, _, _, hd, d0, d1, d2, _, _, _⟩ := (hr.below hb hh).getp hlt
    obtain ⟨b4, o4, e, hA4, _, _, he, e0, e1, e2, _, _, _⟩ := (hr.below hb hh).getp (show k < ps.length by omega)
    obtain ⟨rfl, rfl⟩ : ba = b3 ∧ oa = o3 := by cases hA3; exact ⟨rfl, rfl⟩
    obtain ⟨rfl, rfl⟩ : ba = b4 ∧ oa = o4 := by cases hA4; exact ⟨rfl, rfl⟩
    have xd := isPs_bound (isPL_get H1.out hd).1
    have xe := isPs_bound (isPL_get H1.out he).1
    have HD := Lib.hid hd
    have HEE := Lib.hid he
    clear hd he hA3 hA4
    have q1 : (k : Int) + 1 < (ps.length : Int) := by omega
    have q2 : (0 : Int) ≤ (k : Int) + 1 := by omega
    have q3 : ((k : Int) + 1).toNat = k + 1 := by omega
    have q4 : IntKind.i64.wrap ((k : Int) + 1 - 1) = (k : Int) := by rw [Int.add_sub_cancel]; exact wr64 (by omega) (by omega)
    have q5 : (k : Int) < (ps.length : Int) := by omega
    have q5b : k < ps.length := by omega
    have q6 : IntKind.i64.wrap (d.bg - e.en) = d.bg - e.en := wr64 (by omega) (by omega)
    have q7 : IntKind.i64.wrap (a.bg - b.en) = a.bg - b.en := wr64 (by omega) (by omega)
    by_cases hgt : a.bg - b.en < d.bg - e.en
    · have HN := Lib.hid (show k + 1 = brk ps (k + 1) from by rw [brk, ← HJ.out, gP_of HA.out, gP_of HB.out, gP_of HD.out, gP_of HEE.out, if_pos ⟨hk1, hgt⟩])
      go_wp2_with fail
      go_quiet (fail)
      go_wp2_with fail
      go_roundw
      case rel => exact ⟨k + 1, k + 1, by omega, by omega, by go_num, by go_num, HN.out, below_drewN hb _⟩
      case measure => simp [intOf]; omega
    · have HN := Lib.hid (show j = brk ps (k + 1) from by rw [brk, ← HJ.out, gP_of HA.out, gP_of HB.out, gP_of HD.out, gP_of HEE.out, if_neg (fun h => hgt h.2)])
      go_wp2_with fail
      go_quiet (fail)
      go_wp2_with fail
      go_roundw
      case rel => exact ⟨k + 1, j, by omega, by omega, by go_num, rfl, HN.out, below_drewN hb _⟩
      case measure => simp [intOf]; omega

end Go.Proofs.Ytnljjocoloijfaa
