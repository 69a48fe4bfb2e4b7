/-
  This file proves contracts of functions on one pass of a survey line: the copy between the two packages' structs, and the test of a pass, of the program and of the reference.
  Conditions: none beyond each contract's own hypotheses.
-/
import Derived.Test.YtnljjocoloijfaaBase
import Derived.Handy
namespace Go.Proofs.Ytnljjocoloijfaa
open Go.RowKit
set_option linter.unusedSimpArgs false
set_option linter.unusedVariables false

/-- A pass: its line, begin, end, pings, bad pings, course. -/
structure GPass where
  ln : Int
  bg : Int
  en : Int
  pg : Int
  bd : Int
  cs : Int
def GPass.cells (p : GPass) : List Value := [.int .i64 p.ln, .int .i64 p.bg, .int .i64 p.en, .int .i64 p.pg, .int .i64 p.bd, .int .i64 p.cs]
/-- The value of a pass. -/
abbrev GPass.val (p : GPass) : Value := .agg #[.int .i64 p.ln, .int .i64 p.bg, .int .i64 p.en, .int .i64 p.pg, .int .i64 p.bd, .int .i64 p.cs]
def isPs (p : GPass) : Bool := inR p.ln 1 999 && (inR p.bg 0 10000 && (inR p.en 0 10000 && (decide (p.bg < p.en) && (inR p.pg 0 100000 && (inR p.bd 0 p.pg && inR p.cs 0 359)))))
theorem isPs_spec (p : GPass) : isPs p = (inR p.ln 1 999 && (inR p.en 0 10000 && (inR p.bg 0 (p.en - 1) && (inR p.pg 0 100000 && (inR p.bd 0 p.pg && inR p.cs 0 359))))) := by
  rw [Bool.eq_iff_iff]
  simp only [isPs, Bool.and_eq_true, inR_true, decide_eq_true_eq]
  constructor
  · rintro ⟨h1, h2, h3, h4, h5, h6, h7⟩
    exact ⟨h1, h3, by omega, h5, h6, h7⟩
  · rintro ⟨h1, h2, h3, h4, h5, h6⟩
    exact ⟨h1, by omega, h2, by omega, h4, h5, h6⟩

theorem pass_cells (p : GPass) (w : World) (t : TypeId) : (w.alloc (.cells #[.int .i64 p.ln, .int .i64 p.bg, .int .i64 p.en, .int .i64 p.pg, .int .i64 p.bd, .int .i64 p.cs] t)).cell? ⟨w.heap.size, 0, none⟩ = some (.int .i64 p.ln) ∧
    (w.alloc (.cells #[.int .i64 p.ln, .int .i64 p.bg, .int .i64 p.en, .int .i64 p.pg, .int .i64 p.bd, .int .i64 p.cs] t)).cell? ⟨w.heap.size, 1, none⟩ = some (.int .i64 p.bg) ∧
    (w.alloc (.cells #[.int .i64 p.ln, .int .i64 p.bg, .int .i64 p.en, .int .i64 p.pg, .int .i64 p.bd, .int .i64 p.cs] t)).cell? ⟨w.heap.size, 2, none⟩ = some (.int .i64 p.en) ∧
    (w.alloc (.cells #[.int .i64 p.ln, .int .i64 p.bg, .int .i64 p.en, .int .i64 p.pg, .int .i64 p.bd, .int .i64 p.cs] t)).cell? ⟨w.heap.size, 3, none⟩ = some (.int .i64 p.pg) ∧
    (w.alloc (.cells #[.int .i64 p.ln, .int .i64 p.bg, .int .i64 p.en, .int .i64 p.pg, .int .i64 p.bd, .int .i64 p.cs] t)).cell? ⟨w.heap.size, 4, none⟩ = some (.int .i64 p.bd) ∧
    (w.alloc (.cells #[.int .i64 p.ln, .int .i64 p.bg, .int .i64 p.en, .int .i64 p.pg, .int .i64 p.bd, .int .i64 p.cs] t)).cell? ⟨w.heap.size, 5, none⟩ = some (.int .i64 p.cs) := by
  have h := heap_alloc_new w (.cells #[.int .i64 p.ln, .int .i64 p.bg, .int .i64 p.en, .int .i64 p.pg, .int .i64 p.bd, .int .i64 p.cs] t)
  refine ⟨?_, ?_, ?_, ?_, ?_, ?_⟩ <;> rw [cell_of_row _ _ _ _ _ (0, 0) h] <;> rfl

theorem isLine_any (n : Int) (w : World) : Calls Try.prog 34 #[.int .i64 n] w fun e w' => e = .returned (.bool (inR n 1 999)) ∧ w = w' := by
  go_enter Try.func34, Try.ntmps34
  go_wp2_with (go_at_call 49; refine (inside_any _ _ _ _).mono ?_; rintro e w' ⟨rfl, rfl⟩)
  go_ret
  exact ⟨rfl, rfl⟩

theorem l11Line_any (n : Int) (w : World) : Calls Try.prog 33 #[.int .i64 n] w fun e w' => e = .returned (.bool (inR n 1 999)) ∧ w = w' := by
  go_enter Try.func33, Try.ntmps33
  go_wp2_with (go_at_call 36; refine (l1In_any _ _ _ _).mono ?_; rintro e w' ⟨rfl, rfl⟩)
  go_ret
  exact ⟨rfl, rfl⟩

theorem isTime_any (n : Int) (w : World) : Calls Try.prog 40 #[.int .i64 n] w fun e w' => e = .returned (.bool (inR n 0 10000)) ∧ w = w' := by
  go_enter Try.func40, Try.ntmps40
  go_wp2_with (go_at_call 49; refine (inside_any _ _ _ _).mono ?_; rintro e w' ⟨rfl, rfl⟩)
  go_ret
  exact ⟨rfl, rfl⟩

theorem l2Time_any (n : Int) (w : World) : Calls Try.prog 35 #[.int .i64 n] w fun e w' => e = .returned (.bool (inR n 0 10000)) ∧ w = w' := by
  go_enter Try.func35, Try.ntmps35
  go_wp2_with (go_at_call 36; refine (l1In_any _ _ _ _).mono ?_; rintro e w' ⟨rfl, rfl⟩)
  go_ret
  exact ⟨rfl, rfl⟩

set_option maxHeartbeats 2000000 in
theorem isPass_box (p : GPass) (w : World) : Calls Try.prog 31 #[.agg #[.int .i64 p.ln, .int .i64 p.bg, .int .i64 p.en, .int .i64 p.pg, .int .i64 p.bd, .int .i64 p.cs]] w fun e w' => e = .returned (.bool (isPs p)) ∧ w.alloc (.cells #[.int .i64 p.ln, .int .i64 p.bg, .int .i64 p.en, .int .i64 p.pg, .int .i64 p.bd, .int .i64 p.cs] 46) = w' := by
  obtain ⟨ln, bg, en, pg, bd, cs⟩ := p
  simp only
  by_cases c0 : inR ln 1 999 = true
  rotate_left
  · have c0' : inR ln 1 999 = false := by simpa using c0
    clear c0
    have HE := Lib.hid (show isPs ⟨ln, bg, en, pg, bd, cs⟩ = false from by simp [isPs, c0'])
    go_enter Try.func31, Try.ntmps31
    go_wp2_with (first | (go_at_call 34; refine (isLine_any _ _).mono ?_; rintro e w' ⟨rfl, rfl⟩) | (go_at_call 40; refine (isTime_any _ _).mono ?_; rintro e w' ⟨rfl, rfl⟩) | (go_at_call 49; refine (inside_any _ _ _ _).mono ?_; rintro e w' ⟨rfl, rfl⟩))
    go_ret
    rw [HE.out]
    exact ⟨rfl, rfl⟩
  by_cases c1 : inR bg 0 10000 = true
  rotate_left
  · have c1' : inR bg 0 10000 = false := by simpa using c1
    clear c1
    have HE := Lib.hid (show isPs ⟨ln, bg, en, pg, bd, cs⟩ = false from by simp [isPs, c0, c1'])
    go_enter Try.func31, Try.ntmps31
    go_wp2_with (first | (go_at_call 34; refine (isLine_any _ _).mono ?_; rintro e w' ⟨rfl, rfl⟩) | (go_at_call 40; refine (isTime_any _ _).mono ?_; rintro e w' ⟨rfl, rfl⟩) | (go_at_call 49; refine (inside_any _ _ _ _).mono ?_; rintro e w' ⟨rfl, rfl⟩))
    go_ret
    rw [HE.out]
    exact ⟨rfl, rfl⟩
  by_cases c2 : inR en 0 10000 = true
  rotate_left
  · have c2' : inR en 0 10000 = false := by simpa using c2
    clear c2
    have HE := Lib.hid (show isPs ⟨ln, bg, en, pg, bd, cs⟩ = false from by simp [isPs, c0, c1, c2'])
    go_enter Try.func31, Try.ntmps31
    go_wp2_with (first | (go_at_call 34; refine (isLine_any _ _).mono ?_; rintro e w' ⟨rfl, rfl⟩) | (go_at_call 40; refine (isTime_any _ _).mono ?_; rintro e w' ⟨rfl, rfl⟩) | (go_at_call 49; refine (inside_any _ _ _ _).mono ?_; rintro e w' ⟨rfl, rfl⟩))
    go_ret
    rw [HE.out]
    exact ⟨rfl, rfl⟩
  by_cases c3 : bg < en
  rotate_left
  · have c3' : ¬ bg < en := c3
    clear c3
    have HE := Lib.hid (show isPs ⟨ln, bg, en, pg, bd, cs⟩ = false from by simp [isPs, c0, c1, c2, c3'])
    go_enter Try.func31, Try.ntmps31
    go_wp2_with (first | (go_at_call 34; refine (isLine_any _ _).mono ?_; rintro e w' ⟨rfl, rfl⟩) | (go_at_call 40; refine (isTime_any _ _).mono ?_; rintro e w' ⟨rfl, rfl⟩) | (go_at_call 49; refine (inside_any _ _ _ _).mono ?_; rintro e w' ⟨rfl, rfl⟩))
    go_ret
    rw [HE.out]
    exact ⟨rfl, rfl⟩
  by_cases c4 : inR pg 0 100000 = true
  rotate_left
  · have c4' : inR pg 0 100000 = false := by simpa using c4
    clear c4
    have HE := Lib.hid (show isPs ⟨ln, bg, en, pg, bd, cs⟩ = false from by simp [isPs, c0, c1, c2, c3, c4'])
    go_enter Try.func31, Try.ntmps31
    go_wp2_with (first | (go_at_call 34; refine (isLine_any _ _).mono ?_; rintro e w' ⟨rfl, rfl⟩) | (go_at_call 40; refine (isTime_any _ _).mono ?_; rintro e w' ⟨rfl, rfl⟩) | (go_at_call 49; refine (inside_any _ _ _ _).mono ?_; rintro e w' ⟨rfl, rfl⟩))
    go_ret
    rw [HE.out]
    exact ⟨rfl, rfl⟩
  by_cases c5 : inR bd 0 pg = true
  rotate_left
  · have c5' : inR bd 0 pg = false := by simpa using c5
    clear c5
    have HE := Lib.hid (show isPs ⟨ln, bg, en, pg, bd, cs⟩ = false from by simp [isPs, c0, c1, c2, c3, c4, c5'])
    go_enter Try.func31, Try.ntmps31
    go_wp2_with (first | (go_at_call 34; refine (isLine_any _ _).mono ?_; rintro e w' ⟨rfl, rfl⟩) | (go_at_call 40; refine (isTime_any _ _).mono ?_; rintro e w' ⟨rfl, rfl⟩) | (go_at_call 49; refine (inside_any _ _ _ _).mono ?_; rintro e w' ⟨rfl, rfl⟩))
    go_ret
    rw [HE.out]
    exact ⟨rfl, rfl⟩
  by_cases c6 : inR cs 0 359 = true
  rotate_left
  · have c6' : inR cs 0 359 = false := by simpa using c6
    clear c6
    have HE := Lib.hid (show isPs ⟨ln, bg, en, pg, bd, cs⟩ = false from by simp [isPs, c0, c1, c2, c3, c4, c5, c6'])
    go_enter Try.func31, Try.ntmps31
    go_wp2_with (first | (go_at_call 34; refine (isLine_any _ _).mono ?_; rintro e w' ⟨rfl, rfl⟩) | (go_at_call 40; refine (isTime_any _ _).mono ?_; rintro e w' ⟨rfl, rfl⟩) | (go_at_call 49; refine (inside_any _ _ _ _).mono ?_; rintro e w' ⟨rfl, rfl⟩))
    go_ret
    rw [HE.out]
    exact ⟨rfl, rfl⟩
  have HE := Lib.hid (show isPs ⟨ln, bg, en, pg, bd, cs⟩ = true from by simp [isPs, c0, c1, c2, c3, c4, c5, c6])
  go_enter Try.func31, Try.ntmps31
  go_wp2_with (first | (go_at_call 34; refine (isLine_any _ _).mono ?_; rintro e w' ⟨rfl, rfl⟩) | (go_at_call 40; refine (isTime_any _ _).mono ?_; rintro e w' ⟨rfl, rfl⟩) | (go_at_call 49; refine (inside_any _ _ _ _).mono ?_; rintro e w' ⟨rfl, rfl⟩))
  go_ret
  rw [HE.out]
  exact ⟨rfl, rfl⟩
theorem isPass_any (p : GPass) (w : World) : Calls Try.prog 31 #[.agg #[.int .i64 p.ln, .int .i64 p.bg, .int .i64 p.en, .int .i64 p.pg, .int .i64 p.bd, .int .i64 p.cs]] w (RetB (isPs p) w) :=
  (isPass_box p w).mono fun _ _ ⟨he, hw⟩ => ⟨he, by rw [← hw]; exact below_alloc1 _ _⟩

set_option maxHeartbeats 2000000 in
theorem l11One_box (p : GPass) (w : World) : Calls Try.prog 48 #[.agg #[.int .i64 p.ln, .int .i64 p.bg, .int .i64 p.en, .int .i64 p.pg, .int .i64 p.bd, .int .i64 p.cs]] w fun e w' => e = .returned (.bool (isPs p)) ∧ w.alloc (.cells #[.int .i64 p.ln, .int .i64 p.bg, .int .i64 p.en, .int .i64 p.pg, .int .i64 p.bd, .int .i64 p.cs] 46) = w' := by
  obtain ⟨ln, bg, en, pg, bd, cs⟩ := p
  simp only
  by_cases c0 : inR ln 1 999 = true
  rotate_left
  · have c0' : inR ln 1 999 = false := by simpa using c0
    clear c0
    have HE := Lib.hid (show isPs ⟨ln, bg, en, pg, bd, cs⟩ = false from by rw [isPs_spec]; simp [c0'])
    go_enter Try.func48, Try.ntmps48
    go_wp2_with (first | (go_at_call 33; refine (l11Line_any _ _).mono ?_; rintro e w' ⟨rfl, rfl⟩) | (go_at_call 35; refine (l2Time_any _ _).mono ?_; rintro e w' ⟨rfl, rfl⟩) | (go_at_call 36; refine (l1In_any _ _ _ _).mono ?_; rintro e w' ⟨rfl, rfl⟩))
    go_ret
    rw [HE.out]
    exact ⟨rfl, rfl⟩
  by_cases c1 : inR en 0 10000 = true
  rotate_left
  · have c1' : inR en 0 10000 = false := by simpa using c1
    clear c1
    have HE := Lib.hid (show isPs ⟨ln, bg, en, pg, bd, cs⟩ = false from by rw [isPs_spec]; simp [c0, c1'])
    go_enter Try.func48, Try.ntmps48
    go_wp2_with (first | (go_at_call 33; refine (l11Line_any _ _).mono ?_; rintro e w' ⟨rfl, rfl⟩) | (go_at_call 35; refine (l2Time_any _ _).mono ?_; rintro e w' ⟨rfl, rfl⟩) | (go_at_call 36; refine (l1In_any _ _ _ _).mono ?_; rintro e w' ⟨rfl, rfl⟩))
    go_ret
    rw [HE.out]
    exact ⟨rfl, rfl⟩
  by_cases c2 : inR bg 0 (en - 1) = true
  rotate_left
  · have c2' : inR bg 0 (en - 1) = false := by simpa using c2
    clear c2
    have HE := Lib.hid (show isPs ⟨ln, bg, en, pg, bd, cs⟩ = false from by rw [isPs_spec]; simp [c0, c1, c2'])
    have hb1 := (inR_true.1 c1).1
    have hb2 := (inR_true.1 c1).2
    go_enter Try.func48, Try.ntmps48
    go_wp2_with (first | (go_at_call 33; refine (l11Line_any _ _).mono ?_; rintro e w' ⟨rfl, rfl⟩) | (go_at_call 35; refine (l2Time_any _ _).mono ?_; rintro e w' ⟨rfl, rfl⟩) | (go_at_call 36; refine (l1In_any _ _ _ _).mono ?_; rintro e w' ⟨rfl, rfl⟩))
    go_ret
    rw [HE.out]
    exact ⟨rfl, rfl⟩
  by_cases c3 : inR pg 0 100000 = true
  rotate_left
  · have c3' : inR pg 0 100000 = false := by simpa using c3
    clear c3
    have HE := Lib.hid (show isPs ⟨ln, bg, en, pg, bd, cs⟩ = false from by rw [isPs_spec]; simp [c0, c1, c2, c3'])
    have hb1 := (inR_true.1 c1).1
    have hb2 := (inR_true.1 c1).2
    go_enter Try.func48, Try.ntmps48
    go_wp2_with (first | (go_at_call 33; refine (l11Line_any _ _).mono ?_; rintro e w' ⟨rfl, rfl⟩) | (go_at_call 35; refine (l2Time_any _ _).mono ?_; rintro e w' ⟨rfl, rfl⟩) | (go_at_call 36; refine (l1In_any _ _ _ _).mono ?_; rintro e w' ⟨rfl, rfl⟩))
    go_ret
    rw [HE.out]
    exact ⟨rfl, rfl⟩
  by_cases c4 : inR bd 0 pg = true
  rotate_left
  · have c4' : inR bd 0 pg = false := by simpa using c4
    clear c4
    have HE := Lib.hid (show isPs ⟨ln, bg, en, pg, bd, cs⟩ = false from by rw [isPs_spec]; simp [c0, c1, c2, c3, c4'])
    have hb1 := (inR_true.1 c1).1
    have hb2 := (inR_true.1 c1).2
    go_enter Try.func48, Try.ntmps48
    go_wp2_with (first | (go_at_call 33; refine (l11Line_any _ _).mono ?_; rintro e w' ⟨rfl, rfl⟩) | (go_at_call 35; refine (l2Time_any _ _).mono ?_; rintro e w' ⟨rfl, rfl⟩) | (go_at_call 36; refine (l1In_any _ _ _ _).mono ?_; rintro e w' ⟨rfl, rfl⟩))
    go_ret
    rw [HE.out]
    exact ⟨rfl, rfl⟩
  by_cases c5 : inR cs 0 359 = true
  rotate_left
  · have c5' : inR cs 0 359 = false := by simpa using c5
    clear c5
    have HE := Lib.hid (show isPs ⟨ln, bg, en, pg, bd, cs⟩ = false from by rw [isPs_spec]; simp [c0, c1, c2, c3, c4, c5'])
    have hb1 := (inR_true.1 c1).1
    have hb2 := (inR_true.1 c1).2
    go_enter Try.func48, Try.ntmps48
    go_wp2_with (first | (go_at_call 33; refine (l11Line_any _ _).mono ?_; rintro e w' ⟨rfl, rfl⟩) | (go_at_call 35; refine (l2Time_any _ _).mono ?_; rintro e w' ⟨rfl, rfl⟩) | (go_at_call 36; refine (l1In_any _ _ _ _).mono ?_; rintro e w' ⟨rfl, rfl⟩))
    go_ret
    rw [HE.out]
    exact ⟨rfl, rfl⟩
  have HE := Lib.hid (show isPs ⟨ln, bg, en, pg, bd, cs⟩ = true from by rw [isPs_spec]; simp [c0, c1, c2, c3, c4, c5])
  have hb1 := (inR_true.1 c1).1
  have hb2 := (inR_true.1 c1).2
  go_enter Try.func48, Try.ntmps48
  go_wp2_with (first | (go_at_call 33; refine (l11Line_any _ _).mono ?_; rintro e w' ⟨rfl, rfl⟩) | (go_at_call 35; refine (l2Time_any _ _).mono ?_; rintro e w' ⟨rfl, rfl⟩) | (go_at_call 36; refine (l1In_any _ _ _ _).mono ?_; rintro e w' ⟨rfl, rfl⟩))
  go_ret
  rw [HE.out]
  exact ⟨rfl, rfl⟩
theorem l11One_any (p : GPass) (w : World) : Calls Try.prog 48 #[.agg #[.int .i64 p.ln, .int .i64 p.bg, .int .i64 p.en, .int .i64 p.pg, .int .i64 p.bd, .int .i64 p.cs]] w (RetB (isPs p) w) :=
  (l11One_box p w).mono fun _ _ ⟨he, hw⟩ => ⟨he, by rw [← hw]; exact below_alloc1 _ _⟩

theorem toPass_any (p : GPass) (w : World) : Calls Try.prog 30 #[.agg #[.int .i64 p.ln, .int .i64 p.bg, .int .i64 p.en, .int .i64 p.pg, .int .i64 p.bd, .int .i64 p.cs]] w fun e w' => e = .returned (.agg #[.int .i64 p.ln, .int .i64 p.bg, .int .i64 p.en, .int .i64 p.pg, .int .i64 p.bd, .int .i64 p.cs]) ∧ Below w.heap.size w w' := by
  go_enter Try.func30, Try.ntmps30
  go_wp2_with fail
  go_returns
  exact ⟨rfl, by go_grown⟩

end Go.Proofs.Ytnljjocoloijfaa
