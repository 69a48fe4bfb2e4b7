/-
  This file proves contracts of PassesTest and SmallestFixed, of the program and of the reference.
  Conditions: each contract's own hypotheses (that a slice reads as a list of crossings, that it is not too long).
-/
import Derived.Test.YtiegnhpccbnhhaaCrossF
namespace Go.Proofs.Ytiegnhpccbnhhaa
open Go.RowKit
set_option linter.unusedSimpArgs false
set_option linter.unusedVariables false

def RetBB (a b : Bool) (w : World) (e : Ending) (w' : World) : Prop := e = .returned (.tuple #[.bool a, .bool b]) ∧ Below w.heap.size w w'
def nNot (ps : List GCrossing) (fx pc : Int) : Nat := (gath (pNot ps fx pc) (fun i => (i : Int)) ps.length).length
theorem nNot_le (ps : List GCrossing) (fx pc : Int) : nNot ps fx pc ≤ ps.length := gath_le _ _ _
def vPassesTest (ps : List GCrossing) (fx pc sh : Int) : Bool × Bool :=
  if canTol ps fx pc = true ∧ inR sh 0 100 = true ∧ 0 < ps.length then (decide (sh * (ps.length : Int) ≤ 100 * ((ps.length : Int) - (nNot ps fx pc : Int))), true) else (false, false)

set_option maxHeartbeats 2000000 in
theorem iPassesTest {A : Option Addr} {c lo hi : Nat} {ps : List GCrossing} {fx pc sh : Int} {w : World} (hr : RdC w lo hi A ps) (hl : ps.length ≤ 2097152) (hh : hi ≤ w.heap.size) (hcap : ps.length ≤ c) :
    Calls Try.prog 18 #[.slice A ps.length c, .int .i64 fx, .int .i64 pc, .int .i64 sh] w (RetBB (vPassesTest ps fx pc sh).1 (vPassesTest ps fx pc sh).2 w) := by
  by_cases h1 : canTol ps fx pc = true
  rotate_left
  · have h1' : canTol ps fx pc = false := by simpa using h1
    have HE := Lib.hid (show vPassesTest ps fx pc sh = (false, false) from by unfold vPassesTest; rw [if_neg (by simp [h1'])])
    clear h1
    go_enter Try.func18, Try.ntmps18
    go_wp2_with fail
    refine (canTolerate_any hr hl hh hcap).mono ?_
    rintro e w1 ⟨rfl, B1⟩
    rw [h1']
    go_wp2_with (go_at_call 59; refine (inside_any _ _ _ _).mono ?_; rintro e w' ⟨rfl, rfl⟩)
    go_ret2
    rw [HE.out]
    exact ⟨rfl, B1⟩
  by_cases h2 : inR sh 0 100 = true
  rotate_left
  · have h2' : inR sh 0 100 = false := by simpa using h2
    have HE := Lib.hid (show vPassesTest ps fx pc sh = (false, false) from by unfold vPassesTest; rw [if_neg (by simp [h2'])])
    clear h2
    go_enter Try.func18, Try.ntmps18
    go_wp2_with fail
    refine (canTolerate_any hr hl hh hcap).mono ?_
    rintro e w1 ⟨rfl, B1⟩
    rw [h1]
    go_wp2_with (go_at_call 59; refine (inside_any _ _ _ _).mono ?_; rintro e w' ⟨rfl, rfl⟩)
    go_ret2
    rw [HE.out]
    exact ⟨rfl, B1⟩
  by_cases h3 : 0 < ps.length
  rotate_left
  · have h3' : ps.length = 0 := by omega
    have HE := Lib.hid (show vPassesTest ps fx pc sh = (false, false) from by unfold vPassesTest; rw [if_neg (fun h => h3 h.2.2)])
    have h4 : ((ps.length : Int) == 0) = true := by simp [h3']
    clear h3 h3'
    go_enter Try.func18, Try.ntmps18
    go_wp2_with fail
    refine (canTolerate_any hr hl hh hcap).mono ?_
    rintro e w1 ⟨rfl, B1⟩
    rw [h1]
    go_wp2_with (go_at_call 59; refine (inside_any _ _ _ _).mono ?_; rintro e w' ⟨rfl, rfl⟩)
    go_ret2
    rw [HE.out]
    exact ⟨rfl, B1⟩
  have HE := Lib.hid (show vPassesTest ps fx pc sh = (decide (sh * (ps.length : Int) ≤ 100 * ((ps.length : Int) - (nNot ps fx pc : Int))), true) from by unfold vPassesTest; rw [if_pos ⟨h1, h2, h3⟩])
  have H1 := Lib.hid (canTol_yes h1)
  have h4 : ((ps.length : Int) == 0) = false := by simpa using fun h => by subst h; simp at h3
  have hsh := inR_true.1 h2
  have hn := nNot_le ps fx pc
  have m1 : 0 ≤ sh * (ps.length : Int) := Int.mul_nonneg hsh.1 (by omega)
  have m2 : sh * (ps.length : Int) ≤ 100 * 2097152 := Int.mul_le_mul hsh.2 (by omega) (by omega) (by omega)
  have q1 : IntKind.i64.wrap (sh * (ps.length : Int)) = sh * (ps.length : Int) := wr64 (by omega) (by omega)
  go_enter Try.func18, Try.ntmps18
  go_wp2_with fail
  refine (canTolerate_any hr hl hh hcap).mono ?_
  rintro e w1 ⟨rfl, B1⟩
  rw [h1]
  go_wp2_with (go_at_call 59; refine (inside_any _ _ _ _).mono ?_; rintro e w' ⟨rfl, rfl⟩)
  refine (notTolerated_any (hr.below B1 hh) hl (by have := B1.size; omega) H1.out.1 H1.out.2.1 H1.out.2.2).mono ?_
  rintro e w2 ⟨A2, c2, rfl, O2, B2⟩
  have B3 := B1.trans (B2.mono B1.size)
  clear O2
  rw [show (gath (pNot ps fx pc) (fun i => (i : Int)) ps.length).length = nNot ps fx pc from rfl]
  generalize nNot ps fx pc = nn at hn HE ⊢
  have q2 : IntKind.i64.wrap ((ps.length : Int) - (nn : Int)) = (ps.length : Int) - (nn : Int) := wr64 (by omega) (by omega)
  have q3 : IntKind.i64.wrap (100 * ((ps.length : Int) - (nn : Int))) = 100 * ((ps.length : Int) - (nn : Int)) := wr64 (by omega) (by omega)
  go_wp2_with fail
  go_ret2
  rw [HE.out]
  exact ⟨rfl, B3⟩

set_option maxHeartbeats 2000000 in
theorem sPassesTest {A : Option Addr} {c lo hi : Nat} {ps : List GCrossing} {fx pc sh : Int} {w : World} (hr : RdC w lo hi A ps) (hl : ps.length ≤ 2097152) (hh : hi ≤ w.heap.size) :
    Calls Try.prog 17 #[.slice A ps.length c, .int .i64 fx, .int .i64 pc, .int .i64 sh] w (RetBB (vPassesTest ps fx pc sh).1 (vPassesTest ps fx pc sh).2 w) := by
  by_cases h1 : canTol ps fx pc = true
  rotate_left
  · have h1' : canTol ps fx pc = false := by simpa using h1
    have HE := Lib.hid (show vPassesTest ps fx pc sh = (false, false) from by unfold vPassesTest; rw [if_neg (by simp [h1'])])
    clear h1
    go_enter Try.func17, Try.ntmps17
    go_wp2_with fail
    refine (sNotTolerated (fx := fx) (pc := pc) hr hl hh).mono ?_
    rintro e w1 ⟨A1, c1, rfl, O1, B1⟩
    rw [vNotTolerated_no h1']
    go_wp2_with (go_at_call 52; refine (l1In_any _ _ _ _).mono ?_; rintro e w' ⟨rfl, rfl⟩)
    go_ret2
    rw [HE.out]
    exact ⟨rfl, B1⟩
  by_cases h3 : 0 < ps.length
  rotate_left
  · have h3' : ps.length = 0 := by omega
    have HE := Lib.hid (show vPassesTest ps fx pc sh = (false, false) from by unfold vPassesTest; rw [if_neg (fun h => h3 h.2.2)])
    have h4 : ((ps.length : Int) == 0) = true := by simp [h3']
    clear h3 h3'
    go_enter Try.func17, Try.ntmps17
    go_wp2_with fail
    refine (sNotTolerated (fx := fx) (pc := pc) hr hl hh).mono ?_
    rintro e w1 ⟨A1, c1, rfl, O1, B1⟩
    clear O1
    rw [vNotTolerated_yes h1, show (gath (pNot ps fx pc) (fun i => (i : Int)) ps.length, true).1 = gath (pNot ps fx pc) (fun i => (i : Int)) ps.length from rfl, show (gath (pNot ps fx pc) (fun i => (i : Int)) ps.length).length = nNot ps fx pc from rfl]
    have hn := nNot_le ps fx pc
    generalize nNot ps fx pc = nn at hn ⊢
    have q2 : IntKind.i64.wrap ((ps.length : Int) - (nn : Int)) = (ps.length : Int) - (nn : Int) := wr64 (by omega) (by omega)
    have q3 : IntKind.i64.wrap (100 * ((ps.length : Int) - (nn : Int))) = 100 * ((ps.length : Int) - (nn : Int)) := wr64 (by omega) (by omega)
    go_wp2_with (go_at_call 52; refine (l1In_any _ _ _ _).mono ?_; rintro e w' ⟨rfl, rfl⟩)
    go_ret2
    rw [HE.out]
    exact ⟨rfl, B1⟩
  by_cases h2 : inR sh 0 100 = true
  rotate_left
  · have h2' : inR sh 0 100 = false := by simpa using h2
    have HE := Lib.hid (show vPassesTest ps fx pc sh = (false, false) from by unfold vPassesTest; rw [if_neg (by simp [h2'])])
    clear h2
    have h4 : ((ps.length : Int) == 0) = false := by simpa using fun h => by subst h; simp at h3
    go_enter Try.func17, Try.ntmps17
    go_wp2_with fail
    refine (sNotTolerated (fx := fx) (pc := pc) hr hl hh).mono ?_
    rintro e w1 ⟨A1, c1, rfl, O1, B1⟩
    clear O1
    rw [vNotTolerated_yes h1, show (gath (pNot ps fx pc) (fun i => (i : Int)) ps.length, true).1 = gath (pNot ps fx pc) (fun i => (i : Int)) ps.length from rfl, show (gath (pNot ps fx pc) (fun i => (i : Int)) ps.length).length = nNot ps fx pc from rfl]
    have hn := nNot_le ps fx pc
    generalize nNot ps fx pc = nn at hn ⊢
    have q2 : IntKind.i64.wrap ((ps.length : Int) - (nn : Int)) = (ps.length : Int) - (nn : Int) := wr64 (by omega) (by omega)
    have q3 : IntKind.i64.wrap (100 * ((ps.length : Int) - (nn : Int))) = 100 * ((ps.length : Int) - (nn : Int)) := wr64 (by omega) (by omega)
    go_wp2_with (go_at_call 52; refine (l1In_any _ _ _ _).mono ?_; rintro e w' ⟨rfl, rfl⟩)
    go_ret2
    rw [HE.out]
    exact ⟨rfl, B1⟩
  have HE := Lib.hid (show vPassesTest ps fx pc sh = (decide (sh * (ps.length : Int) ≤ 100 * ((ps.length : Int) - (nNot ps fx pc : Int))), true) from by unfold vPassesTest; rw [if_pos ⟨h1, h2, h3⟩])
  have H1 := Lib.hid (canTol_yes h1)
  have h4 : ((ps.length : Int) == 0) = false := by simpa using fun h => by subst h; simp at h3
  have hsh := inR_true.1 h2
  have hn := nNot_le ps fx pc
  have m1 : 0 ≤ sh * (ps.length : Int) := Int.mul_nonneg hsh.1 (by omega)
  have m2 : sh * (ps.length : Int) ≤ 100 * 2097152 := Int.mul_le_mul hsh.2 (by omega) (by omega) (by omega)
  have q1 : IntKind.i64.wrap (sh * (ps.length : Int)) = sh * (ps.length : Int) := wr64 (by omega) (by omega)
  go_enter Try.func17, Try.ntmps17
  go_wp2_with fail
  refine (sNotTolerated (fx := fx) (pc := pc) hr hl hh).mono ?_
  rintro e w1 ⟨A1, c1, rfl, O1, B1⟩
  clear O1
  rw [vNotTolerated_yes h1, show (gath (pNot ps fx pc) (fun i => (i : Int)) ps.length, true).1 = gath (pNot ps fx pc) (fun i => (i : Int)) ps.length from rfl, show (gath (pNot ps fx pc) (fun i => (i : Int)) ps.length).length = nNot ps fx pc from rfl]
  have hn := nNot_le ps fx pc
  generalize nNot ps fx pc = nn at hn HE ⊢
  have q2 : IntKind.i64.wrap ((ps.length : Int) - (nn : Int)) = (ps.length : Int) - (nn : Int) := wr64 (by omega) (by omega)
  have q3 : IntKind.i64.wrap (100 * ((ps.length : Int) - (nn : Int))) = 100 * ((ps.length : Int) - (nn : Int)) := wr64 (by omega) (by omega)
  go_wp2_with (go_at_call 52; refine (l1In_any _ _ _ _).mono ?_; rintro e w' ⟨rfl, rfl⟩)
  go_ret2
  rw [HE.out]
  exact ⟨rfl, B1⟩

end Go.Proofs.Ytiegnhpccbnhhaa
