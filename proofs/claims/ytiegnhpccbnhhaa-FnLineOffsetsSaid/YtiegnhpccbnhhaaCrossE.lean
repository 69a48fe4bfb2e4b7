/-
  This file proves contracts of NotTolerated, of the program and of the reference.
  Conditions: each contract's own hypotheses (that a slice reads as a list of crossings, that it is not too long).
-/
import Derived.Test.YtiegnhpccbnhhaaCrossD
namespace Go.Proofs.Ytiegnhpccbnhhaa
open Go.RowKit
set_option linter.unusedSimpArgs false
set_option linter.unusedVariables false

theorem pNot_is {ps : List GCrossing} {fx pc : Int} {k : Nat} {p : GCrossing} {b : Bool} (hp : ps[k]? = some p) (h : tol fx pc p = b) : pNot ps fx pc k = !b := by
  unfold pNot
  rw [gC_of hp, h]

set_option maxHeartbeats 2000000 in
set_option maxRecDepth 100000 in
theorem notTolerated_any {A : Option Addr} {c lo hi : Nat} {ps : List GCrossing} {fx pc : Int} {w : World} (hr : RdC w lo hi A ps) (hl : ps.length ≤ 2097152) (hh : hi ≤ w.heap.size) (hcl : isCL ps = true) (h1 : 0 ≤ fx ∧ fx ≤ 1000000) (h2 : 0 ≤ pc ∧ pc ≤ 100) :
    Calls Try.prog 60 #[.slice A ps.length c, .int .i64 fx, .int .i64 pc] w (RetInts (gath (pNot ps fx pc) (fun i => (i : Int)) ps.length) w) := by
  obtain ⟨i0, hi0, hz0, hz1, hz2⟩ := info_parts int_info
  have HC := Lib.hid hcl
  clear hcl
  go_enter Try.func60, Try.ntmps60
  go_wp2_with fail
  go_loopw [7, 13] (fun v i wr => ∃ k : Nat, k ≤ ps.length ∧ i = .int .i64 k ∧ wr.ownsRow w.heap.size 3 1 v (gath (pNot ps fx pc) (fun i => (i : Int)) k).length (ints (gath (pNot ps fx pc) (fun i => (i : Int)) k)) ∧ Below w.heap.size w wr) (fun _ i _ => ps.length - (intOf i).toNat)
  case atStart => exact ⟨0, Nat.zero_le _, rfl, row_empty _ _ _, below_alloc1 _ _⟩
  case round =>
    obtain ⟨k, hk, rfl, hown, hb⟩ := hrel
    have hgl := gath_le (pNot ps fx pc) (fun i => (i : Int)) k
    by_cases hlt : k < ps.length
    rotate_left
    · obtain rfl : k = ps.length := by omega
      go_wp2_with fail
      go_ret
      exact retInts_of hown hb
    obtain ⟨b, off, p, rfl, hblo, hbhi, hp, c0, c1, c2, c3⟩ := (hr.below hb hh).getCrossing hlt
    have HX := Lib.hid (isCL_get HC.out hp)
    have HP := Lib.hid hp
    have q1 : (k : Int) < (ps.length : Int) := by omega
    clear hp
    obtain ⟨tv, htv⟩ : ∃ tv, tol fx pc p = tv := ⟨_, rfl⟩
    have HT := Lib.hid htv
    have HQ := Lib.hid (pNot_is HP.out htv)
    clear htv
    obtain ⟨A5, c5, rfl, O5⟩ := Own.of_row hown
    clear hown
    have hbx : Below w.heap.size w (wr.alloc (.cells #[.int .i64 p.ln, .int .i64 p.cr, .int .i64 p.mn, .int .i64 p.ck] 59)) := hb.trans ((below_alloc1 _ _).mono hb.size)
    have O6 := O5.below (below_alloc1 wr (.cells #[.int .i64 p.ln, .int .i64 p.cr, .int .i64 p.mn, .int .i64 p.ck] 59)) (Nat.le_refl _)
    have D := Crossing_cells p wr 59
    go_wp2_with fail
    generalize wr.alloc (.cells #[.int .i64 p.ln, .int .i64 p.cr, .int .i64 p.mn, .int .i64 p.ck] 59) = wx at D hbx O6 ⊢
    obtain ⟨d0, d1, d2, d3⟩ := D
    refine (isTolerated_any p fx pc _ HX.out h1 h2).mono ?_
    rintro e w5 ⟨rfl, B5⟩
    rw [HT.out]
    have hb5 := hbx.trans (B5.mono hbx.size)
    have O7 := O6.below B5 (by have := World.block_lt_of_cell? wx _ d0; exact Nat.le_of_lt this)
    clear O5 O6
    rcases tv with _ | _
    · go_wp2_with (at_builtin; refine wpList_push _ rfl _ _ 41 rfl w.heap.size 3 i0 (.int .i64 0) 1 8 Try.underlying41 hi0 hz0 hz1 hz2 rfl (by decide) _ _ _ rfl O7.1 [.int .i64 ↑k] rfl (one_int _) rfl (by omega) (by decide) hb5.size ?_; intro v7 w7 hown7 hb7 hs7 _ _)
      go_roundw
      case rel => exact ⟨k + 1, by omega, by go_num, push_rel (gath_yes HQ.out rfl) hown7, hb7 _ hb5⟩
      case measure => simp [intOf]; omega
    · go_wp2_with fail
      go_roundw
      case rel => exact ⟨k + 1, by omega, by go_num, by rw [gath_no HQ.out]; exact O7.1, hb5⟩
      case measure => simp [intOf]; omega

end Go.Proofs.Ytiegnhpccbnhhaa
