/-
  This file proves the contract of the law's function that tells whether a slice of Hypothesis holds the marks k, k + 1, ..
  Conditions: that the slice reads as those marks; that it is not too long.
-/
import Derived.Test.YtiaabojkimboiaaHypothesisS
namespace Go.Proofs.Ytiaabojkimboiaa
open Go.RowKit
set_option linter.unusedSimpArgs false
set_option linter.unusedVariables false

set_option maxHeartbeats 2000000 in
set_option maxRecDepth 100000 in
theorem heldHypothesisS_any (A : Option Addr) (c lo hi n : Nat) (k : Int) (w : World) (hr : Rd w lo hi 3 A n (ints (marks k (n * 3)))) (h0 : 0 ≤ k) (h1 : k ≤ 1000000000000) (hl : n ≤ 1099511627776) :
    Calls Try.prog 18 #[.slice A n c, .int .i64 k] w fun e w' => e = .returned (.int .i64 (k + (n : Int) * 3)) ∧ w = w' := by
  go_enter Try.func18, Try.ntmps18
  go_wp2_with fail
  go_loop [1, 5] (fun t i => ∃ j : Nat, j ≤ n ∧ i = .int .i64 j ∧ t = .int .i64 (k + (j : Int) * 3)) (fun _ i => n - (intOf i).toNat)
  case atStart => exact ⟨0, Nat.zero_le _, rfl, by simp⟩
  case round =>
    obtain ⟨j, hj, rfl, rfl⟩ := hrel
    by_cases hlt : j < n
    · obtain ⟨b, off, rfl, _, _, hc⟩ := hr.2 (by omega)
      have c0 : w.cell? ⟨b, off + j * 3, none⟩ = some (.int .i64 (k + (j : Int) * 3)) := by
        have h := hc (j * 3) (.int .i64 (k + (j : Int) * 3)) (by rw [ints, List.getElem?_map, marks_get k (n * 3) (j * 3) (by omega)]; simp <;> omega)
        skip
        exact h
      have c1 : w.cell? ⟨b, off + j * 3 + 1, none⟩ = some (.int .i64 (k + (j : Int) * 3 + 1)) := by
        have h := hc (j * 3 + 1) (.int .i64 (k + (j : Int) * 3 + 1)) (by rw [ints, List.getElem?_map, marks_get k (n * 3) (j * 3 + 1) (by omega)]; simp <;> omega)
        rw [show off + (j * 3 + 1) = off + j * 3 + 1 from by omega] at h
        exact h
      have c2 : w.cell? ⟨b, off + j * 3 + 2, none⟩ = some (.int .i64 (k + (j : Int) * 3 + 1 + 1)) := by
        have h := hc (j * 3 + 2) (.int .i64 (k + (j : Int) * 3 + 1 + 1)) (by rw [ints, List.getElem?_map, marks_get k (n * 3) (j * 3 + 2) (by omega)]; simp <;> omega)
        rw [show off + (j * 3 + 2) = off + j * 3 + 2 from by omega] at h
        exact h
      have w1 : IntKind.i64.wrap (k + (j : Int) * 3 + 1) = k + (j : Int) * 3 + 1 := wr64 (by omega) (by omega)
      have w2 : IntKind.i64.wrap (k + (j : Int) * 3 + 1 + 1) = k + (j : Int) * 3 + 1 + 1 := wr64 (by omega) (by omega)
      have w3 : IntKind.i64.wrap (k + (j : Int) * 3 + 1 + 1 + 1) = k + (j : Int) * 3 + 1 + 1 + 1 := wr64 (by omega) (by omega)
      clear hc
      have q1 : (j : Int) < (n : Int) := by omega
      go_wp2_with fail
      go_round
      case rel => exact ⟨j + 1, by omega, by go_num, by congr 1; omega⟩
      case measure => simp [intOf]; omega
    · obtain rfl : j = n := by omega
      go_wp2_with fail
      go_ret
      exact ⟨rfl, rfl⟩

end Go.Proofs.Ytiaabojkimboiaa
