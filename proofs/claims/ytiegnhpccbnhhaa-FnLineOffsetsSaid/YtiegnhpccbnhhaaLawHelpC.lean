/-
  This file proves the contract of the laws' own comparison of lists of crossings.
  Conditions: that both slices read as one list, that it is not too long.
-/
import Derived.Test.YtiegnhpccbnhhaaCrossingS
namespace Go.Proofs.Ytiegnhpccbnhhaa
open Go.RowKit
set_option linter.unusedSimpArgs false
set_option linter.unusedVariables false

set_option maxHeartbeats 1000000 in
set_option maxRecDepth 100000 in
theorem vCrossings_same {A B : Option Addr} {c d lo hi lo' hi' : Nat} {ps : List GCrossing} {w : World} (ha : RdC w lo hi A ps) (hb : RdC w lo' hi' B ps) (hl : ps.length ≤ 2097152) :
    Calls Try.prog 49 #[.slice A ps.length c, .slice B ps.length d] w fun e w' => e = .returned (.bool true) ∧ ∃ n, w.drewN n = w' := by
  go_enter Try.func49, Try.ntmps49
  go_wp2_with fail
  go_loopw [5] (fun i wr => ∃ k n : Nat, k ≤ ps.length ∧ i = .int .i64 k ∧ w.drewN n = wr) (fun i _ => ps.length - (intOf i).toNat)
  case atStart => exact ⟨0, 0, Nat.zero_le _, rfl, rfl⟩
  case round =>
    obtain ⟨k, n, hk, rfl, rfl⟩ := hrel
    by_cases hlt : k < ps.length
    · obtain ⟨b, off, p, rfl, _, _, hp, c0, c1, c2, c3⟩ := ha.getCrossing hlt
      obtain ⟨b', off', p', rfl, _, _, hp', e0, e1, e2, e3⟩ := hb.getCrossing hlt
      obtain rfl : p = p' := by rw [hp] at hp'; injection hp'
      have q1 : (k : Int) < (ps.length : Int) := by omega
      clear hp hp'
      go_wp2_with fail
      go_quiet (fail)
      go_wp2_with fail
      go_roundw
      case rel => exact ⟨k + 1, _, by omega, by go_num, rfl⟩
      case measure => simp [intOf]; omega
    · go_wp2_with fail
      go_ret
      exact ⟨rfl, n, rfl⟩

end Go.Proofs.Ytiegnhpccbnhhaa
