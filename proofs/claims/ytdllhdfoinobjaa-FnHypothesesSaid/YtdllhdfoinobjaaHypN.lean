/-
  This file proves contracts of the laws' own comparisons of lists of hypotheses and of pairs of numbers.
  Conditions: that both slices read as one list, that it is not too long.
-/
import Derived.Test.YtdllhdfoinobjaaHypothesisS
import Derived.Test.YtdllhdfoinobjaaPairS
namespace Go.Proofs.Ytdllhdfoinobjaa
open Go.RowKit
set_option linter.unusedSimpArgs false
set_option linter.unusedVariables false

theorem eq_pair (x y : Int) (w : World) : (Op.equalIn 10000 66 (.agg #[.int .i64 x, .int .i64 y]) (.agg #[.int .i64 x, .int .i64 y])).run Try.prog w = .ok true w := by
  have h0 : ∀ w', (part 3 #[Value.int .i64 x, Value.int .i64 y] 0).run Try.prog w' = .ok (.int .i64 x) w' := fun _ => by kernel_rfl
  have h1 : ∀ w', (part 3 #[Value.int .i64 x, Value.int .i64 y] 1).run Try.prog w' = .ok (.int .i64 y) w' := fun _ => by kernel_rfl
  have hs : ∀ w', (sizeOf 3).run Try.prog w' = .ok 1 w' := fun _ => by kernel_rfl
  show (Op.equalIn (9999 + 1) 66 (.agg #[.int .i64 x, .int .i64 y]) (.agg #[.int .i64 x, .int .i64 y])).run Try.prog w = .ok true w
  rw [Op.equalIn]
  simp [run_underlying Try.underlying66, hs, List.range', h0, h1, run_equalIn_int _ _ _ _ _ _ _ Try.underlying3]

set_option maxHeartbeats 1000000 in
set_option maxRecDepth 100000 in
theorem vHypotheses_same {A B : Option Addr} {c d lo hi lo' hi' : Nat} {ps : List GHypothesis} {w : World} (ha : RdH w lo hi A ps) (hb : RdH w lo' hi' B ps) (hl : ps.length ≤ 2097152) :
    Calls Try.prog 12 #[.slice A ps.length c, .slice B ps.length d] w fun e w' => e = .returned (.bool true) ∧ ∃ n, w.drewN n = w' := by
  go_enter Try.func12, Try.ntmps12
  go_wp2_with fail
  go_loopw [5] (fun i wr => ∃ k n : Nat, k ≤ ps.length ∧ i = .int .i64 k ∧ w.drewN n = wr) (fun i _ => ps.length - (intOf i).toNat)
  case atStart => exact ⟨0, 0, Nat.zero_le _, rfl, rfl⟩
  case round =>
    obtain ⟨k, n, hk, rfl, rfl⟩ := hrel
    by_cases hlt : k < ps.length
    · obtain ⟨b, off, p, rfl, _, _, hp, c0, c1, c2⟩ := ha.getHypothesis hlt
      obtain ⟨b', off', p', rfl, _, _, hp', e0, e1, e2⟩ := hb.getHypothesis hlt
      obtain rfl : p = p' := by rw [hp] at hp'; injection hp'
      have q1 : (k : Int) < (ps.length : Int) := by omega
      clear hp hp'
      go_wp2_with fail
      go_quiet (fail)
      go_wp2_with fail
      go_roundw
      case rel => exact ⟨k + 1, _, by omega, by go_num, rfl⟩
      case measure => simp [intOf]; omega
    · go_wp2_with fail
      go_ret
      exact ⟨rfl, n, rfl⟩

set_option maxHeartbeats 1000000 in
set_option maxRecDepth 100000 in
theorem vPairs_same {A B : Option Addr} {c d lo hi lo' hi' : Nat} {ps : List GPair} {w : World} (ha : Rd2 w lo hi A ps) (hb : Rd2 w lo' hi' B ps) (hl : ps.length ≤ 2097152) :
    Calls Try.prog 17 #[.slice A ps.length c, .slice B ps.length d] w fun e w' => e = .returned (.bool true) ∧ ∃ n, w.drewN n = w' := by
  go_enter Try.func17, Try.ntmps17
  go_wp2_with fail
  go_loopw [5] (fun i wr => ∃ k n : Nat, k ≤ ps.length ∧ i = .int .i64 k ∧ w.drewN n = wr) (fun i _ => ps.length - (intOf i).toNat)
  case atStart => exact ⟨0, 0, Nat.zero_le _, rfl, rfl⟩
  case round =>
    obtain ⟨k, n, hk, rfl, rfl⟩ := hrel
    by_cases hlt : k < ps.length
    · obtain ⟨b, off, p, rfl, _, _, hp, c0, c1⟩ := ha.getPair hlt
      obtain ⟨b', off', p', rfl, _, _, hp', e0, e1⟩ := hb.getPair hlt
      obtain rfl : p = p' := by rw [hp] at hp'; injection hp'
      have q1 : (k : Int) < (ps.length : Int) := by omega
      clear hp hp'
      have heq := eq_pair p.a p.b
      go_wp2_with fail
      go_quiet (fail)
      go_wp2_with fail
      go_roundw
      case rel => exact ⟨k + 1, _, by omega, by go_num, rfl⟩
      case measure => simp [intOf]; omega
    · go_wp2_with fail
      go_ret
      exact ⟨rfl, n, rfl⟩

end Go.Proofs.Ytdllhdfoinobjaa
