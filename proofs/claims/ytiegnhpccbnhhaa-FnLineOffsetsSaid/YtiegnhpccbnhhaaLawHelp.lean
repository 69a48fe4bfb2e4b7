/-
  This file proves contracts of the laws' own small functions: equal lists, membership, inclusion, the size of a number, the bound on the code's length.
  Conditions: each contract's own hypotheses (that a slice reads as a list, that it is not too long).
-/
import Derived.Test.YtiegnhpccbnhhaaBase2
namespace Go.Proofs.Ytiegnhpccbnhhaa
open Go.RowKit
set_option linter.unusedSimpArgs false
set_option linter.unusedVariables false

theorem vInts_same {A B : Option Addr} {c d lo hi lo' hi' : Nat} {xs : List Int} {w : World} (ha : RdI w lo hi A xs) (hb : RdI w lo' hi' B xs) (hl : xs.length ≤ 4194304) :
    Calls Try.prog 36 #[.slice A xs.length c, .slice B xs.length d] w fun e w' => e = .returned (.bool true) ∧ ∃ n, w.drewN n = w' := by
  go_enter Try.func36, Try.ntmps36
  go_wp2_with fail
  go_loopw [5] (fun i wr => ∃ k n : Nat, k ≤ xs.length ∧ i = .int .i64 k ∧ w.drewN n = wr) (fun i _ => xs.length - (intOf i).toNat)
  case atStart => exact ⟨0, 0, Nat.zero_le _, rfl, rfl⟩
  case round =>
    obtain ⟨k, n, hk, rfl, rfl⟩ := hrel
    by_cases hlt : k < xs.length
    · obtain ⟨b, off, x, rfl, hx, hcell⟩ := ha.geti hlt
      obtain ⟨b', off', x', rfl, hx', hcell'⟩ := hb.geti hlt
      obtain rfl : x = x' := by rw [hx] at hx'; injection hx'
      have q1 : (k : Int) < (xs.length : Int) := by omega
      clear hx hx'
      go_wp2_with fail
      go_quiet (fail)
      go_wp2_with fail
      go_roundw
      case rel => exact ⟨k + 1, _, by omega, by go_num, rfl⟩
      case measure => simp [intOf]; omega
    · go_wp2_with fail
      go_ret
      exact ⟨rfl, n, rfl⟩

theorem vHas_any {A : Option Addr} {c lo hi : Nat} {xs : List Int} {x : Int} {w : World} (hr : RdI w lo hi A xs) (hl : xs.length ≤ 4194304) :
    Calls Try.prog 73 #[.slice A xs.length c, .int .i64 x] w fun e w' => e = .returned (.bool (decide (x ∈ xs))) ∧ w = w' := by
  go_enter Try.func73, Try.ntmps73
  go_wp2_with fail
  go_loop [5] (fun i => ∃ k : Nat, k ≤ xs.length ∧ i = .int .i64 k ∧ x ∉ xs.take k) (fun i => xs.length - (intOf i).toNat)
  case atStart => exact ⟨0, Nat.zero_le _, rfl, by simp⟩
  case round =>
    obtain ⟨k, hk, rfl, hno⟩ := hrel
    have HNO := Lib.hid hno
    clear hno
    by_cases hlt : k < xs.length
    · obtain ⟨b, off, y, rfl, hy, hcell⟩ := hr.geti hlt
      have HY := Lib.hid hy
      have q1 : (k : Int) < (xs.length : Int) := by omega
      clear hy
      by_cases hxy : y = x
      · have HM := Lib.hid (show decide (x ∈ xs) = true from by rw [← hxy]; exact decide_eq_true (List.mem_of_getElem? HY.out))
        have s1 : (y == x) = true := by simpa using hxy
        clear hxy
        go_wp2_with fail
        go_ret
        exact ⟨ret_bool HM.out.symm, rfl⟩
      · have HM := Lib.hid (show x ∉ xs.take (k + 1) from by rw [take_snoc HY.out]; intro h; exact (List.mem_append.1 h).elim HNO.out (fun h => hxy (List.mem_singleton.1 h).symm))
        have s1 : (y == x) = false := by simpa using hxy
        clear hxy
        go_wp2_with fail
        go_round
        case rel => exact ⟨k + 1, by omega, by go_num, HM.out⟩
        case measure => simp [intOf]; omega
    · have HM := Lib.hid (show decide (x ∈ xs) = false from decide_eq_false (by have := HNO.out; rwa [take_all hlt] at this))
      go_wp2_with fail
      go_ret
      exact ⟨ret_bool HM.out.symm, rfl⟩

theorem vWithin_any {A B : Option Addr} {c d lo hi lo' hi' : Nat} {xs ys : List Int} {w : World} (hr : RdI w lo hi A xs) (hs : RdI w lo' hi' B ys) (hl : xs.length ≤ 4194304) (hl' : ys.length ≤ 4194304) (hin : ∀ x ∈ xs, x ∈ ys) :
    Calls Try.prog 39 #[.slice A xs.length c, .slice B ys.length d] w fun e w' => e = .returned (.bool true) ∧ w = w' := by
  have HIN := Lib.hid hin
  clear hin
  go_enter Try.func39, Try.ntmps39
  go_wp2_with fail
  go_loop [5] (fun i => ∃ k : Nat, k ≤ xs.length ∧ i = .int .i64 k) (fun i => xs.length - (intOf i).toNat)
  case atStart => exact ⟨0, Nat.zero_le _, rfl⟩
  case round =>
    obtain ⟨k, hk, rfl⟩ := hrel
    by_cases hlt : k < xs.length
    · obtain ⟨b, off, y, rfl, hy, hcell⟩ := hr.geti hlt
      have HM := Lib.hid (show decide (y ∈ ys) = true from decide_eq_true (HIN.out y (List.mem_of_getElem? hy)))
      have q1 : (k : Int) < (xs.length : Int) := by omega
      clear hy
      go_wp2_with fail
      refine (vHas_any (x := y) hs hl').mono ?_
      rintro e w' ⟨rfl, rfl⟩
      rw [HM.out]
      go_wp2_with fail
      go_round
      case rel => exact ⟨k + 1, by omega, by go_num⟩
      case measure => simp [intOf]; omega
    · go_wp2_with fail
      go_ret
      exact ⟨rfl, rfl⟩

theorem vSize_any (n : Int) (w : World) (h1 : -4611686018427387904 ≤ n) (h2 : n ≤ 4611686018427387904) : Calls Try.prog 45 #[.int .i64 n] w fun e w' => e = .returned (.int .i64 (absI n)) ∧ w = w' := by
  by_cases h : n < 0
  · go_enter Try.func45, Try.ntmps45
    go_wp2
    go_ret
    exact ⟨ret_int (by rw [absI_neg h]), rfl⟩
  · go_enter Try.func45, Try.ntmps45
    go_wp2
    go_ret
    exact ⟨ret_int (by rw [absI_pos (by omega)]), rfl⟩

theorem vBig_any {A : Option Addr} {c n : Nat} {w : World} : Calls Try.prog 34 #[.slice A n c] w fun e w' => e = .returned (.bool (decide (65536 < n))) ∧ w = w' := by
  by_cases h : 65536 < n
  · have q : (65536 : Int) < (n : Int) := by omega
    go_enter Try.func34, Try.ntmps34
    go_wp2_with fail
    go_ret
    exact ⟨ret_bool (by simp [h]), rfl⟩
  · have q : ¬ (65536 : Int) < (n : Int) := by omega
    go_enter Try.func34, Try.ntmps34
    go_wp2_with fail
    go_ret
    exact ⟨ret_bool (by simp [h]), rfl⟩

end Go.Proofs.Ytiegnhpccbnhhaa
