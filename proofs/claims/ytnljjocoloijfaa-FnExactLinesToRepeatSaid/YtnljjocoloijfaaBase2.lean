/-
  This file proves contracts of small functions on numbers: the greater, the less, the size.
  Conditions: that the size's number lies well within 64 bits.
-/
import Derived.Test.YtnljjocoloijfaaBase
namespace Go.Proofs.Ytnljjocoloijfaa
open Go.RowKit
set_option linter.unusedSimpArgs false
set_option linter.unusedVariables false

def mostI (a b : Int) : Int := if b < a then a else b
def leastI (a b : Int) : Int := if a < b then a else b
theorem mostI_eq (a b : Int) : mostI a b = max a b := by unfold mostI; split <;> omega
theorem leastI_eq (a b : Int) : leastI a b = min a b := by unfold leastI; split <;> omega

theorem l1Most_any (a b : Int) (w : World) : Calls Try.prog 37 #[.int .i64 a, .int .i64 b] w fun e w' => e = .returned (.int .i64 (mostI a b)) ∧ w = w' := by
  by_cases h : b < a
  · go_enter Try.func37, Try.ntmps37
    go_wp2
    go_ret
    exact ⟨ret_int (by rw [mostI, if_pos h]), rfl⟩
  · go_enter Try.func37, Try.ntmps37
    go_wp2
    go_ret
    exact ⟨ret_int (by rw [mostI, if_neg (by omega)]), rfl⟩

theorem absI_pos {n : Int} (h : 0 ≤ n) : absI n = n := by unfold absI; rw [if_neg (by omega)]
theorem absI_neg {n : Int} (h : n < 0) : absI n = -n := by unfold absI; rw [if_pos h]

theorem absOf_any (n : Int) (w : World) (h1 : -4611686018427387904 ≤ n) (h2 : n ≤ 4611686018427387904) : Calls Try.prog 51 #[.int .i64 n] w fun e w' => e = .returned (.int .i64 (absI n)) ∧ w = w' := by
  by_cases h : n < 0
  · go_enter Try.func51, Try.ntmps51
    go_wp2
    go_ret
    exact ⟨ret_int (by rw [absI_neg h]), rfl⟩
  · go_enter Try.func51, Try.ntmps51
    go_wp2
    go_ret
    exact ⟨ret_int (by rw [absI_pos (by omega)]), rfl⟩

/-- A sum over the first k indices. -/
def rsum (f : Nat → Int) : Nat → Int
  | 0 => 0
  | k + 1 => rsum f k + f k
theorem rsum_succ (f : Nat → Int) (k : Nat) : rsum f (k + 1) = rsum f k + f k := rfl
theorem rsum_bound {f : Nat → Int} {B : Nat} {k : Nat} (h : ∀ i, i < k → 0 ≤ f i ∧ f i ≤ B) : 0 ≤ rsum f k ∧ rsum f k ≤ B * k := by
  induction k with
  | zero => simp [rsum]
  | succ k ih =>
    have h1 := ih (fun i hi => h i (by omega))
    have h2 := h k (by omega)
    rw [rsum_succ]
    have e : ((B * (k + 1 : Nat) : Nat) : Int) = B * k + B := by rw [Nat.mul_add, Nat.mul_one]; push_cast; rfl
    push_cast at e
    constructor
    · omega
    · push_cast
      omega

end Go.Proofs.Ytnljjocoloijfaa
