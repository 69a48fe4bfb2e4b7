/-
  This file proves contracts of the two functions that copy a list of integers.
  Conditions: that the slice reads as a list and is not too long.
-/
import Derived.Test.YtiaabojkimboiaaBase
namespace Go.Proofs.Ytiaabojkimboiaa
open Go.RowKit
set_option linter.unusedSimpArgs false
set_option linter.unusedVariables false

theorem copyIntsN_any {A : Option Addr} {c lo hi n : Nat} {xs : List Int} {w : World} (hr : Rd w lo hi 1 A n (ints xs)) (hl : n ≤ 4194304) (hh : hi ≤ w.heap.size) :
    Calls Try.prog 39 #[.slice A n c] w (RetInts xs w) := by
  have hn : n = xs.length := by have := hr.1; simp [ints] at this; omega
  subst hn
  obtain ⟨i0, hi0, hz0, hz1, hz2⟩ := info_parts int_info
  have hr1 := hr.below (below_alloc1 w (.cells #[] 3)) hh
  go_enter Try.func39, Try.ntmps39
  go_wp2_with (at_builtin; refine wpList_cat _ rfl _ _ 22 rfl w.heap.size 3 i0 (.int .i64 0) 1 8 Try.underlying22 hi0 hz0 hz1 hz2 rfl (by decide) (.slice (some ⟨w.heap.size, 0, none⟩) 0 0) 0 [] rfl (row_empty _ _ _) lo hi A xs.length c (ints xs) rfl hr1 (ints_one _) (by omega) (by decide) (by simp) ?_; intro v1 w1 hown1 hb1 hs1 _ _)
  go_ret
  exact retInts_of (by simpa using hown1) (hb1 _ (below_alloc1 _ _))
theorem copyInts_any {A : Option Addr} {c lo hi : Nat} {xs : List Int} {w : World} (hr : RdI w lo hi A xs) (hl : xs.length ≤ 4194304) (hh : hi ≤ w.heap.size) :
    Calls Try.prog 39 #[.slice A xs.length c] w (RetInts xs w) := copyIntsN_any hr hl hh

theorem l1OwnN_any {A : Option Addr} {c lo hi n : Nat} {xs : List Int} {w : World} (hr : Rd w lo hi 1 A n (ints xs)) (hl : n ≤ 4194304) (hh : hi ≤ w.heap.size) :
    Calls Try.prog 38 #[.slice A n c] w (RetInts xs w) := by
  have hn : n = xs.length := by have := hr.1; simp [ints] at this; omega
  subst hn
  obtain ⟨i0, hi0, hz0, hz1, hz2⟩ := info_parts int_info
  have hr1 := hr.below (below_alloc1 w (.cells #[] 3)) hh
  go_enter Try.func38, Try.ntmps38
  go_wp2_with (at_builtin; refine wpList_cat _ rfl _ _ 22 rfl w.heap.size 3 i0 (.int .i64 0) 1 8 Try.underlying22 hi0 hz0 hz1 hz2 rfl (by decide) (.slice (some ⟨w.heap.size, 0, none⟩) 0 0) 0 [] rfl (row_empty _ _ _) lo hi A xs.length c (ints xs) rfl hr1 (ints_one _) (by omega) (by decide) (by simp) ?_; intro v1 w1 hown1 hb1 hs1 _ _)
  go_ret
  exact retInts_of (by simpa using hown1) (hb1 _ (below_alloc1 _ _))
theorem l1Own_any {A : Option Addr} {c lo hi : Nat} {xs : List Int} {w : World} (hr : RdI w lo hi A xs) (hl : xs.length ≤ 4194304) (hh : hi ≤ w.heap.size) :
    Calls Try.prog 38 #[.slice A xs.length c] w (RetInts xs w) := l1OwnN_any hr hl hh

end Go.Proofs.Ytiaabojkimboiaa
