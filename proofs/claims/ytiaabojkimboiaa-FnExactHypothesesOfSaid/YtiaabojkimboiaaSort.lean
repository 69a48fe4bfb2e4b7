/-
  This file proves the contract of slices.Sort on a list of integers of the call's own, in the words of this claim: the list is sorted in place, nothing else that was there has turned.
  Conditions: that the slice is a row of the call's own, shorter than 2^62.
-/
import Derived.Test.YtiaabojkimboiaaBase
import Derived.Test.YtiaabojkimboiaaShelf
import Derived.Sort.OwnSortedInts
namespace Go.Proofs.Ytiaabojkimboiaa
open Go.RowKit Go.Sort
set_option linter.unusedSimpArgs false
set_option linter.unusedVariables false

/-- A list of integers in ascending order. -/
def sortI (xs : List Int) : List Int := xs.mergeSort fun x y => decide (x ≤ y)
theorem sortI_length (xs : List Int) : (sortI xs).length = xs.length := List.length_mergeSort _
theorem sortI_perm (xs : List Int) : (sortI xs).Perm xs := List.mergeSort_perm _ _
theorem sortI_sorted (xs : List Int) : (sortI xs).Pairwise (· ≤ ·) := by
  have h := List.pairwise_mergeSort (le := fun x y : Int => decide (x ≤ y)) (fun a b c h1 h2 => by simp at h1 h2 ⊢; omega) (fun a b => by simp; omega) xs
  exact h.imp (fun h => by simpa using h)

theorem sort_any {A : Option Addr} {c lo hi : Nat} {xs : List Int} {w : World} (ho : OwnI w 3 lo hi A c xs) (hl : xs.length ≤ 4194304) :
    Calls Try.prog 40 #[.slice A xs.length c] w fun e w' => e = .returned (.tuple #[]) ∧ Own w' 3 lo hi 1 A xs.length c (ints (sortI xs)) ∧ Only lo hi w w' := by
  rcases Nat.eq_zero_or_pos xs.length with h0 | hpos
  · have hx : xs = [] := List.eq_nil_of_length_eq_zero h0
    subst hx
    have es : sortI [] = [] := by simp [sortI]
    rw [es]
    exact (Try.slices_Sort_int_none A c w).mono fun e w' ⟨he, hw⟩ => ⟨he, by subst hw; exact ho, by subst hw; exact Only.refl _ _ _⟩
  · obtain ⟨g, rfl, hg1, hg2⟩ := ho.length_pos hpos
    rcases ho.1.2 with ⟨hv, _⟩ | ⟨g', cap, cur, hv, hb, hh, hn, hcap, hcs, htake⟩
    · cases hv
    · injection hv with e1 e2 e3
      injection e1 with e1
      injection e1 with e1
      subst e1
      subst e3
      rw [Nat.mul_one] at htake
      have hlt : g < w.heap.size := (Array.getElem?_eq_some_iff.1 hh).1
      refine (Try.slices_Sort_int g 0 c xs w (holds_of_blockI hh htake) hlt (by omega)).mono ?_
      rintro e w' ⟨he, n, os, hw⟩
      subst hw
      refine ⟨he, ⟨ownsRow_sortedI (sortI_length xs) hb hh hn hcap hcs, ho.2⟩, ?_⟩
      have hgr := grownBy_sortedI (w := w) (g := g) (n := n) (os := os) (sortI xs).toArray
      exact ⟨hgr.os, hgr.tape, hgr.output, hgr.size, fun k hk hout => hgr.block k hk (fun e => by injection e with e; omega)⟩

end Go.Proofs.Ytiaabojkimboiaa
