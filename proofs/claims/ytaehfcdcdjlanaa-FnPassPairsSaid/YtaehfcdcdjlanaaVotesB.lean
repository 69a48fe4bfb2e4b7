/-
  This file proves contracts of the two functions that sort votes into a new list, of the program and of the reference.
  Conditions: each contract's own hypotheses (that a slice reads as a list, that it is not too long).
-/
import Derived.Test.YtaehfcdcdjlanaaCopy
import Derived.Test.YtaehfcdcdjlanaaCat
import Derived.Test.YtaehfcdcdjlanaaSort
import Derived.Deep.RegionHeld3
namespace Go.Proofs.Ytaehfcdcdjlanaa
open Go.RowKit
set_option linter.unusedSimpArgs false
set_option linter.unusedVariables false

/-- What is known of the sorted list so far, in every world of the statement that lengthens it. -/
structure HL (e : TypeId) (N h0 : Nat) (A : Option Addr) (c : Nat) (ys : List Int) (w w' : World) : Prop where
  own : Own w' e N h0 1 A ys.length c (ints ys)
  bel : Below N w w'
  hs : h0 ≤ w'.heap.size
theorem HL.drew {e : TypeId} {N h0 : Nat} {A : Option Addr} {c : Nat} {ys : List Int} {w w' : World} (h : HL e N h0 A c ys w w') : HL e N h0 A c ys w w'.drew := ⟨h.own, h.bel.drew, h.hs⟩
theorem HL.below {e : TypeId} {N h0 : Nat} {A : Option Addr} {c : Nat} {ys : List Int} {w w' w'' : World} (h : HL e N h0 A c ys w w') (hN : N ≤ h0) (hb : Below w'.heap.size w' w'') : HL e N h0 A c ys w w'' :=
  ⟨h.own.below hb h.hs, h.bel.trans (hb.mono (by have := h.hs; omega)), by have := hb.size; have := h.hs; omega⟩
theorem HL.alloc {e : TypeId} {N h0 : Nat} {A : Option Addr} {c : Nat} {ys : List Int} {w w' : World} (h : HL e N h0 A c ys w w') (hN : N ≤ h0) (o : Obj) : HL e N h0 A c ys w (w'.alloc o) := h.below hN (below_alloc1 _ _)
theorem own_empty (w : World) (e : TypeId) : Own (w.alloc (.cells #[] e)) e w.heap.size (w.alloc (.cells #[] e)).heap.size 1 (some ⟨w.heap.size, 0, none⟩) 0 0 [] :=
  ⟨row_empty w e 1, fun a ha => by cases ha; simp⟩
theorem Rd.take {w : World} {lo hi n j : Nat} {A : Option Addr} {xs : List Int} (h : Rd w lo hi 1 A n (ints xs)) (hj : j ≤ n) : Rd w lo hi 1 A j (ints (xs.take j)) := by
  have hl := h.1
  simp [ints] at hl
  refine ⟨by simp [ints]; omega, fun hn => ?_⟩
  obtain ⟨b, off, e, h1, h2, hc⟩ := h.2 (by omega)
  refine ⟨b, off, e, h1, h2, fun i u hu => hc i u ?_⟩
  simp only [ints, List.map_take, List.getElem?_take] at hu
  split at hu
  · exact hu
  · cases hu
/-- The tail from j on. -/
theorem rd_tail {w : World} {lo hi n j : Nat} {b : Nat} {xs : List Int} (h : Rd w lo hi 1 (some ⟨b, 0, none⟩) n (ints xs)) (hj : j ≤ n) : Rd w lo hi 1 (some ⟨b, j, none⟩) (n - j) (ints (xs.drop j)) := by
  have hl := h.1
  simp [ints] at hl
  refine ⟨by simp [ints]; omega, fun hn => ?_⟩
  obtain ⟨b', off, e, h1, h2, hc⟩ := h.2 (by omega)
  cases e
  refine ⟨b, j, rfl, h1, h2, fun i u hu => ?_⟩
  rw [show j + i = 0 + (j + i) by omega]
  refine hc (j + i) u ?_
  simpa [ints, List.getElem?_drop, List.getElem?_map] using hu
theorem rd_tail0 {w w' : World} {lo hi lo' hi' n j : Nat} {A B : Option Addr} {xs : List Int} (h : Rd w' lo' hi' 1 B n (ints xs)) (hj : n ≤ j) : Rd w lo hi 1 A (n - j) (ints (xs.drop j)) := by
  have hl := h.1
  simp [ints] at hl
  exact ⟨by simp [ints]; omega, fun hn => absurd hn (by omega)⟩
theorem rd_new (w : World) (e : TypeId) (x : Int) : Rd (w.alloc (.cells #[.int .i64 x] e)) 0 (w.alloc (.cells #[.int .i64 x] e)).heap.size 1 (some ⟨w.heap.size, 0, none⟩) 1 [.int .i64 x] := by
  refine ⟨rfl, fun _ => ⟨w.heap.size, 0, rfl, Nat.zero_le _, by simp, fun j u hu => ?_⟩⟩
  have := cells_new w [.int .i64 x] e j u hu
  rwa [Addr.add_lit] at this
theorem rd_newd (w : World) (e : TypeId) (x : Int) : Rd (w.alloc (.cells #[.int .i64 x] e)).drew 0 (w.alloc (.cells #[.int .i64 x] e)).drew.heap.size 1 (some ⟨w.heap.size, 0, none⟩) 1 [.int .i64 x] := rd_new w e x
theorem HL.within {e : TypeId} {N h0 : Nat} {A : Option Addr} {c : Nat} {ys : List Int} {w w' w'' : World} (h : HL e N h0 A c ys w w') (hN : N ≤ h0) (hb : Below h0 w' w'') : HL e N h0 A c ys w w'' :=
  ⟨h.own.below hb (Nat.le_refl _), h.bel.trans (hb.mono hN), by have := hb.size; have := h.hs; omega⟩

/-- x put at place j of a sorted list. -/
def putAt (ys : List Int) (j : Nat) (x : Int) : List Int := (ys.take j ++ [x]) ++ ys.drop j
theorem putAt_length (ys : List Int) {j : Nat} (h : j ≤ ys.length) (x : Int) : (putAt ys j x).length = ys.length + 1 := by simp [putAt]; omega
theorem putAt_perm (ys : List Int) (j : Nat) (x : Int) {zs : List Int} (h : ys.Perm zs) : (putAt ys j x).Perm (zs ++ [x]) := by
  unfold putAt
  rw [List.append_assoc]
  refine (List.perm_append_comm_assoc _ _ _).trans ?_
  rw [List.take_append_drop]
  exact List.perm_append_comm.trans (h.append_right _)
theorem putAt_sorted {ys : List Int} {j : Nat} {x : Int} (hs : ys.Pairwise (· ≤ ·)) (h1 : ∀ m v, j ≤ m → ys[m]? = some v → x < v) (h2 : j = 0 ∨ ∃ y, ys[j - 1]? = some y ∧ y ≤ x) : (putAt ys j x).Pairwise (· ≤ ·) := by
  have hlow : ∀ v ∈ ys.take j, v ≤ x := by
    intro v hv
    rcases h2 with rfl | ⟨y, hy, hyx⟩
    · simp at hv
    · obtain ⟨m, hm⟩ := List.getElem?_of_mem hv
      rw [List.getElem?_take] at hm
      split at hm
      · rename_i hmj
        rcases Nat.lt_or_ge m (j - 1) with hlt | hge
        · obtain ⟨k1, e1⟩ := List.getElem?_eq_some_iff.1 hm
          obtain ⟨k2, e2⟩ := List.getElem?_eq_some_iff.1 hy
          have := List.pairwise_iff_getElem.1 hs m (j - 1) k1 k2 hlt
          rw [e1, e2] at this
          omega
        · obtain rfl : m = j - 1 := by omega
          rw [hy] at hm
          injection hm with hm
          omega
      · cases hm
  have hhigh : ∀ v ∈ ys.drop j, x ≤ v := by
    intro v hv
    obtain ⟨m, hm⟩ := List.getElem?_of_mem hv
    rw [List.getElem?_drop] at hm
    have := h1 (j + m) v (by omega) hm
    omega
  have hsplit : (ys.take j ++ ys.drop j).Pairwise (· ≤ ·) := by rw [List.take_append_drop]; exact hs
  rw [List.pairwise_append] at hsplit
  unfold putAt
  rw [List.pairwise_append, List.pairwise_append]
  refine ⟨⟨hsplit.1, by simp, fun a ha b hb => by simp at hb; subst hb; exact hlow a ha⟩, hsplit.2.1, fun a ha b hb => ?_⟩
  rcases List.mem_append.1 ha with ha | ha
  · exact hsplit.2.2 a ha b hb
  · simp at ha
    subst ha
    exact hhigh b hb
theorem sort_unique {ys xs : List Int} (hs : ys.Pairwise (· ≤ ·)) (hp : ys.Perm xs) : ys = sortI xs :=
  List.Perm.eq_of_pairwise (le := fun a b : Int => a ≤ b) (fun a b _ _ h1 h2 => by omega) hs (sortI_sorted xs) (hp.trans (sortI_perm xs).symm)

end Go.Proofs.Ytaehfcdcdjlanaa
