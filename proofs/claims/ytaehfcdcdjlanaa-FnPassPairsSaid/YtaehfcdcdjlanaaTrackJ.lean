/-
  This file proves the contract of the function that draws tracks: a list of 31 numbers at most.
  Conditions: that the cursor lies in a block of the call's own, and has not been asked too often.
-/
import Derived.Test.YtaehfcdcdjlanaaDraw
import Derived.Test.YtaehfcdcdjlanaaPushAt
import Derived.Deep.RegionHeld
namespace Go.Proofs.Ytaehfcdcdjlanaa
open Go.RowKit
set_option linter.unusedSimpArgs false
set_option linter.unusedVariables false

theorem rdI_newg (w : World) (g : Nat) (e : TypeId) (xs : List Int) (cs : Array Value) (h : cs = (ints xs).toArray) (hg : g = w.heap.size) : RdI (w.alloc (.cells cs e)) g (g + 1) (some ⟨g, 0, none⟩) xs := by
  subst hg
  exact rdI_new w e xs cs h
theorem St.pushI {w wr w7 : World} {v7 : Value} {g b n c : Nat} {A : Option Addr} {F : List Int} {x : Int} (h : St w wr g b 3 1 A n c (ints F)) (hn : n = F.length)
    (hown : w7.ownsRow w.heap.size 3 1 v7 (n + 1) (ints F ++ [.int .i64 x])) (hb : ∀ w0, Below w.heap.size w0 wr → Below w.heap.size w0 w7) :
    ∃ A' c' F', v7 = .slice A' F'.length c' ∧ F'.length = n + 1 ∧ St w w7 g b 3 1 A' F'.length c' (ints F') := by
  rw [show ints F ++ [.int .i64 x] = ints (F ++ [x]) from by simp [ints]] at hown
  obtain ⟨A', c', hv, hs⟩ := h.push hown hb
  have e : (F ++ [x]).length = n + 1 := by simp; omega
  exact ⟨A', c', F ++ [x], by rw [e]; exact hv, e, by rw [e]; exact hs⟩
theorem row_cut {w : World} {base : Nat} {e : TypeId} {A : Option Addr} {n c m : Nat} {xs : List Int} (h : w.ownsRow base e 1 (.slice A n c) n (ints xs)) (hm : m ≤ n) (hn : 0 < n) : w.ownsRow base e 1 (.slice A m c) m (ints (xs.take m)) := by
  have hl : xs.length = n := by have := h.1; simpa [ints] using this
  rcases h.2 with ⟨_, h0⟩ | ⟨g, cap, cur, hv, hg, hh, h1, h2, h3, h4⟩
  · omega
  · injection hv with e1 e2 e3
    subst e1 e3
    refine ⟨by simp [ints]; omega, .inr ⟨g, c, cur, rfl, hg, hh, by omega, h2, h3, ?_⟩⟩
    have : ints (xs.take m) = (ints xs).take m := by simp [ints, List.map_take]
    rw [this, ← h4, List.take_take]
    congr 1
    omega
/-- A list that is cut short. -/
theorem St.cut {w wr : World} {g b c m : Nat} {A : Option Addr} {F : List Int} (h : St w wr g b 3 1 A F.length c (ints F)) (hm : m ≤ F.length) (hn : 0 < F.length) :
    ∃ F' : List Int, F'.length = m ∧ St w wr g b 3 1 A m c (ints F') :=
  ⟨F.take m, by simp; omega, ⟨row_cut h.own.1 hm hn, h.own.2⟩, h.on, h.cur, h.hg⟩
/-- A store into the list. -/
theorem St.storeI {w wr : World} {g b c g' j : Nat} {F : List Int} {x : Int} (h : St w wr g b 3 1 (some ⟨g', 0, none⟩) F.length c (ints F)) :
    ∃ F' : List Int, F'.length = F.length ∧ St w (wr.setCell ⟨g', j, none⟩ (.int .i64 x)) g b 3 1 (some ⟨g', 0, none⟩) F'.length c (ints F') := by
  have hg' : w.heap.size ≤ g' := by
    rcases h.own.head with ⟨h0, _⟩ | ⟨g0, e0, h1, _⟩
    · cases h0
    · injection e0 with e0; injection e0 with e0; omega
  have hne : g' ≠ g := by have := h.hg; omega
  have ho := h.own.store j (.int .i64 x)
  rw [show (ints F).set j (.int .i64 x) = ints (F.set j x) from by simp [ints, List.map_set]] at ho
  have hsz : (wr.setCell ⟨g', j, none⟩ (.int .i64 x)).heap.size = wr.heap.size := by simp [World.setCell]
  refine ⟨F.set j x, by simp, ⟨?_, ?_, ?_, h.hg⟩⟩
  · rw [hsz, List.length_set]
    exact ho
  · exact ⟨h.on.os, h.on.tape, h.on.output, by rw [hsz]; exact h.on.size, fun k hk hk2 => (Below.heap_setCell _ _ _ _ (by show k ≠ g'; omega)).trans (h.on.block k hk hk2)⟩
  · obtain ⟨⟨A, cc, ys, pos, sd, h1, h2, h3, h4, h5, h6, h7, h8, h9⟩, f1, f2⟩ := h.cur
    refine ⟨⟨A, cc, ys, pos, sd, (World.cell?_setCell_far _ _ _ _ hne).trans h1, (World.cell?_setCell_far _ _ _ _ hne).trans h2, (World.cell?_setCell_far _ _ _ _ hne).trans h3, h4, h5, h6, h7.keep fun b off _ hb2 => World.cell?_setCell_far _ _ _ _ (by show g' ≠ b; have := h.hg; omega), h8, h9⟩, ?_, ?_⟩
    · exact (World.frozen?_setCell _ _ _ _).trans f1
    · exact (World.frozen?_setCell _ _ _ _).trans f2

/-- A list of integers that a draw gives. -/
def DrawnI (N g b : Nat) (w : World) (e : Ending) (w' : World) : Prop := ∃ (A : Option Addr) (c : Nat) (xs : List Int), e = .returned (.slice A xs.length c) ∧ 2 ≤ xs.length ∧ xs.length ≤ N ∧ St w w' g b 3 1 A xs.length c (ints xs)

end Go.Proofs.Ytaehfcdcdjlanaa
