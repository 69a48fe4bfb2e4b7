/-
  This file proves that a region that draws its order may be walked once, in the text's order, where its callees make new memory and leave the old as it was.
  Conditions: that the world ahead of the region keeps what is below N as the world W holds it.
-/
import Derived.Test.YtnljjocoloijfaaBase
import Derived.BigQuiet
namespace Go.Proofs.Ytnljjocoloijfaa
open Go.RowKit
set_option linter.unusedSimpArgs false
set_option linter.unusedVariables false

/-- A world that keeps what is below N as W holds it. -/
structure Bw (N : Nat) (W : World) where
  v : World
  h : Below N W v
instance (N : Nat) (W : World) : Nonempty (Bw N W) := ⟨⟨W, Below.refl _ _⟩⟩

theorem wp_region_bw {P : Program} {N : Nat} {W : World} {id : Nat} {Q : Exit → Act → World → Prop} {a : Act} {w : World} {l : List Oper} (hw : Below N W w) (hm : P.follows .mixedOrders = true) (hB : Region.lexB .any l.toArray = true)
    (h : wpQuiet P l.toArray (fun w' => ∃ s : Bw N W, w' = s.v) (fun a' => ∀ w', (∃ s : Bw N W, w' = s.v) → Q .normal a' w') l a) : (Code.region id l.toArray true).wp P Q a w :=
  wp_region_quiet (C := fun w' => ∃ s : Bw N W, w' = s.v) hm hB ⟨⟨_, hw.drew⟩, rfl⟩ (by simpa using h)

theorem bw_left {P : Program} {f : FuncId} {args : Array Value} {N : Nat} {W : World} {s : Bw N W} {v : Value} (hN : N ≤ W.heap.size)
    (h : Calls P f args s.v fun e w' => e = .returned v ∧ Below s.v.heap.size s.v w') : Calls P f args s.v fun e w'' => e = .returned v ∧ ∃ s' : Bw N W, w'' = s'.v :=
  h.mono fun _ w' ⟨he, hb⟩ => ⟨he, ⟨w', s.h.trans (hb.mono (by have := s.h.size; omega))⟩, rfl⟩
theorem bw_same {P : Program} {f : FuncId} {args : Array Value} {N : Nat} {W : World} {s : Bw N W} {v : Value}
    (h : Calls P f args s.v fun e w' => e = .returned v ∧ s.v = w') : Calls P f args s.v fun e w'' => e = .returned v ∧ ∃ s' : Bw N W, w'' = s'.v :=
  h.mono fun _ w' ⟨he, hb⟩ => ⟨he, s, hb.symm⟩
theorem Bw.cell {N : Nat} {W : World} (s : Bw N W) {p : Addr} {v : Value} (hp : p.block < N) (h : W.cell? p = some v) : s.v.cell? p = some v := (s.h.cell hp).trans h

end Go.Proofs.Ytnljjocoloijfaa
