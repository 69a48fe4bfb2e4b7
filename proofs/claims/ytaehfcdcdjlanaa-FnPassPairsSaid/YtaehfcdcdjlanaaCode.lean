/-
  This file proves words on the laws' code: a slice of bytes; the cursor that is made over it; what a draw leaves.
  Conditions: each lemma's own hypotheses.
-/
import Derived.Test.YtaehfcdcdjlanaaDraw
namespace Go.Proofs.Ytaehfcdcdjlanaa
open Go.RowKit
set_option linter.unusedSimpArgs false
set_option linter.unusedVariables false

/-- The code: a slice of bytes. -/
structure Code8 (w : World) (A : Option Addr) (xs : List Int) : Prop where
  rd : Rd w 0 w.heap.size 1 A xs.length (bytesV xs)
  by8 : ∀ x ∈ xs, 0 ≤ x ∧ x ≤ 255
  len : xs.length ≤ 65536
theorem Code8.below {w w' : World} {A : Option Addr} {xs : List Int} (h : Code8 w A xs) (hb : Below w.heap.size w w') : Code8 w' A xs :=
  ⟨(h.rd.below hb (Nat.le_refl _)).more (Nat.le_refl _) hb.size, h.by8, h.len⟩
/-- The cursor, just made. -/
theorem Cur.new {w : World} {A : Option Addr} {c : Nat} {xs : List Int} (h : Code8 w A xs) (t : TypeId) : Cur (w.alloc (.cells #[.slice A xs.length c, .int .i64 0, .int .u64 0] t)) w.heap.size 0 := by
  have e := heap_alloc_new w (.cells #[.slice A xs.length c, .int .i64 0, .int .u64 0] t)
  refine ⟨⟨A, c, xs, 0, 0, ?_, ?_, ?_, Nat.le_refl _, by decide, by decide, h.rd.below (below_alloc1 _ _) (Nat.le_refl _), h.by8, h.len⟩, ?_, ?_⟩
  · rw [cell_of_row _ _ _ _ _ (0, 0) e]; rfl
  · rw [cell_of_row _ _ _ _ _ (0, 0) e]; rfl
  · rw [cell_of_row _ _ _ _ _ (0, 0) e]; rfl
  · unfold World.frozen?; rw [e]; rfl
  · unfold World.frozen?; rw [e]; rfl
theorem St.out {w0 w wr : World} {b : Nat} {e : TypeId} {size : Nat} {A : Option Addr} {n c : Nat} {cs : List Value} (h : St w wr w0.heap.size b e size A n c cs) (hb : Below w0.heap.size w0 w) : Below w0.heap.size w0 wr := by
  have := h.hg
  exact ⟨h.on.os.trans hb.os, h.on.tape.trans hb.tape, h.on.output.trans hb.output, Nat.le_trans hb.size h.on.size, fun k hk => (h.on.block k (by omega) (.inl hk)).trans (hb.block k hk)⟩
theorem St.own_out {w0 w wr : World} {g b : Nat} {e : TypeId} {size : Nat} {A : Option Addr} {n c : Nat} {cs : List Value} (h : St w wr g b e size A n c cs) (hb : w0.heap.size ≤ w.heap.size) : Own wr e w0.heap.size wr.heap.size size A n c cs := h.own.more hb (Nat.le_refl _)

theorem Only.bel {g N : Nat} {w w' : World} (h : Only g (g + 1) w w') (hg : g < w.heap.size) (hN : N ≤ g) : Below N w w' := (h.below (Nat.le_of_lt hg)).mono hN

end Go.Proofs.Ytaehfcdcdjlanaa
