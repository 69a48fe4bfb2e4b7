/-
  This file proves contracts of the draws of the laws on crossings: they give lists of 20 crossings at most, and numbers.
  Conditions: that the code reads as a list of bytes, 65536 at most.
-/
import Derived.Test.YtgdgbejhnenliaaCrossO
namespace Go.Proofs.Ytgdgbejhnenliaa
open Go.RowKit
set_option linter.unusedSimpArgs false
set_option linter.unusedVariables false

/-- The code: a slice of bytes. -/
structure Code8 (w : World) (A : Option Addr) (xs : List Int) : Prop where
  rd : Rd w 0 w.heap.size 1 A xs.length (bytesV xs)
  by8 : ∀ x ∈ xs, 0 ≤ x ∧ x ≤ 255
  len : xs.length ≤ 65536
theorem Code8.below {w w' : World} {A : Option Addr} {xs : List Int} (h : Code8 w A xs) (hb : Below w.heap.size w w') : Code8 w' A xs :=
  ⟨(h.rd.below hb (Nat.le_refl _)).more (Nat.le_refl _) hb.size, h.by8, h.len⟩
/-- The cursor, just made. -/
theorem Cur.new {w : World} {A : Option Addr} {c : Nat} {xs : List Int} (h : Code8 w A xs) (t : TypeId) : Cur (w.alloc (.cells #[.slice A xs.length c, .int .i64 0, .int .u64 0] t)) w.heap.size 0 := by
  have e := heap_alloc_new w (.cells #[.slice A xs.length c, .int .i64 0, .int .u64 0] t)
  refine ⟨⟨A, c, xs, 0, 0, ?_, ?_, ?_, Nat.le_refl _, by decide, by decide, h.rd.below (below_alloc1 _ _) (Nat.le_refl _), h.by8, h.len⟩, ?_, ?_⟩
  · rw [cell_of_row _ _ _ _ _ (0, 0) e]; rfl
  · rw [cell_of_row _ _ _ _ _ (0, 0) e]; rfl
  · rw [cell_of_row _ _ _ _ _ (0, 0) e]; rfl
  · unfold World.frozen?; rw [e]; rfl
  · unfold World.frozen?; rw [e]; rfl
theorem St.out {w0 w wr : World} {b : Nat} {e : TypeId} {size : Nat} {A : Option Addr} {n c : Nat} {cs : List Value} (h : St w wr w0.heap.size b e size A n c cs) (hb : Below w0.heap.size w0 w) : Below w0.heap.size w0 wr := by
  have := h.hg
  exact ⟨h.on.os.trans hb.os, h.on.tape.trans hb.tape, h.on.output.trans hb.output, Nat.le_trans hb.size h.on.size, fun k hk => (h.on.block k (by omega) (.inl hk)).trans (hb.block k hk)⟩
theorem St.own_out {w0 w wr : World} {g b : Nat} {e : TypeId} {size : Nat} {A : Option Addr} {n c : Nat} {cs : List Value} (h : St w wr g b e size A n c cs) (hb : w0.heap.size ≤ w.heap.size) : Own wr e w0.heap.size wr.heap.size size A n c cs := h.own.more hb (Nat.le_refl _)

def DrC0 (w : World) (e : Ending) (w' : World) : Prop := ∃ (B : Option Addr) (d : Nat) (ps : List GCrossing), e = .returned (.slice B ps.length d) ∧ ps.length ≤ 20 ∧ Own w' 35 w.heap.size w'.heap.size 4 B ps.length d (cellsCrossing ps) ∧ Below w.heap.size w w'
def DrC1 (w : World) (e : Ending) (w' : World) : Prop := ∃ (B : Option Addr) (d : Nat) (ps : List GCrossing) (v0 : Int), e = .returned (.tuple #[.slice B ps.length d, .int .i64 v0]) ∧ ps.length ≤ 20 ∧ Own w' 35 w.heap.size w'.heap.size 4 B ps.length d (cellsCrossing ps) ∧ Below w.heap.size w w'
def DrC2 (w : World) (e : Ending) (w' : World) : Prop := ∃ (B : Option Addr) (d : Nat) (ps : List GCrossing) (v0 v1 : Int), e = .returned (.tuple #[.slice B ps.length d, .int .i64 v0, .int .i64 v1]) ∧ ps.length ≤ 20 ∧ Own w' 35 w.heap.size w'.heap.size 4 B ps.length d (cellsCrossing ps) ∧ Below w.heap.size w w'
def DrC3 (w : World) (e : Ending) (w' : World) : Prop := ∃ (B : Option Addr) (d : Nat) (ps : List GCrossing) (v0 v1 v2 : Int), e = .returned (.tuple #[.slice B ps.length d, .int .i64 v0, .int .i64 v1, .int .i64 v2]) ∧ ps.length ≤ 20 ∧ Own w' 35 w.heap.size w'.heap.size 4 B ps.length d (cellsCrossing ps) ∧ Below w.heap.size w w'

set_option maxHeartbeats 2000000 in
set_option maxRecDepth 100000 in
theorem drawAre_any {A : Option Addr} {c : Nat} {xs : List Int} {w : World} (hc : Code8 w A xs) :
    Calls Try.prog 28 #[.slice A xs.length c] w (DrC0 w) := by
  have C0 := Cur.new (c := c) hc 44
  have hb0 := below_alloc1 w (.cells #[.slice A xs.length c, .int .i64 0, .int .u64 0] 44)
  go_enter Try.func28, Try.ntmps28
  go_wp2_with fail
  generalize w.alloc (.cells #[.slice A xs.length c, .int .i64 0, .int .u64 0] 44) = wx at C0 hb0 ⊢
  refine (crossings_any C0 (by omega)).mono ?_
  rintro e w1 ⟨B, d, ps, rfl, hl, U0⟩
  go_wp2_with fail
  go_ret
  exact ⟨B, d, ps, rfl, hl, U0.own_out hb0.size, U0.out hb0⟩

theorem drawWorst_any {A : Option Addr} {c : Nat} {xs : List Int} {w : World} (hc : Code8 w A xs) :
    Calls Try.prog 9 #[.slice A xs.length c] w (DrC0 w) := by
  go_enter Try.func9, Try.ntmps9
  go_wp2_with fail
  refine (drawAre_any hc).mono ?_
  rintro e w1 ⟨B, d, ps, rfl, hl, O, hb⟩
  go_wp2_with fail
  go_ret
  exact ⟨B, d, ps, rfl, hl, O, hb⟩

theorem drawMean_any {A : Option Addr} {c : Nat} {xs : List Int} {w : World} (hc : Code8 w A xs) :
    Calls Try.prog 16 #[.slice A xs.length c] w (DrC0 w) := by
  go_enter Try.func16, Try.ntmps16
  go_wp2_with fail
  refine (drawAre_any hc).mono ?_
  rintro e w1 ⟨B, d, ps, rfl, hl, O, hb⟩
  go_wp2_with fail
  go_ret
  exact ⟨B, d, ps, rfl, hl, O, hb⟩

end Go.Proofs.Ytgdgbejhnenliaa
