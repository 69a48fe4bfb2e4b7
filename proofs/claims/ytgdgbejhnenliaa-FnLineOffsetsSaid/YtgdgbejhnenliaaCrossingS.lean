/-
  This file proves words and contracts on slices of Crossing: reading, the copy between the two packages' structs, equality, the bound on the length, the marks.
  Conditions: each contract's own hypotheses (that a slice reads as a list, that it is not too long).
-/
import Derived.Test.YtgdgbejhnenliaaBw
import Derived.Handy
namespace Go.Proofs.Ytgdgbejhnenliaa
open Go.RowKit
set_option linter.unusedSimpArgs false
set_option linter.unusedVariables false

structure GCrossing where
  ln : Int
  cr : Int
  mn : Int
  ck : Int
def GCrossing.cells (p : GCrossing) : List Value := [.int .i64 p.ln, .int .i64 p.cr, .int .i64 p.mn, .int .i64 p.ck]
abbrev GCrossing.val (p : GCrossing) : Value := .agg #[.int .i64 p.ln, .int .i64 p.cr, .int .i64 p.mn, .int .i64 p.ck]
theorem Crossing_cells (p : GCrossing) (w : World) (t : TypeId) : (w.alloc (.cells #[.int .i64 p.ln, .int .i64 p.cr, .int .i64 p.mn, .int .i64 p.ck] t)).cell? ⟨w.heap.size, 0, none⟩ = some (.int .i64 p.ln) ∧ (w.alloc (.cells #[.int .i64 p.ln, .int .i64 p.cr, .int .i64 p.mn, .int .i64 p.ck] t)).cell? ⟨w.heap.size, 1, none⟩ = some (.int .i64 p.cr) ∧ (w.alloc (.cells #[.int .i64 p.ln, .int .i64 p.cr, .int .i64 p.mn, .int .i64 p.ck] t)).cell? ⟨w.heap.size, 2, none⟩ = some (.int .i64 p.mn) ∧ (w.alloc (.cells #[.int .i64 p.ln, .int .i64 p.cr, .int .i64 p.mn, .int .i64 p.ck] t)).cell? ⟨w.heap.size, 3, none⟩ = some (.int .i64 p.ck) := by
  have h := heap_alloc_new w (.cells #[.int .i64 p.ln, .int .i64 p.cr, .int .i64 p.mn, .int .i64 p.ck] t)
  refine ⟨?_, ?_, ?_, ?_⟩ <;> rw [cell_of_row _ _ _ _ _ (0, 0) h] <;> rfl

def cellsCrossing (ps : List GCrossing) : List Value := ps.flatMap GCrossing.cells
theorem cellsCrossing_length (ps : List GCrossing) : (cellsCrossing ps).length = ps.length * 4 := by
  unfold cellsCrossing
  induction ps with
  | nil => rfl
  | cons p ps ih => rw [List.flatMap_cons, List.length_append, ih, List.length_cons]; simp [GCrossing.cells]; omega
theorem cellsCrossing_get {ps : List GCrossing} {k j : Nat} {p : GCrossing} (hp : ps[k]? = some p) (hj : j < 4) : (cellsCrossing ps)[k * 4 + j]? = p.cells[j]? := by
  unfold cellsCrossing
  induction ps generalizing k with
  | nil => simp at hp
  | cons q ps ih =>
    have hq : q.cells.length = 4 := rfl
    rw [List.flatMap_cons]
    match k, hp with
    | 0, hp =>
      simp at hp
      subst hp
      rw [List.getElem?_append_left (by rw [hq]; omega)]
      congr 1
      omega
    | k + 1, hp =>
      simp at hp
      rw [List.getElem?_append_right (by rw [hq]; omega), hq, show (k + 1) * 4 + j - 4 = k * 4 + j by omega]
      exact ih hp
abbrev RdC (w : World) (lo hi : Nat) (A : Option Addr) (ps : List GCrossing) : Prop := Rd w lo hi 4 A ps.length (cellsCrossing ps)
theorem Rd.getCrossing {w : World} {lo hi k : Nat} {A : Option Addr} {ps : List GCrossing} (h : RdC w lo hi A ps) (hk : k < ps.length) :
    ∃ b off p, A = some ⟨b, off, none⟩ ∧ lo ≤ b ∧ b < hi ∧ ps[k]? = some p ∧ w.cell? ⟨b, off + k * 4, none⟩ = some (.int .i64 p.ln) ∧ w.cell? ⟨b, off + k * 4 + 1, none⟩ = some (.int .i64 p.cr) ∧ w.cell? ⟨b, off + k * 4 + 2, none⟩ = some (.int .i64 p.mn) ∧ w.cell? ⟨b, off + k * 4 + 3, none⟩ = some (.int .i64 p.ck) := by
  obtain ⟨b, off, e, h1, h2, hc⟩ := h.2 (by omega)
  have hp : ps[k]? = some ps[k] := List.getElem?_eq_getElem hk
  have g : ∀ j v, j < 4 → ps[k].cells[j]? = some v → w.cell? ⟨b, off + k * 4 + j, none⟩ = some v := fun j v hj hv => by
    rw [Nat.add_assoc]
    exact hc _ _ ((cellsCrossing_get hp hj).trans hv)
  exact ⟨b, off, ps[k], e, h1, h2, hp, g 0 _ (by omega) rfl, g 1 _ (by omega) rfl, g 2 _ (by omega) rfl, g 3 _ (by omega) rfl⟩

theorem setCrossing {Y R : List Value} {z0 z1 z2 z3 a0 a1 a2 a3 : Value} {m : Nat} (h : Y.length = m) :
    (((((Y ++ z0 :: z1 :: z2 :: z3 :: R).set (m) (a0)).set (m + 1) (a1)).set (m + 2) (a2)).set (m + 3) (a3)) = (Y ++ [a0, a1, a2, a3]) ++ R := by
  subst h
  simp [List.set_append]
theorem cellsCrossing_snoc {ps : List GCrossing} {k : Nat} {p : GCrossing} (hp : ps[k]? = some p) : cellsCrossing (ps.take (k + 1)) = cellsCrossing (ps.take k) ++ p.cells := by
  rw [List.take_add_one, hp]
  simp [cellsCrossing]
theorem set_Crossing {ps : List GCrossing} {zs : List Value} {k n : Nat} {p : GCrossing} (hp : ps[k]? = some p) (hz : zs.length = (n - k) * 4) (hk : k < n) :
    ∃ zs' : List Value, (((((cellsCrossing (ps.take k) ++ zs).set (k * 4) (.int .i64 p.ln)).set (k * 4 + 1) (.int .i64 p.cr)).set (k * 4 + 2) (.int .i64 p.mn)).set (k * 4 + 3) (.int .i64 p.ck)) = cellsCrossing (ps.take (k + 1)) ++ zs' ∧ zs'.length = (n - (k + 1)) * 4 := by
  have hkx : k < ps.length := (List.getElem?_eq_some_iff.1 hp).1
  have hX : (cellsCrossing (ps.take k)).length = k * 4 := by rw [cellsCrossing_length, List.length_take, Nat.min_eq_left (by omega)]
  obtain ⟨j, hj⟩ : ∃ j, n - k = j + 1 := ⟨n - k - 1, by omega⟩
  rw [hj] at hz
  match zs, hz with
  | z0 :: z1 :: z2 :: z3 :: R, hz =>
    refine ⟨R, ?_, by simp at hz; rw [show n - (k + 1) = j by omega]; omega⟩
    rw [setCrossing hX, cellsCrossing_snoc hp]
    rfl
  | [], hz | [_], hz | [_, _], hz | [_, _, _], hz => exact absurd hz (by simp only [List.length_cons, List.length_nil]; omega)

/-- A list of the call's own comes back. -/
def RetCrossingS (ps : List GCrossing) (w : World) (e : Ending) (w' : World) : Prop :=
  ∃ A c, e = .returned (.slice A ps.length c) ∧ Own w' 35 w.heap.size w'.heap.size 4 A ps.length c (cellsCrossing ps) ∧ Below w.heap.size w w'
def RetCrossingSB (ps : List GCrossing) (b : Bool) (w : World) (e : Ending) (w' : World) : Prop :=
  ∃ A c, e = .returned (.tuple #[.slice A ps.length c, .bool b]) ∧ Own w' 35 w.heap.size w'.heap.size 4 A ps.length c (cellsCrossing ps) ∧ Below w.heap.size w w'
theorem info_Crossing : (Try.prog.info? 35).map (fun i => (i.zero, i.size, i.bytes)) = some (some (.agg #[.int .i64 0, .int .i64 0, .int .i64 0, .int .i64 0]), 4, 32) := by kernel_rfl

theorem marksCrossing (k : Int) (j : Nat) : ints (marks k ((j + 1) * 4)) = ints (marks k (j * 4)) ++ [.int .i64 (k + (j : Int) * 4), .int .i64 (k + (j : Int) * 4 + 1), .int .i64 (k + (j : Int) * 4 + 1 + 1), .int .i64 (k + (j : Int) * 4 + 1 + 1 + 1)] := by
  rw [show (j + 1) * 4 = j * 4 + 1 + 1 + 1 + 1 by omega]
  simp only [marks, ints, List.map_append, List.append_assoc, List.map_cons, List.map_nil, List.cons_append, List.nil_append, List.append_cancel_left_eq, List.cons.injEq, Value.int.injEq, true_and, and_true]
  omega
theorem mark_Crossing {zs : List Value} {k : Int} {j n : Nat} (hz : zs.length = (n - j) * 4) (hj : j < n) :
    ∃ zs' : List Value, (((((ints (marks k (j * 4)) ++ zs).set (j * 4) (.int .i64 (k + (j : Int) * 4))).set (j * 4 + 1) (.int .i64 (k + (j : Int) * 4 + 1))).set (j * 4 + 2) (.int .i64 (k + (j : Int) * 4 + 1 + 1))).set (j * 4 + 3) (.int .i64 (k + (j : Int) * 4 + 1 + 1 + 1))) = ints (marks k ((j + 1) * 4)) ++ zs' ∧ zs'.length = (n - (j + 1)) * 4 := by
  have hX : (ints (marks k (j * 4))).length = j * 4 := by simp [ints, marks_length]
  obtain ⟨i, hi⟩ : ∃ i, n - j = i + 1 := ⟨n - j - 1, by omega⟩
  rw [hi] at hz
  match zs, hz with
  | z0 :: z1 :: z2 :: z3 :: R, hz =>
    refine ⟨R, ?_, by simp at hz; rw [show n - (j + 1) = i by omega]; omega⟩
    rw [setCrossing hX, marksCrossing]
  | [], hz | [_], hz | [_, _], hz | [_, _, _], hz => exact absurd hz (by simp only [List.length_cons, List.length_nil]; omega)

end Go.Proofs.Ytgdgbejhnenliaa
