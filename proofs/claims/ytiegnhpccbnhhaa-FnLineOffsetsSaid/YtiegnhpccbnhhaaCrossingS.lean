/-
  This file proves words and contracts on slices of Crossing: reading, the copy between the two packages' structs, equality, the bound on the length, the marks.
  Conditions: each contract's own hypotheses (that a slice reads as a list, that it is not too long).
-/
import Derived.Test.YtiegnhpccbnhhaaBw
import Derived.Handy
namespace Go.Proofs.Ytiegnhpccbnhhaa
open Go.RowKit
set_option linter.unusedSimpArgs false
set_option linter.unusedVariables false

structure GCrossing where
  ln : Int
  cr : Int
  mn : Int
  ck : Int
def GCrossing.cells (p : GCrossing) : List Value := [.int .i64 p.ln, .int .i64 p.cr, .int .i64 p.mn, .int .i64 p.ck]
abbrev GCrossing.val (p : GCrossing) : Value := .agg #[.int .i64 p.ln, .int .i64 p.cr, .int .i64 p.mn, .int .i64 p.ck]
theorem Crossing_cells (p : GCrossing) (w : World) (t : TypeId) : (w.alloc (.cells #[.int .i64 p.ln, .int .i64 p.cr, .int .i64 p.mn, .int .i64 p.ck] t)).cell? ⟨w.heap.size, 0, none⟩ = some (.int .i64 p.ln) ∧ (w.alloc (.cells #[.int .i64 p.ln, .int .i64 p.cr, .int .i64 p.mn, .int .i64 p.ck] t)).cell? ⟨w.heap.size, 1, none⟩ = some (.int .i64 p.cr) ∧ (w.alloc (.cells #[.int .i64 p.ln, .int .i64 p.cr, .int .i64 p.mn, .int .i64 p.ck] t)).cell? ⟨w.heap.size, 2, none⟩ = some (.int .i64 p.mn) ∧ (w.alloc (.cells #[.int .i64 p.ln, .int .i64 p.cr, .int .i64 p.mn, .int .i64 p.ck] t)).cell? ⟨w.heap.size, 3, none⟩ = some (.int .i64 p.ck) := by
  have h := heap_alloc_new w (.cells #[.int .i64 p.ln, .int .i64 p.cr, .int .i64 p.mn, .int .i64 p.ck] t)
  refine ⟨?_, ?_, ?_, ?_⟩ <;> rw [cell_of_row _ _ _ _ _ (0, 0) h] <;> rfl

def cellsCrossing (ps : List GCrossing) : List Value := ps.flatMap GCrossing.cells
theorem cellsCrossing_length (ps : List GCrossing) : (cellsCrossing ps).length = ps.length * 4 := by
  unfold cellsCrossing
  induction ps with
  | nil => rfl
  | cons p ps ih => rw [List.flatMap_cons, List.length_append, ih, List.length_cons]; simp [GCrossing.cells]; omega
theorem cellsCrossing_get {ps : List GCrossing} {k j : Nat} {p : GCrossing} (hp : ps[k]? = some p) (hj : j < 4) : (cellsCrossing ps)[k * 4 + j]? = p.cells[j]? := by
  unfold cellsCrossing
  induction ps generalizing k with
  | nil => simp at hp
  | cons q ps ih =>
    have hq : q.cells.length = 4 := rfl
    rw [List.flatMap_cons]
    match k, hp with
    | 0, hp =>
      simp at hp
      subst hp
      rw [List.getElem?_append_left (by rw [hq]; omega)]
      congr 1
      omega
    | k + 1, hp =>
      simp at hp
      rw [List.getElem?_append_right (by rw [hq]; omega), hq, show (k + 1) * 4 + j - 4 = k * 4 + j by omega]
      exact ih hp
abbrev RdC (w : World) (lo hi : Nat) (A : Option Addr) (ps : List GCrossing) : Prop := Rd w lo hi 4 A ps.length (cellsCrossing ps)
theorem Rd.getCrossing {w : World} {lo hi k : Nat} {A : Option Addr} {ps : List GCrossing} (h : RdC w lo hi A ps) (hk : k < ps.length) :
    ∃ b off p, A = some ⟨b, off, none⟩ ∧ lo ≤ b ∧ b < hi ∧ ps[k]? = some p ∧ w.cell? ⟨b, off + k * 4, none⟩ = some (.int .i64 p.ln) ∧ w.cell? ⟨b, off + k * 4 + 1, none⟩ = some (.int .i64 p.cr) ∧ w.cell? ⟨b, off + k * 4 + 2, none⟩ = some (.int .i64 p.mn) ∧ w.cell? ⟨b, off + k * 4 + 3, none⟩ = some (.int .i64 p.ck) := by
  obtain ⟨b, off, e, h1, h2, hc⟩ := h.2 (by omega)
  have hp : ps[k]? = some ps[k] := List.getElem?_eq_getElem hk
  have g : ∀ j v, j < 4 → ps[k].cells[j]? = some v → w.cell? ⟨b, off + k * 4 + j, none⟩ = some v := fun j v hj hv => by
    rw [Nat.add_assoc]
    exact hc _ _ ((cellsCrossing_get hp hj).trans hv)
  exact ⟨b, off, ps[k], e, h1, h2, hp, g 0 _ (by omega) rfl, g 1 _ (by omega) rfl, g 2 _ (by omega) rfl, g 3 _ (by omega) rfl⟩

theorem setCrossing {Y R : List Value} {z0 z1 z2 z3 a0 a1 a2 a3 : Value} {m : Nat} (h : Y.length = m) :
    (((((Y ++ z0 :: z1 :: z2 :: z3 :: R).set (m) (a0)).set (m + 1) (a1)).set (m + 2) (a2)).set (m + 3) (a3)) = (Y ++ [a0, a1, a2, a3]) ++ R := by
  subst h
  simp [List.set_append]
theorem cellsCrossing_snoc {ps : List GCrossing} {k : Nat} {p : GCrossing} (hp : ps[k]? = some p) : cellsCrossing (ps.take (k + 1)) = cellsCrossing (ps.take k) ++ p.cells := by
  rw [List.take_add_one, hp]
  simp [cellsCrossing]
theorem set_Crossing {ps : List GCrossing} {zs : List Value} {k n : Nat} {p : GCrossing} (hp : ps[k]? = some p) (hz : zs.length = (n - k) * 4) (hk : k < n) :
    ∃ zs' : List Value, (((((cellsCrossing (ps.take k) ++ zs).set (k * 4) (.int .i64 p.ln)).set (k * 4 + 1) (.int .i64 p.cr)).set (k * 4 + 2) (.int .i64 p.mn)).set (k * 4 + 3) (.int .i64 p.ck)) = cellsCrossing (ps.take (k + 1)) ++ zs' ∧ zs'.length = (n - (k + 1)) * 4 := by
  have hkx : k < ps.length := (List.getElem?_eq_some_iff.1 hp).1
  have hX : (cellsCrossing (ps.take k)).length = k * 4 := by rw [cellsCrossing_length, List.length_take, Nat.min_eq_left (by omega)]
  obtain ⟨j, hj⟩ : ∃ j, n - k = j + 1 := ⟨n - k - 1, by omega⟩
  rw [hj] at hz
  match zs, hz with
  | z0 :: z1 :: z2 :: z3 :: R, hz =>
    refine ⟨R, ?_, by simp at hz; rw [show n - (k + 1) = j by omega]; omega⟩
    rw [setCrossing hX, cellsCrossing_snoc hp]
    rfl
  | [], hz | [_], hz | [_, _], hz | [_, _, _], hz => exact absurd hz (by simp only [List.length_cons, List.length_nil]; omega)

/-- A list of the call's own comes back. -/
def RetCrossingS (ps : List GCrossing) (w : World) (e : Ending) (w' : World) : Prop :=
  ∃ A c, e = .returned (.slice A ps.length c) ∧ Own w' 59 w.heap.size w'.heap.size 4 A ps.length c (cellsCrossing ps) ∧ Below w.heap.size w w'
def RetCrossingSB (ps : List GCrossing) (b : Bool) (w : World) (e : Ending) (w' : World) : Prop :=
  ∃ A c, e = .returned (.tuple #[.slice A ps.length c, .bool b]) ∧ Own w' 59 w.heap.size w'.heap.size 4 A ps.length c (cellsCrossing ps) ∧ Below w.heap.size w w'
theorem info_Crossing : (Try.prog.info? 59).map (fun i => (i.zero, i.size, i.bytes)) = some (some (.agg #[.int .i64 0, .int .i64 0, .int .i64 0, .int .i64 0]), 4, 32) := by kernel_rfl

set_option maxHeartbeats 1000000 in
theorem toCrossing_any (p : GCrossing) (w : World) : Calls Try.prog 55 #[.agg #[.int .i64 p.ln, .int .i64 p.cr, .int .i64 p.mn, .int .i64 p.ck]] w fun e w' => e = .returned (.agg #[.int .i64 p.ln, .int .i64 p.cr, .int .i64 p.mn, .int .i64 p.ck]) ∧ Below w.heap.size w w' := by
  go_enter Try.func55, Try.ntmps55
  go_wp2_with fail
  go_returns
  exact ⟨rfl, by go_grown⟩

set_option maxHeartbeats 2000000 in
set_option maxRecDepth 100000 in
theorem toCrossingS_any (A : Option Addr) (c lo hi : Nat) (ps : List GCrossing) (w : World) (hr : RdC w lo hi A ps) (hh : hi ≤ w.heap.size) (hl : ps.length ≤ 2097152) :
    Calls Try.prog 14 #[.slice A ps.length c] w (RetCrossingS ps w) := by
  obtain ⟨i0, hi0, hz0, hz1, hz2⟩ := info_parts info_Crossing
  obtain ⟨N, hN⟩ : ∃ N, N = w.heap.size := ⟨_, rfl⟩
  have HN := Lib.hid hN
  clear hN
  go_enter Try.func14, Try.ntmps14
  go_wp2_with (at_make; refine wpList_make_full _ rfl _ _ 26 rfl w.heap.size 59 i0 (.agg #[.int .i64 0, .int .i64 0, .int .i64 0, .int .i64 0]) 4 Try.underlying26 hi0 hz0 hz1 _ _ _ _ ps.length rfl rfl rfl rfl ?b2 ?b3 (Nat.le_refl _) ?_)
  case b2 => rw [hz2]; omega
  case b3 => unfold maxLen; omega
  intro w1 hown1 hg1
  have hb1 : Below w.heap.size w w1 := (Below.refl _ _).grown hg1 (Nat.le_refl _) (fun k h => by cases h)
  rw [← HN.out] at hown1 hb1 ⊢
  have hlt1 : N < w1.heap.size := (hown1.lt N rfl).2
  clear hg1
  generalize (madeCells _ _).toList = zs0 at hown1
  have hzl := hown1.1
  go_wp2_with fail
  go_loopw [4] (fun i wr => ∃ (k : Nat) (zs : List Value), k ≤ ps.length ∧ i = .int .i64 k ∧ zs.length = (ps.length - k) * 4 ∧ wr.ownsRow N 59 4 (.slice (some ⟨N, 0, none⟩) ps.length ps.length) ps.length (cellsCrossing (ps.take k) ++ zs) ∧ Below N w wr ∧ N < wr.heap.size) (fun i _ => ps.length - (intOf i).toNat)
  case atStart => exact ⟨0, zs0, Nat.zero_le _, rfl, by simpa using hzl, by simpa [cellsCrossing] using hown1, hb1, hlt1⟩
  case round =>
    obtain ⟨k, zs, hk, rfl, hz, hown, hb, hlt'⟩ := hrel
    have HZ := Lib.hid hz
    clear hz
    by_cases hlt : k < ps.length
    · obtain ⟨b, off, p, rfl, _, _, hp, c0, c1, c2, c3⟩ := (hr.below hb (by have := HN.out; omega)).getCrossing hlt
      have HP := Lib.hid hp
      clear hp
      go_wp2_with fail
      refine (toCrossing_any p _).mono ?_
      rintro e w2 ⟨rfl, B2⟩
      have hs2 := B2.size
      have hb2 := hb.trans (B2.mono (Nat.le_of_lt hlt'))
      have hown2 : w2.ownsRow N 59 4 (.slice (some ⟨N, 0, none⟩) ps.length ps.length) ps.length (cellsCrossing (ps.take k) ++ zs) := (show Own wr _ N (N + 1) 4 _ _ _ _ from ⟨hown, fun a ha => by cases ha; exact Nat.lt_succ_self _⟩).below B2 (by omega) |>.1
      obtain ⟨u0, hu0⟩ : ∃ u, w2.cell? ⟨N, k * 4, none⟩ = some u := by
        have h1 := hown2.cellAt (k * 4) (by omega)
        have h2 : k * 4 < (cellsCrossing (ps.take k) ++ zs).length := by rw [hown2.1]; omega
        exact ⟨_, h1.trans (List.getElem?_eq_getElem h2)⟩
      have hf0 : w2.frozen? ⟨N, k * 4, none⟩ = false := hown2.frozenAt _
      obtain ⟨u1, hu1⟩ : ∃ u, w2.cell? ⟨N, k * 4 + 1, none⟩ = some u := by
        have h1 := hown2.cellAt (k * 4 + 1) (by omega)
        have h2 : k * 4 + 1 < (cellsCrossing (ps.take k) ++ zs).length := by rw [hown2.1]; omega
        exact ⟨_, h1.trans (List.getElem?_eq_getElem h2)⟩
      have hf1 : w2.frozen? ⟨N, k * 4 + 1, none⟩ = false := hown2.frozenAt _
      obtain ⟨u2, hu2⟩ : ∃ u, w2.cell? ⟨N, k * 4 + 2, none⟩ = some u := by
        have h1 := hown2.cellAt (k * 4 + 2) (by omega)
        have h2 : k * 4 + 2 < (cellsCrossing (ps.take k) ++ zs).length := by rw [hown2.1]; omega
        exact ⟨_, h1.trans (List.getElem?_eq_getElem h2)⟩
      have hf2 : w2.frozen? ⟨N, k * 4 + 2, none⟩ = false := hown2.frozenAt _
      obtain ⟨u3, hu3⟩ : ∃ u, w2.cell? ⟨N, k * 4 + 3, none⟩ = some u := by
        have h1 := hown2.cellAt (k * 4 + 3) (by omega)
        have h2 : k * 4 + 3 < (cellsCrossing (ps.take k) ++ zs).length := by rw [hown2.1]; omega
        exact ⟨_, h1.trans (List.getElem?_eq_getElem h2)⟩
      have hf3 : w2.frozen? ⟨N, k * 4 + 3, none⟩ = false := hown2.frozenAt _
      obtain ⟨zs', hs, hz'⟩ := set_Crossing HP.out HZ.out hlt
      have hown' := ((((hown2.stored (k * 4) (.int .i64 p.ln)).1.stored (k * 4 + 1) (.int .i64 p.cr)).1.stored (k * 4 + 2) (.int .i64 p.mn)).1.stored (k * 4 + 3) (.int .i64 p.ck)).1
      rw [hs] at hown'
      have HS := Lib.hid hs
      have HZ' := Lib.hid hz'
      clear hs hz' hown
      go_wp2_with fail
      go_roundw
      case rel => exact ⟨k + 1, zs', by omega, by go_num, HZ'.out, hown', ((((hb2.setCell (Nat.le_refl _) _).setCell (Nat.le_refl _) _).setCell (Nat.le_refl _) _).setCell (Nat.le_refl _) _), by simp [World.setCell]; omega⟩
      case measure => simp [intOf]; omega
    · go_wp2_with fail
      go_ret
      have e : cellsCrossing (ps.take k) ++ zs = cellsCrossing ps := by
        have hz0 : zs = [] := List.eq_nil_of_length_eq_zero (by rw [HZ.out]; omega)
        rw [List.take_of_length_le (by omega), hz0, List.append_nil]
      rw [e] at hown
      have hN' := HN.out
      exact ⟨some ⟨N, 0, none⟩, ps.length, rfl, ⟨by rw [← hN']; exact hown, fun a ha => by cases ha; exact hlt'⟩, by rw [← hN']; exact hb⟩

set_option maxHeartbeats 2000000 in
set_option maxRecDepth 100000 in
theorem eqCrossing_same (p : GCrossing) (w : World) : Calls Try.prog 58 #[.agg #[.int .i64 p.ln, .int .i64 p.cr, .int .i64 p.mn, .int .i64 p.ck], .agg #[.int .i64 p.ln, .int .i64 p.cr, .int .i64 p.mn, .int .i64 p.ck]] w (RetB true w) := by
  obtain ⟨ln, cr, mn, ck⟩ := p
  simp only
  go_enter Try.func58, Try.ntmps58
  go_wp2_with fail
  go_returns
  exact ⟨rfl, by go_grown⟩

set_option maxHeartbeats 2000000 in
set_option maxRecDepth 100000 in
theorem eqCrossingS_same (A B : Option Addr) (c d lo hi lo' hi' : Nat) (ps : List GCrossing) (w : World) (ha : RdC w lo hi A ps) (hb0 : RdC w lo' hi' B ps) (hl : ps.length ≤ 2097152) (hh : hi ≤ w.heap.size) (hh' : hi' ≤ w.heap.size) :
    Calls Try.prog 16 #[.slice A ps.length c, .slice B ps.length d] w (RetB true w) := by
  go_enter Try.func16, Try.ntmps16
  go_wp2_with fail
  go_loopw [5] (fun i wr => ∃ k : Nat, k ≤ ps.length ∧ i = .int .i64 k ∧ Below w.heap.size w wr) (fun i _ => ps.length - (intOf i).toNat)
  case atStart => exact ⟨0, Nat.zero_le _, rfl, Below.refl _ _⟩
  case round =>
    obtain ⟨k, hk, rfl, hb⟩ := hrel
    by_cases hlt : k < ps.length
    · obtain ⟨b, off, p, rfl, _, hbl, hp, c0, c1, c2, c3⟩ := (ha.below hb hh).getCrossing hlt
      obtain ⟨b', off', p', rfl, _, hbl', hp', e0, e1, e2, e3⟩ := (hb0.below hb hh').getCrossing hlt
      obtain rfl : p = p' := by rw [hp] at hp'; injection hp'
      clear hp hp'
      have q1 : (k : Int) < (ps.length : Int) := by omega
      obtain ⟨N, hNN⟩ : ∃ N, N = wr.heap.size := ⟨_, rfl⟩
      have hN : N ≤ wr.heap.size := by omega
      have hNw : w.heap.size ≤ N := by rw [hNN]; exact hb.size
      have D0 : ∀ s : Bw N wr, s.v.cell? ⟨b, off + k * 4, none⟩ = some (.int .i64 p.ln) := fun s => s.cell (show b < N from by have := hb.size; omega) c0
      have E0 : ∀ s : Bw N wr, s.v.cell? ⟨b', off' + k * 4, none⟩ = some (.int .i64 p.ln) := fun s => s.cell (show b' < N from by have := hb.size; omega) e0
      have D1 : ∀ s : Bw N wr, s.v.cell? ⟨b, off + k * 4 + 1, none⟩ = some (.int .i64 p.cr) := fun s => s.cell (show b < N from by have := hb.size; omega) c1
      have E1 : ∀ s : Bw N wr, s.v.cell? ⟨b', off' + k * 4 + 1, none⟩ = some (.int .i64 p.cr) := fun s => s.cell (show b' < N from by have := hb.size; omega) e1
      have D2 : ∀ s : Bw N wr, s.v.cell? ⟨b, off + k * 4 + 2, none⟩ = some (.int .i64 p.mn) := fun s => s.cell (show b < N from by have := hb.size; omega) c2
      have E2 : ∀ s : Bw N wr, s.v.cell? ⟨b', off' + k * 4 + 2, none⟩ = some (.int .i64 p.mn) := fun s => s.cell (show b' < N from by have := hb.size; omega) e2
      have D3 : ∀ s : Bw N wr, s.v.cell? ⟨b, off + k * 4 + 3, none⟩ = some (.int .i64 p.ck) := fun s => s.cell (show b < N from by have := hb.size; omega) c3
      have E3 : ∀ s : Bw N wr, s.v.cell? ⟨b', off' + k * 4 + 3, none⟩ = some (.int .i64 p.ck) := fun s => s.cell (show b' < N from by have := hb.size; omega) e3
      clear c0 c1 c2 c3 e0 e1 e2 e3
      go_wp2_with fail
      refine wp_region_bw (Below.refl N _) (by kernel_rfl) (by kernel_rfl) ?_
      repeat (go_big_quiet_step ((go_at_call 58; exact bw_left hN (eqCrossing_same _ _))))
      refine wpQuiet_nil ?_
      rintro _ ⟨⟨wz, hwz⟩, rfl⟩
      have hbz := hb.trans (hwz.mono hNw)
      go_wp2_with fail
      go_roundw
      case rel => exact ⟨k + 1, by omega, by go_num, hbz⟩
      case measure => simp [intOf]; omega
    · go_wp2_with fail
      go_ret
      exact ⟨rfl, hb⟩

theorem szCrossingS_big {A : Option Addr} {c : Nat} {w : World} (ps : List GCrossing) (h : 1048576 < ps.length) (hl : ps.length ≤ 9223372036854775807) :
    Calls Try.prog 12 #[.slice A ps.length c, .int .i64 1048576] w fun e w' => e = .returned (.int .i64 (-1)) ∧ w = w' := by
  have q : IntKind.i64.wrap (1048576 - (ps.length : Int)) = 1048576 - (ps.length : Int) := IntWalk.i64_in _ ⟨by omega, by omega⟩
  have q2 : (1048576 - (ps.length : Int)) < 0 := by omega
  go_enter Try.func12, Try.ntmps12
  go_wp2_with fail
  go_ret
  exact ⟨rfl, rfl⟩

theorem szCrossingS_small {A : Option Addr} {c : Nat} {w : World} (ps : List GCrossing) (h : ps.length ≤ 1048576) :
    Calls Try.prog 12 #[.slice A ps.length c, .int .i64 1048576] w fun e w' => e = .returned (.int .i64 (1048576 - (ps.length : Int))) ∧ w = w' := by
  have q : IntKind.i64.wrap (1048576 - (ps.length : Int)) = 1048576 - (ps.length : Int) := IntWalk.i64_in _ ⟨by omega, by omega⟩
  have q2 : ¬ ((1048576 - (ps.length : Int)) < 0) := by omega
  go_enter Try.func12, Try.ntmps12
  go_wp2_with fail
  go_ret
  exact ⟨rfl, rfl⟩

theorem marksCrossing (k : Int) (j : Nat) : ints (marks k ((j + 1) * 4)) = ints (marks k (j * 4)) ++ [.int .i64 (k + (j : Int) * 4), .int .i64 (k + (j : Int) * 4 + 1), .int .i64 (k + (j : Int) * 4 + 1 + 1), .int .i64 (k + (j : Int) * 4 + 1 + 1 + 1)] := by
  rw [show (j + 1) * 4 = j * 4 + 1 + 1 + 1 + 1 by omega]
  simp only [marks, ints, List.map_append, List.append_assoc, List.map_cons, List.map_nil, List.cons_append, List.nil_append, List.append_cancel_left_eq, List.cons.injEq, Value.int.injEq, true_and, and_true]
  omega
theorem mark_Crossing {zs : List Value} {k : Int} {j n : Nat} (hz : zs.length = (n - j) * 4) (hj : j < n) :
    ∃ zs' : List Value, (((((ints (marks k (j * 4)) ++ zs).set (j * 4) (.int .i64 (k + (j : Int) * 4))).set (j * 4 + 1) (.int .i64 (k + (j : Int) * 4 + 1))).set (j * 4 + 2) (.int .i64 (k + (j : Int) * 4 + 1 + 1))).set (j * 4 + 3) (.int .i64 (k + (j : Int) * 4 + 1 + 1 + 1))) = ints (marks k ((j + 1) * 4)) ++ zs' ∧ zs'.length = (n - (j + 1)) * 4 := by
  have hX : (ints (marks k (j * 4))).length = j * 4 := by simp [ints, marks_length]
  obtain ⟨i, hi⟩ : ∃ i, n - j = i + 1 := ⟨n - j - 1, by omega⟩
  rw [hi] at hz
  match zs, hz with
  | z0 :: z1 :: z2 :: z3 :: R, hz =>
    refine ⟨R, ?_, by simp at hz; rw [show n - (j + 1) = i by omega]; omega⟩
    rw [setCrossing hX, marksCrossing]
  | [], hz | [_], hz | [_, _], hz | [_, _, _], hz => exact absurd hz (by simp only [List.length_cons, List.length_nil]; omega)

set_option maxHeartbeats 2000000 in
set_option maxRecDepth 100000 in
theorem markCrossingS_any (A : Option Addr) (c lo hi : Nat) (ps : List GCrossing) (k : Int) (w : World) (ho : Own w 59 lo hi 4 A ps.length c (cellsCrossing ps)) (h0 : 0 ≤ k) (h1 : k ≤ 1000000000000) (hl : ps.length ≤ 1099511627776) :
    Calls Try.prog 25 #[.slice A ps.length c, .int .i64 k] w fun e w' => e = .returned (.int .i64 (k + (ps.length : Int) * 4)) ∧ Own w' 59 lo hi 4 A ps.length c (ints (marks k (ps.length * 4))) ∧ Only lo hi w w' ∧ w'.heap.size ≤ w.heap.size := by
  go_enter Try.func25, Try.ntmps25
  go_wp2_with fail
  go_loopw [1, 5] (fun t i wr => ∃ (j : Nat) (zs : List Value), j ≤ ps.length ∧ i = .int .i64 j ∧ t = .int .i64 (k + (j : Int) * 4) ∧ zs.length = (ps.length - j) * 4 ∧ Own wr 59 lo hi 4 A ps.length c (ints (marks k (j * 4)) ++ zs) ∧ Only lo hi w wr ∧ wr.heap.size = w.heap.size) (fun _ i _ => ps.length - (intOf i).toNat)
  case atStart => exact ⟨0, cellsCrossing ps, Nat.zero_le _, rfl, by simp, by rw [cellsCrossing_length]; rfl, by simpa [marks] using ho, Only.refl _ _ _, rfl⟩
  case round =>
    obtain ⟨j, zs, hj, rfl, rfl, hz, hown, honly, hsz⟩ := hrel
    have HZ := Lib.hid hsz
    have HL := Lib.hid hz
    clear hsz hz
    by_cases hlt : j < ps.length
    · obtain ⟨g, rfl, hg1, hg2⟩ := hown.length_pos (by omega)
      obtain ⟨u0, hu0⟩ : ∃ u, wr.cell? ⟨g, j * 4, none⟩ = some u := by
        have e1 := hown.1.cellAt (j * 4) (by omega)
        have e2 : j * 4 < (ints (marks k (j * 4)) ++ zs).length := by rw [hown.length]; omega
        exact ⟨_, e1.trans (List.getElem?_eq_getElem e2)⟩
      have hf0 : wr.frozen? ⟨g, j * 4, none⟩ = false := hown.frozen _
      obtain ⟨u1, hu1⟩ : ∃ u, wr.cell? ⟨g, j * 4 + 1, none⟩ = some u := by
        have e1 := hown.1.cellAt (j * 4 + 1) (by omega)
        have e2 : j * 4 + 1 < (ints (marks k (j * 4)) ++ zs).length := by rw [hown.length]; omega
        exact ⟨_, e1.trans (List.getElem?_eq_getElem e2)⟩
      have hf1 : wr.frozen? ⟨g, j * 4 + 1, none⟩ = false := hown.frozen _
      obtain ⟨u2, hu2⟩ : ∃ u, wr.cell? ⟨g, j * 4 + 2, none⟩ = some u := by
        have e1 := hown.1.cellAt (j * 4 + 2) (by omega)
        have e2 : j * 4 + 2 < (ints (marks k (j * 4)) ++ zs).length := by rw [hown.length]; omega
        exact ⟨_, e1.trans (List.getElem?_eq_getElem e2)⟩
      have hf2 : wr.frozen? ⟨g, j * 4 + 2, none⟩ = false := hown.frozen _
      obtain ⟨u3, hu3⟩ : ∃ u, wr.cell? ⟨g, j * 4 + 3, none⟩ = some u := by
        have e1 := hown.1.cellAt (j * 4 + 3) (by omega)
        have e2 : j * 4 + 3 < (ints (marks k (j * 4)) ++ zs).length := by rw [hown.length]; omega
        exact ⟨_, e1.trans (List.getElem?_eq_getElem e2)⟩
      have hf3 : wr.frozen? ⟨g, j * 4 + 3, none⟩ = false := hown.frozen _
      have w1 : IntKind.i64.wrap (k + (j : Int) * 4 + 1) = k + (j : Int) * 4 + 1 := wr64 (by omega) (by omega)
      have w2 : IntKind.i64.wrap (k + (j : Int) * 4 + 1 + 1) = k + (j : Int) * 4 + 1 + 1 := wr64 (by omega) (by omega)
      have w3 : IntKind.i64.wrap (k + (j : Int) * 4 + 1 + 1 + 1) = k + (j : Int) * 4 + 1 + 1 + 1 := wr64 (by omega) (by omega)
      have w4 : IntKind.i64.wrap (k + (j : Int) * 4 + 1 + 1 + 1 + 1) = k + (j : Int) * 4 + 1 + 1 + 1 + 1 := wr64 (by omega) (by omega)
      obtain ⟨zs', hs, hz'⟩ := mark_Crossing (k := k) HL.out hlt
      have hown' := ((((hown.store (j * 4) (.int .i64 (k + (j : Int) * 4))).store (j * 4 + 1) (.int .i64 (k + (j : Int) * 4 + 1))).store (j * 4 + 2) (.int .i64 (k + (j : Int) * 4 + 1 + 1))).store (j * 4 + 3) (.int .i64 (k + (j : Int) * 4 + 1 + 1 + 1)))
      rw [hs] at hown'
      have HZ' := Lib.hid hz'
      clear hs hz' hown
      go_wp2_with fail
      go_roundw
      case rel => exact ⟨j + 1, zs', by omega, by go_num, by congr 1; omega, HZ'.out, hown', ((((honly.setCell hg1 hg2 _).setCell hg1 hg2 _).setCell hg1 hg2 _).setCell hg1 hg2 _), by simpa [World.setCell] using HZ.out⟩
      case measure => simp [intOf]; omega
    · obtain rfl : j = ps.length := by omega
      go_wp2_with fail
      go_ret
      have hz0 : zs = [] := List.eq_nil_of_length_eq_zero (by rw [HL.out]; omega)
      rw [hz0, List.append_nil] at hown
      exact ⟨rfl, hown, honly, Nat.le_of_eq HZ.out⟩

end Go.Proofs.Ytiegnhpccbnhhaa
