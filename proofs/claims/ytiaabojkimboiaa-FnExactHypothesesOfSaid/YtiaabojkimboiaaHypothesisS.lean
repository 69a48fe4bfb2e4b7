/-
  This file proves words and contracts on slices of Hypothesis: reading, the copy between the two packages' structs, equality, the bound on the length, the marks.
  Conditions: each contract's own hypotheses (that a slice reads as a list, that it is not too long).
-/
import Derived.Test.YtiaabojkimboiaaBw
import Derived.Handy
namespace Go.Proofs.Ytiaabojkimboiaa
open Go.RowKit
set_option linter.unusedSimpArgs false
set_option linter.unusedVariables false

structure GHypothesis where
  lw : Int
  hg : Int
  vt : Int
def GHypothesis.cells (p : GHypothesis) : List Value := [.int .i64 p.lw, .int .i64 p.hg, .int .i64 p.vt]
abbrev GHypothesis.val (p : GHypothesis) : Value := .agg #[.int .i64 p.lw, .int .i64 p.hg, .int .i64 p.vt]
theorem Hypothesis_cells (p : GHypothesis) (w : World) (t : TypeId) : (w.alloc (.cells #[.int .i64 p.lw, .int .i64 p.hg, .int .i64 p.vt] t)).cell? ⟨w.heap.size, 0, none⟩ = some (.int .i64 p.lw) ∧ (w.alloc (.cells #[.int .i64 p.lw, .int .i64 p.hg, .int .i64 p.vt] t)).cell? ⟨w.heap.size, 1, none⟩ = some (.int .i64 p.hg) ∧ (w.alloc (.cells #[.int .i64 p.lw, .int .i64 p.hg, .int .i64 p.vt] t)).cell? ⟨w.heap.size, 2, none⟩ = some (.int .i64 p.vt) := by
  have h := heap_alloc_new w (.cells #[.int .i64 p.lw, .int .i64 p.hg, .int .i64 p.vt] t)
  refine ⟨?_, ?_, ?_⟩ <;> rw [cell_of_row _ _ _ _ _ (0, 0) h] <;> rfl

def cellsHypothesis (ps : List GHypothesis) : List Value := ps.flatMap GHypothesis.cells
theorem cellsHypothesis_length (ps : List GHypothesis) : (cellsHypothesis ps).length = ps.length * 3 := by
  unfold cellsHypothesis
  induction ps with
  | nil => rfl
  | cons p ps ih => rw [List.flatMap_cons, List.length_append, ih, List.length_cons]; simp [GHypothesis.cells]; omega
theorem cellsHypothesis_get {ps : List GHypothesis} {k j : Nat} {p : GHypothesis} (hp : ps[k]? = some p) (hj : j < 3) : (cellsHypothesis ps)[k * 3 + j]? = p.cells[j]? := by
  unfold cellsHypothesis
  induction ps generalizing k with
  | nil => simp at hp
  | cons q ps ih =>
    have hq : q.cells.length = 3 := rfl
    rw [List.flatMap_cons]
    match k, hp with
    | 0, hp =>
      simp at hp
      subst hp
      rw [List.getElem?_append_left (by rw [hq]; omega)]
      congr 1
      omega
    | k + 1, hp =>
      simp at hp
      rw [List.getElem?_append_right (by rw [hq]; omega), hq, show (k + 1) * 3 + j - 3 = k * 3 + j by omega]
      exact ih hp
abbrev RdH (w : World) (lo hi : Nat) (A : Option Addr) (ps : List GHypothesis) : Prop := Rd w lo hi 3 A ps.length (cellsHypothesis ps)
theorem Rd.getHypothesis {w : World} {lo hi k : Nat} {A : Option Addr} {ps : List GHypothesis} (h : RdH w lo hi A ps) (hk : k < ps.length) :
    ∃ b off p, A = some ⟨b, off, none⟩ ∧ lo ≤ b ∧ b < hi ∧ ps[k]? = some p ∧ w.cell? ⟨b, off + k * 3, none⟩ = some (.int .i64 p.lw) ∧ w.cell? ⟨b, off + k * 3 + 1, none⟩ = some (.int .i64 p.hg) ∧ w.cell? ⟨b, off + k * 3 + 2, none⟩ = some (.int .i64 p.vt) := by
  obtain ⟨b, off, e, h1, h2, hc⟩ := h.2 (by omega)
  have hp : ps[k]? = some ps[k] := List.getElem?_eq_getElem hk
  have g : ∀ j v, j < 3 → ps[k].cells[j]? = some v → w.cell? ⟨b, off + k * 3 + j, none⟩ = some v := fun j v hj hv => by
    rw [Nat.add_assoc]
    exact hc _ _ ((cellsHypothesis_get hp hj).trans hv)
  exact ⟨b, off, ps[k], e, h1, h2, hp, g 0 _ (by omega) rfl, g 1 _ (by omega) rfl, g 2 _ (by omega) rfl⟩

theorem setHypothesis {Y R : List Value} {z0 z1 z2 a0 a1 a2 : Value} {m : Nat} (h : Y.length = m) :
    ((((Y ++ z0 :: z1 :: z2 :: R).set (m) (a0)).set (m + 1) (a1)).set (m + 2) (a2)) = (Y ++ [a0, a1, a2]) ++ R := by
  subst h
  simp [List.set_append]
theorem cellsHypothesis_snoc {ps : List GHypothesis} {k : Nat} {p : GHypothesis} (hp : ps[k]? = some p) : cellsHypothesis (ps.take (k + 1)) = cellsHypothesis (ps.take k) ++ p.cells := by
  rw [List.take_add_one, hp]
  simp [cellsHypothesis]
theorem set_Hypothesis {ps : List GHypothesis} {zs : List Value} {k n : Nat} {p : GHypothesis} (hp : ps[k]? = some p) (hz : zs.length = (n - k) * 3) (hk : k < n) :
    ∃ zs' : List Value, ((((cellsHypothesis (ps.take k) ++ zs).set (k * 3) (.int .i64 p.lw)).set (k * 3 + 1) (.int .i64 p.hg)).set (k * 3 + 2) (.int .i64 p.vt)) = cellsHypothesis (ps.take (k + 1)) ++ zs' ∧ zs'.length = (n - (k + 1)) * 3 := by
  have hkx : k < ps.length := (List.getElem?_eq_some_iff.1 hp).1
  have hX : (cellsHypothesis (ps.take k)).length = k * 3 := by rw [cellsHypothesis_length, List.length_take, Nat.min_eq_left (by omega)]
  obtain ⟨j, hj⟩ : ∃ j, n - k = j + 1 := ⟨n - k - 1, by omega⟩
  rw [hj] at hz
  match zs, hz with
  | z0 :: z1 :: z2 :: R, hz =>
    refine ⟨R, ?_, by simp at hz; rw [show n - (k + 1) = j by omega]; omega⟩
    rw [setHypothesis hX, cellsHypothesis_snoc hp]
    rfl
  | [], hz | [_], hz | [_, _], hz => exact absurd hz (by simp only [List.length_cons, List.length_nil]; omega)

/-- A list of the call's own comes back. -/
def RetHypothesisS (ps : List GHypothesis) (w : World) (e : Ending) (w' : World) : Prop :=
  ∃ A c, e = .returned (.slice A ps.length c) ∧ Own w' 24 w.heap.size w'.heap.size 3 A ps.length c (cellsHypothesis ps) ∧ Below w.heap.size w w'
def RetHypothesisSB (ps : List GHypothesis) (b : Bool) (w : World) (e : Ending) (w' : World) : Prop :=
  ∃ A c, e = .returned (.tuple #[.slice A ps.length c, .bool b]) ∧ Own w' 24 w.heap.size w'.heap.size 3 A ps.length c (cellsHypothesis ps) ∧ Below w.heap.size w w'
theorem info_Hypothesis : (Try.prog.info? 24).map (fun i => (i.zero, i.size, i.bytes)) = some (some (.agg #[.int .i64 0, .int .i64 0, .int .i64 0]), 3, 24) := by kernel_rfl

set_option maxHeartbeats 2000000 in
set_option maxRecDepth 100000 in
theorem eqHypothesis_same (p : GHypothesis) (w : World) : Calls Try.prog 9 #[.agg #[.int .i64 p.lw, .int .i64 p.hg, .int .i64 p.vt], .agg #[.int .i64 p.lw, .int .i64 p.hg, .int .i64 p.vt]] w (RetB true w) := by
  obtain ⟨lw, hg, vt⟩ := p
  simp only
  go_enter Try.func9, Try.ntmps9
  go_wp2_with fail
  go_returns
  exact ⟨rfl, by go_grown⟩

set_option maxHeartbeats 2000000 in
set_option maxRecDepth 100000 in
theorem eqHypothesisS_same (A B : Option Addr) (c d lo hi lo' hi' : Nat) (ps : List GHypothesis) (w : World) (ha : RdH w lo hi A ps) (hb0 : RdH w lo' hi' B ps) (hl : ps.length ≤ 2097152) (hh : hi ≤ w.heap.size) (hh' : hi' ≤ w.heap.size) :
    Calls Try.prog 15 #[.slice A ps.length c, .slice B ps.length d] w (RetB true w) := by
  go_enter Try.func15, Try.ntmps15
  go_wp2_with fail
  go_loopw [5] (fun i wr => ∃ k : Nat, k ≤ ps.length ∧ i = .int .i64 k ∧ Below w.heap.size w wr) (fun i _ => ps.length - (intOf i).toNat)
  case atStart => exact ⟨0, Nat.zero_le _, rfl, Below.refl _ _⟩
  case round =>
    obtain ⟨k, hk, rfl, hb⟩ := hrel
    by_cases hlt : k < ps.length
    · obtain ⟨b, off, p, rfl, _, hbl, hp, c0, c1, c2⟩ := (ha.below hb hh).getHypothesis hlt
      obtain ⟨b', off', p', rfl, _, hbl', hp', e0, e1, e2⟩ := (hb0.below hb hh').getHypothesis hlt
      obtain rfl : p = p' := by rw [hp] at hp'; injection hp'
      clear hp hp'
      have q1 : (k : Int) < (ps.length : Int) := by omega
      obtain ⟨N, hNN⟩ : ∃ N, N = wr.heap.size := ⟨_, rfl⟩
      have hN : N ≤ wr.heap.size := by omega
      have hNw : w.heap.size ≤ N := by rw [hNN]; exact hb.size
      have D0 : ∀ s : Bw N wr, s.v.cell? ⟨b, off + k * 3, none⟩ = some (.int .i64 p.lw) := fun s => s.cell (show b < N from by have := hb.size; omega) c0
      have E0 : ∀ s : Bw N wr, s.v.cell? ⟨b', off' + k * 3, none⟩ = some (.int .i64 p.lw) := fun s => s.cell (show b' < N from by have := hb.size; omega) e0
      have D1 : ∀ s : Bw N wr, s.v.cell? ⟨b, off + k * 3 + 1, none⟩ = some (.int .i64 p.hg) := fun s => s.cell (show b < N from by have := hb.size; omega) c1
      have E1 : ∀ s : Bw N wr, s.v.cell? ⟨b', off' + k * 3 + 1, none⟩ = some (.int .i64 p.hg) := fun s => s.cell (show b' < N from by have := hb.size; omega) e1
      have D2 : ∀ s : Bw N wr, s.v.cell? ⟨b, off + k * 3 + 2, none⟩ = some (.int .i64 p.vt) := fun s => s.cell (show b < N from by have := hb.size; omega) c2
      have E2 : ∀ s : Bw N wr, s.v.cell? ⟨b', off' + k * 3 + 2, none⟩ = some (.int .i64 p.vt) := fun s => s.cell (show b' < N from by have := hb.size; omega) e2
      clear c0 c1 c2 e0 e1 e2
      go_wp2_with fail
      refine wp_region_bw (Below.refl N _) (by kernel_rfl) (by kernel_rfl) ?_
      repeat (go_big_quiet_step ((go_at_call 9; exact bw_left hN (eqHypothesis_same _ _))))
      refine wpQuiet_nil ?_
      rintro _ ⟨⟨wz, hwz⟩, rfl⟩
      have hbz := hb.trans (hwz.mono hNw)
      go_wp2_with fail
      go_roundw
      case rel => exact ⟨k + 1, by omega, by go_num, hbz⟩
      case measure => simp [intOf]; omega
    · go_wp2_with fail
      go_ret
      exact ⟨rfl, hb⟩

theorem marksHypothesis (k : Int) (j : Nat) : ints (marks k ((j + 1) * 3)) = ints (marks k (j * 3)) ++ [.int .i64 (k + (j : Int) * 3), .int .i64 (k + (j : Int) * 3 + 1), .int .i64 (k + (j : Int) * 3 + 1 + 1)] := by
  rw [show (j + 1) * 3 = j * 3 + 1 + 1 + 1 by omega]
  simp only [marks, ints, List.map_append, List.append_assoc, List.map_cons, List.map_nil, List.cons_append, List.nil_append, List.append_cancel_left_eq, List.cons.injEq, Value.int.injEq, true_and, and_true]
  omega
theorem mark_Hypothesis {zs : List Value} {k : Int} {j n : Nat} (hz : zs.length = (n - j) * 3) (hj : j < n) :
    ∃ zs' : List Value, ((((ints (marks k (j * 3)) ++ zs).set (j * 3) (.int .i64 (k + (j : Int) * 3))).set (j * 3 + 1) (.int .i64 (k + (j : Int) * 3 + 1))).set (j * 3 + 2) (.int .i64 (k + (j : Int) * 3 + 1 + 1))) = ints (marks k ((j + 1) * 3)) ++ zs' ∧ zs'.length = (n - (j + 1)) * 3 := by
  have hX : (ints (marks k (j * 3))).length = j * 3 := by simp [ints, marks_length]
  obtain ⟨i, hi⟩ : ∃ i, n - j = i + 1 := ⟨n - j - 1, by omega⟩
  rw [hi] at hz
  match zs, hz with
  | z0 :: z1 :: z2 :: R, hz =>
    refine ⟨R, ?_, by simp at hz; rw [show n - (j + 1) = i by omega]; omega⟩
    rw [setHypothesis hX, marksHypothesis]
  | [], hz | [_], hz | [_, _], hz => exact absurd hz (by simp only [List.length_cons, List.length_nil]; omega)

set_option maxHeartbeats 2000000 in
set_option maxRecDepth 100000 in
theorem markHypothesisS_any (A : Option Addr) (c lo hi : Nat) (ps : List GHypothesis) (k : Int) (w : World) (ho : Own w 24 lo hi 3 A ps.length c (cellsHypothesis ps)) (h0 : 0 ≤ k) (h1 : k ≤ 1000000000000) (hl : ps.length ≤ 1099511627776) :
    Calls Try.prog 17 #[.slice A ps.length c, .int .i64 k] w fun e w' => e = .returned (.int .i64 (k + (ps.length : Int) * 3)) ∧ Own w' 24 lo hi 3 A ps.length c (ints (marks k (ps.length * 3))) ∧ Only lo hi w w' ∧ w'.heap.size ≤ w.heap.size := by
  go_enter Try.func17, Try.ntmps17
  go_wp2_with fail
  go_loopw [1, 5] (fun t i wr => ∃ (j : Nat) (zs : List Value), j ≤ ps.length ∧ i = .int .i64 j ∧ t = .int .i64 (k + (j : Int) * 3) ∧ zs.length = (ps.length - j) * 3 ∧ Own wr 24 lo hi 3 A ps.length c (ints (marks k (j * 3)) ++ zs) ∧ Only lo hi w wr ∧ wr.heap.size = w.heap.size) (fun _ i _ => ps.length - (intOf i).toNat)
  case atStart => exact ⟨0, cellsHypothesis ps, Nat.zero_le _, rfl, by simp, by rw [cellsHypothesis_length]; rfl, by simpa [marks] using ho, Only.refl _ _ _, rfl⟩
  case round =>
    obtain ⟨j, zs, hj, rfl, rfl, hz, hown, honly, hsz⟩ := hrel
    have HZ := Lib.hid hsz
    have HL := Lib.hid hz
    clear hsz hz
    by_cases hlt : j < ps.length
    · obtain ⟨g, rfl, hg1, hg2⟩ := hown.length_pos (by omega)
      obtain ⟨u0, hu0⟩ : ∃ u, wr.cell? ⟨g, j * 3, none⟩ = some u := by
        have e1 := hown.1.cellAt (j * 3) (by omega)
        have e2 : j * 3 < (ints (marks k (j * 3)) ++ zs).length := by rw [hown.length]; omega
        exact ⟨_, e1.trans (List.getElem?_eq_getElem e2)⟩
      have hf0 : wr.frozen? ⟨g, j * 3, none⟩ = false := hown.frozen _
      obtain ⟨u1, hu1⟩ : ∃ u, wr.cell? ⟨g, j * 3 + 1, none⟩ = some u := by
        have e1 := hown.1.cellAt (j * 3 + 1) (by omega)
        have e2 : j * 3 + 1 < (ints (marks k (j * 3)) ++ zs).length := by rw [hown.length]; omega
        exact ⟨_, e1.trans (List.getElem?_eq_getElem e2)⟩
      have hf1 : wr.frozen? ⟨g, j * 3 + 1, none⟩ = false := hown.frozen _
      obtain ⟨u2, hu2⟩ : ∃ u, wr.cell? ⟨g, j * 3 + 2, none⟩ = some u := by
        have e1 := hown.1.cellAt (j * 3 + 2) (by omega)
        have e2 : j * 3 + 2 < (ints (marks k (j * 3)) ++ zs).length := by rw [hown.length]; omega
        exact ⟨_, e1.trans (List.getElem?_eq_getElem e2)⟩
      have hf2 : wr.frozen? ⟨g, j * 3 + 2, none⟩ = false := hown.frozen _
      have w1 : IntKind.i64.wrap (k + (j : Int) * 3 + 1) = k + (j : Int) * 3 + 1 := wr64 (by omega) (by omega)
      have w2 : IntKind.i64.wrap (k + (j : Int) * 3 + 1 + 1) = k + (j : Int) * 3 + 1 + 1 := wr64 (by omega) (by omega)
      have w3 : IntKind.i64.wrap (k + (j : Int) * 3 + 1 + 1 + 1) = k + (j : Int) * 3 + 1 + 1 + 1 := wr64 (by omega) (by omega)
      obtain ⟨zs', hs, hz'⟩ := mark_Hypothesis (k := k) HL.out hlt
      have hown' := (((hown.store (j * 3) (.int .i64 (k + (j : Int) * 3))).store (j * 3 + 1) (.int .i64 (k + (j : Int) * 3 + 1))).store (j * 3 + 2) (.int .i64 (k + (j : Int) * 3 + 1 + 1)))
      rw [hs] at hown'
      have HZ' := Lib.hid hz'
      clear hs hz' hown
      go_wp2_with fail
      go_roundw
      case rel => exact ⟨j + 1, zs', by omega, by go_num, by congr 1; omega, HZ'.out, hown', (((honly.setCell hg1 hg2 _).setCell hg1 hg2 _).setCell hg1 hg2 _), by simpa [World.setCell] using HZ.out⟩
      case measure => simp [intOf]; omega
    · obtain rfl : j = ps.length := by omega
      go_wp2_with fail
      go_ret
      have hz0 : zs = [] := List.eq_nil_of_length_eq_zero (by rw [HL.out]; omega)
      rw [hz0, List.append_nil] at hown
      exact ⟨rfl, hown, honly, Nat.le_of_eq HZ.out⟩

end Go.Proofs.Ytiaabojkimboiaa
