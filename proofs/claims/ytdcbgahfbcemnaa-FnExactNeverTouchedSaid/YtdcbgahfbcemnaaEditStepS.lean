/-
  This file proves words and contracts on slices of EditStep: reading, the copy between the two packages' structs, equality, the bound on the length, the marks.
  Conditions: each contract's own hypotheses (that a slice reads as a list, that it is not too long).
-/
import Derived.Test.YtdcbgahfbcemnaaBw
import Derived.Handy
namespace Go.Proofs.Ytdcbgahfbcemnaa
open Go.RowKit
set_option linter.unusedSimpArgs false
set_option linter.unusedVariables false

structure GEditStep where
  kd : Int
  mr : Int
  sh : Int
  rs : ByteArray
def GEditStep.cells (p : GEditStep) : List Value := [.int .i64 p.kd, .int .i64 p.mr, .int .i64 p.sh, .string p.rs]
abbrev GEditStep.val (p : GEditStep) : Value := .agg #[.int .i64 p.kd, .int .i64 p.mr, .int .i64 p.sh, .string p.rs]
theorem EditStep_cells (p : GEditStep) (w : World) (t : TypeId) : (w.alloc (.cells #[.int .i64 p.kd, .int .i64 p.mr, .int .i64 p.sh, .string p.rs] t)).cell? ⟨w.heap.size, 0, none⟩ = some (.int .i64 p.kd) ∧ (w.alloc (.cells #[.int .i64 p.kd, .int .i64 p.mr, .int .i64 p.sh, .string p.rs] t)).cell? ⟨w.heap.size, 1, none⟩ = some (.int .i64 p.mr) ∧ (w.alloc (.cells #[.int .i64 p.kd, .int .i64 p.mr, .int .i64 p.sh, .string p.rs] t)).cell? ⟨w.heap.size, 2, none⟩ = some (.int .i64 p.sh) ∧ (w.alloc (.cells #[.int .i64 p.kd, .int .i64 p.mr, .int .i64 p.sh, .string p.rs] t)).cell? ⟨w.heap.size, 3, none⟩ = some (.string p.rs) := by
  have h := heap_alloc_new w (.cells #[.int .i64 p.kd, .int .i64 p.mr, .int .i64 p.sh, .string p.rs] t)
  refine ⟨?_, ?_, ?_, ?_⟩ <;> rw [cell_of_row _ _ _ _ _ (0, 0) h] <;> rfl

def cellsEditStep (ps : List GEditStep) : List Value := ps.flatMap GEditStep.cells
theorem cellsEditStep_length (ps : List GEditStep) : (cellsEditStep ps).length = ps.length * 4 := by
  unfold cellsEditStep
  induction ps with
  | nil => rfl
  | cons p ps ih => rw [List.flatMap_cons, List.length_append, ih, List.length_cons]; simp [GEditStep.cells]; omega
theorem cellsEditStep_get {ps : List GEditStep} {k j : Nat} {p : GEditStep} (hp : ps[k]? = some p) (hj : j < 4) : (cellsEditStep ps)[k * 4 + j]? = p.cells[j]? := by
  unfold cellsEditStep
  induction ps generalizing k with
  | nil => simp at hp
  | cons q ps ih =>
    have hq : q.cells.length = 4 := rfl
    rw [List.flatMap_cons]
    match k, hp with
    | 0, hp =>
      simp at hp
      subst hp
      rw [List.getElem?_append_left (by rw [hq]; omega)]
      congr 1
      omega
    | k + 1, hp =>
      simp at hp
      rw [List.getElem?_append_right (by rw [hq]; omega), hq, show (k + 1) * 4 + j - 4 = k * 4 + j by omega]
      exact ih hp
abbrev RdE (w : World) (lo hi : Nat) (A : Option Addr) (ps : List GEditStep) : Prop := Rd w lo hi 4 A ps.length (cellsEditStep ps)
theorem Rd.getEditStep {w : World} {lo hi k : Nat} {A : Option Addr} {ps : List GEditStep} (h : RdE w lo hi A ps) (hk : k < ps.length) :
    ∃ b off p, A = some ⟨b, off, none⟩ ∧ lo ≤ b ∧ b < hi ∧ ps[k]? = some p ∧ w.cell? ⟨b, off + k * 4, none⟩ = some (.int .i64 p.kd) ∧ w.cell? ⟨b, off + k * 4 + 1, none⟩ = some (.int .i64 p.mr) ∧ w.cell? ⟨b, off + k * 4 + 2, none⟩ = some (.int .i64 p.sh) ∧ w.cell? ⟨b, off + k * 4 + 3, none⟩ = some (.string p.rs) := by
  obtain ⟨b, off, e, h1, h2, hc⟩ := h.2 (by omega)
  have hp : ps[k]? = some ps[k] := List.getElem?_eq_getElem hk
  have g : ∀ j v, j < 4 → ps[k].cells[j]? = some v → w.cell? ⟨b, off + k * 4 + j, none⟩ = some v := fun j v hj hv => by
    rw [Nat.add_assoc]
    exact hc _ _ ((cellsEditStep_get hp hj).trans hv)
  exact ⟨b, off, ps[k], e, h1, h2, hp, g 0 _ (by omega) rfl, g 1 _ (by omega) rfl, g 2 _ (by omega) rfl, g 3 _ (by omega) rfl⟩

theorem setEditStep {Y R : List Value} {z0 z1 z2 z3 a0 a1 a2 a3 : Value} {m : Nat} (h : Y.length = m) :
    (((((Y ++ z0 :: z1 :: z2 :: z3 :: R).set (m) (a0)).set (m + 1) (a1)).set (m + 2) (a2)).set (m + 3) (a3)) = (Y ++ [a0, a1, a2, a3]) ++ R := by
  subst h
  simp [List.set_append]
theorem cellsEditStep_snoc {ps : List GEditStep} {k : Nat} {p : GEditStep} (hp : ps[k]? = some p) : cellsEditStep (ps.take (k + 1)) = cellsEditStep (ps.take k) ++ p.cells := by
  rw [List.take_add_one, hp]
  simp [cellsEditStep]
theorem set_EditStep {ps : List GEditStep} {zs : List Value} {k n : Nat} {p : GEditStep} (hp : ps[k]? = some p) (hz : zs.length = (n - k) * 4) (hk : k < n) :
    ∃ zs' : List Value, (((((cellsEditStep (ps.take k) ++ zs).set (k * 4) (.int .i64 p.kd)).set (k * 4 + 1) (.int .i64 p.mr)).set (k * 4 + 2) (.int .i64 p.sh)).set (k * 4 + 3) (.string p.rs)) = cellsEditStep (ps.take (k + 1)) ++ zs' ∧ zs'.length = (n - (k + 1)) * 4 := by
  have hkx : k < ps.length := (List.getElem?_eq_some_iff.1 hp).1
  have hX : (cellsEditStep (ps.take k)).length = k * 4 := by rw [cellsEditStep_length, List.length_take, Nat.min_eq_left (by omega)]
  obtain ⟨j, hj⟩ : ∃ j, n - k = j + 1 := ⟨n - k - 1, by omega⟩
  rw [hj] at hz
  match zs, hz with
  | z0 :: z1 :: z2 :: z3 :: R, hz =>
    refine ⟨R, ?_, by simp at hz; rw [show n - (k + 1) = j by omega]; omega⟩
    rw [setEditStep hX, cellsEditStep_snoc hp]
    rfl
  | [], hz | [_], hz | [_, _], hz | [_, _, _], hz => exact absurd hz (by simp only [List.length_cons, List.length_nil]; omega)

/-- A list of the call's own comes back. -/
def RetEditStepS (ps : List GEditStep) (w : World) (e : Ending) (w' : World) : Prop :=
  ∃ A c, e = .returned (.slice A ps.length c) ∧ Own w' 42 w.heap.size w'.heap.size 4 A ps.length c (cellsEditStep ps) ∧ Below w.heap.size w w'
def RetEditStepSB (ps : List GEditStep) (b : Bool) (w : World) (e : Ending) (w' : World) : Prop :=
  ∃ A c, e = .returned (.tuple #[.slice A ps.length c, .bool b]) ∧ Own w' 42 w.heap.size w'.heap.size 4 A ps.length c (cellsEditStep ps) ∧ Below w.heap.size w w'
theorem info_EditStep : (Try.prog.info? 42).map (fun i => (i.zero, i.size, i.bytes)) = some (some (.agg #[.int .i64 0, .int .i64 0, .int .i64 0, .string ByteArray.empty]), 4, 40) := by kernel_rfl

set_option maxHeartbeats 1000000 in
theorem toEditStep_any (p : GEditStep) (w : World) : Calls Try.prog 27 #[.agg #[.int .i64 p.kd, .int .i64 p.mr, .int .i64 p.sh, .string p.rs]] w fun e w' => e = .returned (.agg #[.int .i64 p.kd, .int .i64 p.mr, .int .i64 p.sh, .string p.rs]) ∧ Below w.heap.size w w' := by
  go_enter Try.func27, Try.ntmps27
  go_wp2_with fail
  go_returns
  exact ⟨rfl, by go_grown⟩

set_option maxHeartbeats 2000000 in
set_option maxRecDepth 100000 in
theorem toEditStepS_any (A : Option Addr) (c lo hi : Nat) (ps : List GEditStep) (w : World) (hr : RdE w lo hi A ps) (hh : hi ≤ w.heap.size) (hl : ps.length ≤ 2097152) :
    Calls Try.prog 14 #[.slice A ps.length c] w (RetEditStepS ps w) := by
  obtain ⟨i0, hi0, hz0, hz1, hz2⟩ := info_parts info_EditStep
  obtain ⟨N, hN⟩ : ∃ N, N = w.heap.size := ⟨_, rfl⟩
  have HN := Lib.hid hN
  clear hN
  go_enter Try.func14, Try.ntmps14
  go_wp2_with (at_make; refine wpList_make_full _ rfl _ _ 25 rfl w.heap.size 42 i0 (.agg #[.int .i64 0, .int .i64 0, .int .i64 0, .string ByteArray.empty]) 4 Try.underlying25 hi0 hz0 hz1 _ _ _ _ ps.length rfl rfl rfl rfl ?b2 ?b3 (Nat.le_refl _) ?_)
  case b2 => rw [hz2]; omega
  case b3 => unfold maxLen; omega
  intro w1 hown1 hg1
  have hb1 : Below w.heap.size w w1 := (Below.refl _ _).grown hg1 (Nat.le_refl _) (fun k h => by cases h)
  rw [← HN.out] at hown1 hb1 ⊢
  have hlt1 : N < w1.heap.size := (hown1.lt N rfl).2
  clear hg1
  generalize (madeCells _ _).toList = zs0 at hown1
  have hzl := hown1.1
  go_wp2_with fail
  go_loopw [4] (fun i wr => ∃ (k : Nat) (zs : List Value), k ≤ ps.length ∧ i = .int .i64 k ∧ zs.length = (ps.length - k) * 4 ∧ wr.ownsRow N 42 4 (.slice (some ⟨N, 0, none⟩) ps.length ps.length) ps.length (cellsEditStep (ps.take k) ++ zs) ∧ Below N w wr ∧ N < wr.heap.size) (fun i _ => ps.length - (intOf i).toNat)
  case atStart => exact ⟨0, zs0, Nat.zero_le _, rfl, by simpa using hzl, by simpa [cellsEditStep] using hown1, hb1, hlt1⟩
  case round =>
    obtain ⟨k, zs, hk, rfl, hz, hown, hb, hlt'⟩ := hrel
    have HZ := Lib.hid hz
    clear hz
    by_cases hlt : k < ps.length
    · obtain ⟨b, off, p, rfl, _, _, hp, c0, c1, c2, c3⟩ := (hr.below hb (by have := HN.out; omega)).getEditStep hlt
      have HP := Lib.hid hp
      clear hp
      go_wp2_with fail
      refine (toEditStep_any p _).mono ?_
      rintro e w2 ⟨rfl, B2⟩
      have hs2 := B2.size
      have hb2 := hb.trans (B2.mono (Nat.le_of_lt hlt'))
      have hown2 : w2.ownsRow N 42 4 (.slice (some ⟨N, 0, none⟩) ps.length ps.length) ps.length (cellsEditStep (ps.take k) ++ zs) := (show Own wr _ N (N + 1) 4 _ _ _ _ from ⟨hown, fun a ha => by cases ha; exact Nat.lt_succ_self _⟩).below B2 (by omega) |>.1
      obtain ⟨u0, hu0⟩ : ∃ u, w2.cell? ⟨N, k * 4, none⟩ = some u := by
        have h1 := hown2.cellAt (k * 4) (by omega)
        have h2 : k * 4 < (cellsEditStep (ps.take k) ++ zs).length := by rw [hown2.1]; omega
        exact ⟨_, h1.trans (List.getElem?_eq_getElem h2)⟩
      have hf0 : w2.frozen? ⟨N, k * 4, none⟩ = false := hown2.frozenAt _
      obtain ⟨u1, hu1⟩ : ∃ u, w2.cell? ⟨N, k * 4 + 1, none⟩ = some u := by
        have h1 := hown2.cellAt (k * 4 + 1) (by omega)
        have h2 : k * 4 + 1 < (cellsEditStep (ps.take k) ++ zs).length := by rw [hown2.1]; omega
        exact ⟨_, h1.trans (List.getElem?_eq_getElem h2)⟩
      have hf1 : w2.frozen? ⟨N, k * 4 + 1, none⟩ = false := hown2.frozenAt _
      obtain ⟨u2, hu2⟩ : ∃ u, w2.cell? ⟨N, k * 4 + 2, none⟩ = some u := by
        have h1 := hown2.cellAt (k * 4 + 2) (by omega)
        have h2 : k * 4 + 2 < (cellsEditStep (ps.take k) ++ zs).length := by rw [hown2.1]; omega
        exact ⟨_, h1.trans (List.getElem?_eq_getElem h2)⟩
      have hf2 : w2.frozen? ⟨N, k * 4 + 2, none⟩ = false := hown2.frozenAt _
      obtain ⟨u3, hu3⟩ : ∃ u, w2.cell? ⟨N, k * 4 + 3, none⟩ = some u := by
        have h1 := hown2.cellAt (k * 4 + 3) (by omega)
        have h2 : k * 4 + 3 < (cellsEditStep (ps.take k) ++ zs).length := by rw [hown2.1]; omega
        exact ⟨_, h1.trans (List.getElem?_eq_getElem h2)⟩
      have hf3 : w2.frozen? ⟨N, k * 4 + 3, none⟩ = false := hown2.frozenAt _
      obtain ⟨zs', hs, hz'⟩ := set_EditStep HP.out HZ.out hlt
      have hown' := ((((hown2.stored (k * 4) (.int .i64 p.kd)).1.stored (k * 4 + 1) (.int .i64 p.mr)).1.stored (k * 4 + 2) (.int .i64 p.sh)).1.stored (k * 4 + 3) (.string p.rs)).1
      rw [hs] at hown'
      have HS := Lib.hid hs
      have HZ' := Lib.hid hz'
      clear hs hz' hown
      go_wp2_with fail
      go_roundw
      case rel => exact ⟨k + 1, zs', by omega, by go_num, HZ'.out, hown', ((((hb2.setCell (Nat.le_refl _) _).setCell (Nat.le_refl _) _).setCell (Nat.le_refl _) _).setCell (Nat.le_refl _) _), by simp [World.setCell]; omega⟩
      case measure => simp [intOf]; omega
    · go_wp2_with fail
      go_ret
      have e : cellsEditStep (ps.take k) ++ zs = cellsEditStep ps := by
        have hz0 : zs = [] := List.eq_nil_of_length_eq_zero (by rw [HZ.out]; omega)
        rw [List.take_of_length_le (by omega), hz0, List.append_nil]
      rw [e] at hown
      have hN' := HN.out
      exact ⟨some ⟨N, 0, none⟩, ps.length, rfl, ⟨by rw [← hN']; exact hown, fun a ha => by cases ha; exact hlt'⟩, by rw [← hN']; exact hb⟩

set_option maxHeartbeats 2000000 in
set_option maxRecDepth 100000 in
theorem eqEditStep_same (p : GEditStep) (w : World) : Calls Try.prog 48 #[.agg #[.int .i64 p.kd, .int .i64 p.mr, .int .i64 p.sh, .string p.rs], .agg #[.int .i64 p.kd, .int .i64 p.mr, .int .i64 p.sh, .string p.rs]] w (RetB true w) := by
  obtain ⟨kd, mr, sh, rs⟩ := p
  simp only
  go_enter Try.func48, Try.ntmps48
  go_wp2_with fail
  go_returns
  exact ⟨rfl, by go_grown⟩

set_option maxHeartbeats 2000000 in
set_option maxRecDepth 100000 in
theorem eqEditStepS_same (A B : Option Addr) (c d lo hi lo' hi' : Nat) (ps : List GEditStep) (w : World) (ha : RdE w lo hi A ps) (hb0 : RdE w lo' hi' B ps) (hl : ps.length ≤ 2097152) (hh : hi ≤ w.heap.size) (hh' : hi' ≤ w.heap.size) :
    Calls Try.prog 16 #[.slice A ps.length c, .slice B ps.length d] w (RetB true w) := by
  go_enter Try.func16, Try.ntmps16
  go_wp2_with fail
  go_loopw [5] (fun i wr => ∃ k : Nat, k ≤ ps.length ∧ i = .int .i64 k ∧ Below w.heap.size w wr) (fun i _ => ps.length - (intOf i).toNat)
  case atStart => exact ⟨0, Nat.zero_le _, rfl, Below.refl _ _⟩
  case round =>
    obtain ⟨k, hk, rfl, hb⟩ := hrel
    by_cases hlt : k < ps.length
    · obtain ⟨b, off, p, rfl, _, hbl, hp, c0, c1, c2, c3⟩ := (ha.below hb hh).getEditStep hlt
      obtain ⟨b', off', p', rfl, _, hbl', hp', e0, e1, e2, e3⟩ := (hb0.below hb hh').getEditStep hlt
      obtain rfl : p = p' := by rw [hp] at hp'; injection hp'
      clear hp hp'
      have q1 : (k : Int) < (ps.length : Int) := by omega
      obtain ⟨N, hNN⟩ : ∃ N, N = wr.heap.size := ⟨_, rfl⟩
      have hN : N ≤ wr.heap.size := by omega
      have hNw : w.heap.size ≤ N := by rw [hNN]; exact hb.size
      have D0 : ∀ s : Bw N wr, s.v.cell? ⟨b, off + k * 4, none⟩ = some (.int .i64 p.kd) := fun s => s.cell (show b < N from by have := hb.size; omega) c0
      have E0 : ∀ s : Bw N wr, s.v.cell? ⟨b', off' + k * 4, none⟩ = some (.int .i64 p.kd) := fun s => s.cell (show b' < N from by have := hb.size; omega) e0
      have D1 : ∀ s : Bw N wr, s.v.cell? ⟨b, off + k * 4 + 1, none⟩ = some (.int .i64 p.mr) := fun s => s.cell (show b < N from by have := hb.size; omega) c1
      have E1 : ∀ s : Bw N wr, s.v.cell? ⟨b', off' + k * 4 + 1, none⟩ = some (.int .i64 p.mr) := fun s => s.cell (show b' < N from by have := hb.size; omega) e1
      have D2 : ∀ s : Bw N wr, s.v.cell? ⟨b, off + k * 4 + 2, none⟩ = some (.int .i64 p.sh) := fun s => s.cell (show b < N from by have := hb.size; omega) c2
      have E2 : ∀ s : Bw N wr, s.v.cell? ⟨b', off' + k * 4 + 2, none⟩ = some (.int .i64 p.sh) := fun s => s.cell (show b' < N from by have := hb.size; omega) e2
      have D3 : ∀ s : Bw N wr, s.v.cell? ⟨b, off + k * 4 + 3, none⟩ = some (.string p.rs) := fun s => s.cell (show b < N from by have := hb.size; omega) c3
      have E3 : ∀ s : Bw N wr, s.v.cell? ⟨b', off' + k * 4 + 3, none⟩ = some (.string p.rs) := fun s => s.cell (show b' < N from by have := hb.size; omega) e3
      clear c0 c1 c2 c3 e0 e1 e2 e3
      go_wp2_with fail
      refine wp_region_bw (Below.refl N _) (by kernel_rfl) (by kernel_rfl) ?_
      repeat (go_big_quiet_step ((go_at_call 48; exact bw_left hN (eqEditStep_same _ _))))
      refine wpQuiet_nil ?_
      rintro _ ⟨⟨wz, hwz⟩, rfl⟩
      have hbz := hb.trans (hwz.mono hNw)
      go_wp2_with fail
      go_roundw
      case rel => exact ⟨k + 1, by omega, by go_num, hbz⟩
      case measure => simp [intOf]; omega
    · go_wp2_with fail
      go_ret
      exact ⟨rfl, hb⟩

end Go.Proofs.Ytdcbgahfbcemnaa
