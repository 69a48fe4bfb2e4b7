/-
  This file proves contracts on slices of pairs of integers ([2]int): comparing, marking, telling marks.
  Conditions: that the slices read as lists of pairs; that they are not too long.
-/
import Derived.Test.YtdllhdfoinobjaaHypE
namespace Go.Proofs.Ytdllhdfoinobjaa
open Go.RowKit
set_option linter.unusedSimpArgs false
set_option linter.unusedVariables false

structure GPair where
  a : Int
  b : Int
def GPair.cells (p : GPair) : List Value := [.int .i64 p.a, .int .i64 p.b]
def cellsPair (ps : List GPair) : List Value := ps.flatMap GPair.cells
theorem cellsPair_length (ps : List GPair) : (cellsPair ps).length = ps.length * 2 := by
  unfold cellsPair
  induction ps with
  | nil => rfl
  | cons p ps ih => rw [List.flatMap_cons, List.length_append, ih, List.length_cons]; simp [GPair.cells]; omega
theorem cellsPair_get {ps : List GPair} {k j : Nat} {p : GPair} (hp : ps[k]? = some p) (hj : j < 2) : (cellsPair ps)[k * 2 + j]? = p.cells[j]? := by
  unfold cellsPair
  induction ps generalizing k with
  | nil => simp at hp
  | cons q ps ih =>
    have hq : q.cells.length = 2 := rfl
    rw [List.flatMap_cons]
    match k, hp with
    | 0, hp =>
      simp at hp
      subst hp
      rw [List.getElem?_append_left (by rw [hq]; omega)]
      congr 1
      omega
    | k + 1, hp =>
      simp at hp
      rw [List.getElem?_append_right (by rw [hq]; omega), hq, show (k + 1) * 2 + j - 2 = k * 2 + j by omega]
      exact ih hp
abbrev Rd2 (w : World) (lo hi : Nat) (A : Option Addr) (ps : List GPair) : Prop := Rd w lo hi 2 A ps.length (cellsPair ps)
theorem Rd.getPair {w : World} {lo hi k : Nat} {A : Option Addr} {ps : List GPair} (h : Rd2 w lo hi A ps) (hk : k < ps.length) :
    ∃ b off p, A = some ⟨b, off, none⟩ ∧ lo ≤ b ∧ b < hi ∧ ps[k]? = some p ∧ w.cell? ⟨b, off + k * 2, none⟩ = some (.int .i64 p.a) ∧ w.cell? ⟨b, off + k * 2 + 1, none⟩ = some (.int .i64 p.b) := by
  obtain ⟨b, off, e, h1, h2, hc⟩ := h.2 (by omega)
  have hp : ps[k]? = some ps[k] := List.getElem?_eq_getElem hk
  have g : ∀ j v, j < 2 → ps[k].cells[j]? = some v → w.cell? ⟨b, off + k * 2 + j, none⟩ = some v := fun j v hj hv => by
    rw [Nat.add_assoc]
    exact hc _ _ ((cellsPair_get hp hj).trans hv)
  exact ⟨b, off, ps[k], e, h1, h2, hp, g 0 _ (by omega) rfl, g 1 _ (by omega) rfl⟩
def RetPairs (ps : List GPair) (w : World) (e : Ending) (w' : World) : Prop :=
  ∃ A c, e = .returned (.slice A ps.length c) ∧ Own w' 66 w.heap.size w'.heap.size 2 A ps.length c (cellsPair ps) ∧ Below w.heap.size w w'
def RetPairsB (ps : List GPair) (b : Bool) (w : World) (e : Ending) (w' : World) : Prop :=
  ∃ A c, e = .returned (.tuple #[.slice A ps.length c, .bool b]) ∧ Own w' 66 w.heap.size w'.heap.size 2 A ps.length c (cellsPair ps) ∧ Below w.heap.size w w'
theorem info_Pair : (Try.prog.info? 66).map (fun i => (i.zero, i.size, i.bytes)) = some (some (.agg #[.int .i64 0, .int .i64 0]), 2, 16) := by kernel_rfl
theorem pair_new (x y : Int) (w : World) (t : TypeId) : (w.alloc (.cells #[.int .i64 x, .int .i64 y] t)).cell? ⟨w.heap.size, 0, none⟩ = some (.int .i64 x) ∧ (w.alloc (.cells #[.int .i64 x, .int .i64 y] t)).cell? ⟨w.heap.size, 1, none⟩ = some (.int .i64 y) := by
  have h := heap_alloc_new w (.cells #[.int .i64 x, .int .i64 y] t)
  refine ⟨?_, ?_⟩ <;> rw [cell_of_row _ _ _ _ _ (0, 0) h] <;> rfl

set_option maxHeartbeats 1000000 in
set_option maxRecDepth 100000 in
theorem heldIntA2S_any (A : Option Addr) (c lo hi n : Nat) (k : Int) (w : World) (hr : Rd w lo hi 2 A n (ints (marks k (n * 2)))) (h0 : 0 ≤ k) (h1 : k ≤ 1000000000000) (hl : n ≤ 1099511627776) :
    Calls Try.prog 34 #[.slice A n c, .int .i64 k] w fun e w' => e = .returned (.int .i64 (k + (n : Int) * 2)) ∧ w = w' := by
  go_enter Try.func34, Try.ntmps34
  go_wp2_with fail
  go_loop [1, 5] (fun t i => ∃ j : Nat, j ≤ n ∧ i = .int .i64 j ∧ t = .int .i64 (k + (j : Int) * 2)) (fun _ i => n - (intOf i).toNat)
  case atStart => exact ⟨0, Nat.zero_le _, rfl, by simp⟩
  case round =>
    obtain ⟨j, hj, rfl, rfl⟩ := hrel
    by_cases hlt : j < n
    · obtain ⟨b, off, rfl, _, _, hc⟩ := hr.2 (by omega)
      have c0 : w.cell? ⟨b, off + j * 2, none⟩ = some (.int .i64 (k + (j : Int) * 2)) := by
        have h := hc (j * 2) (.int .i64 (k + (j : Int) * 2)) (by rw [ints, List.getElem?_map, marks_get k (n * 2) (j * 2) (by omega)]; simp <;> omega)
        exact h
      have c1 : w.cell? ⟨b, off + j * 2 + 1, none⟩ = some (.int .i64 (k + (j : Int) * 2 + 1)) := by
        have h := hc (j * 2 + 1) (.int .i64 (k + (j : Int) * 2 + 1)) (by rw [ints, List.getElem?_map, marks_get k (n * 2) (j * 2 + 1) (by omega)]; simp <;> omega)
        rw [show off + (j * 2 + 1) = off + j * 2 + 1 from by omega] at h
        exact h
      have w1 : IntKind.i64.wrap (k + (j : Int) * 2 + 1) = k + (j : Int) * 2 + 1 := wr64 (by omega) (by omega)
      have w2 : IntKind.i64.wrap (k + (j : Int) * 2 + 1 + 1) = k + (j : Int) * 2 + 1 + 1 := wr64 (by omega) (by omega)
      clear hc
      have q1 : (j : Int) < (n : Int) := by omega
      go_wp2_with fail
      go_loop [1, 6] (fun t i => (i = .int .i64 0 ∧ t = .int .i64 (k + (j : Int) * 2)) ∨ (i = .int .i64 1 ∧ t = .int .i64 (k + (j : Int) * 2 + 1)) ∨ (i = .int .i64 2 ∧ t = .int .i64 (k + (j : Int) * 2 + 1 + 1))) (fun _ i => 2 - (intOf i).toNat)
      case atStart => exact .inl ⟨rfl, rfl⟩
      case round =>
        rcases hrel with ⟨rfl, rfl⟩ | ⟨rfl, rfl⟩ | ⟨rfl, rfl⟩
        · go_wp2_with fail
          go_round
          case rel => exact .inr (.inl ⟨by go_num, rfl⟩)
          case measure => simp [intOf]
        · go_wp2_with fail
          go_round
          case rel => exact .inr (.inr ⟨by go_num, rfl⟩)
          case measure => simp [intOf]
        · go_wp2_with fail
          go_round
          case rel => exact ⟨j + 1, by omega, by go_num, by congr 1; omega⟩
          case measure => simp [intOf]; omega
    · obtain rfl : j = n := by omega
      go_wp2_with fail
      go_ret
      exact ⟨rfl, rfl⟩

set_option maxHeartbeats 1000000 in
set_option maxRecDepth 100000 in
theorem eqIntA2_same (p : GPair) (w : World) : Calls Try.prog 66 #[.agg #[.int .i64 p.a, .int .i64 p.b], .agg #[.int .i64 p.a, .int .i64 p.b]] w (RetB true w) := by
  obtain ⟨x, y⟩ := p
  simp only
  obtain ⟨c0, c1⟩ := pair_new x y w 66
  have hb1 := below_alloc1 w (.cells #[.int .i64 x, .int .i64 y] 66)
  have hs1 : (w.alloc (.cells #[.int .i64 x, .int .i64 y] 66)).heap.size = w.heap.size + 1 := by simp
  obtain ⟨d0, d1⟩ := pair_new x y (w.alloc (.cells #[.int .i64 x, .int .i64 y] 66)) 66
  have hb2 := below_alloc1 (w.alloc (.cells #[.int .i64 x, .int .i64 y] 66)) (.cells #[.int .i64 x, .int .i64 y] 66)
  have e0 := (hb2.cell (p := ⟨w.heap.size, 0, none⟩) (show w.heap.size < _ from by omega)).trans c0
  have e1 := (hb2.cell (p := ⟨w.heap.size, 1, none⟩) (show w.heap.size < _ from by omega)).trans c1
  have hb3 : Below w.heap.size w _ := hb1.trans (hb2.mono (by omega))
  rw [hs1] at d0 d1
  clear c0 c1 hb1 hb2 hs1
  go_enter Try.func66, Try.ntmps66
  go_wp2_with fail
  generalize (w.alloc (.cells #[.int .i64 x, .int .i64 y] 66)).alloc (.cells #[.int .i64 x, .int .i64 y] 66) = wx at d0 d1 e0 e1 hb3 ⊢
  go_loopw [5] (fun i wr => (i = .int .i64 0 ∨ i = .int .i64 1 ∨ i = .int .i64 2) ∧ wr.cell? ⟨w.heap.size, 0, none⟩ = some (.int .i64 x) ∧ wr.cell? ⟨w.heap.size, 1, none⟩ = some (.int .i64 y) ∧ wr.cell? ⟨w.heap.size + 1, 0, none⟩ = some (.int .i64 x) ∧ wr.cell? ⟨w.heap.size + 1, 1, none⟩ = some (.int .i64 y) ∧ Below w.heap.size w wr) (fun i _ => 2 - (intOf i).toNat)
  case atStart => exact ⟨.inl rfl, e0, e1, d0, d1, hb3⟩
  case round =>
    obtain ⟨hi, k0, k1, k2, k3, hb⟩ := hrel
    rcases hi with rfl | rfl | rfl
    · go_wp2_with fail
      go_quiet (fail)
      go_wp2_with fail
      go_roundw
      case rel => exact ⟨.inr (.inl (by go_num)), k0, k1, k2, k3, below_drewN hb _⟩
      case measure => simp [intOf]
    · go_wp2_with fail
      go_quiet (fail)
      go_wp2_with fail
      go_roundw
      case rel => exact ⟨.inr (.inr (by go_num)), k0, k1, k2, k3, below_drewN hb _⟩
      case measure => simp [intOf]
    · go_wp2_with fail
      go_ret
      exact ⟨rfl, hb⟩

set_option maxHeartbeats 1000000 in
set_option maxRecDepth 100000 in
theorem eqIntA2S_same (A B : Option Addr) (c d lo hi lo' hi' : Nat) (ps : List GPair) (w : World) (ha : Rd2 w lo hi A ps) (hb0 : Rd2 w lo' hi' B ps) (hl : ps.length ≤ 2097152) (hh : hi ≤ w.heap.size) (hh' : hi' ≤ w.heap.size) :
    Calls Try.prog 31 #[.slice A ps.length c, .slice B ps.length d] w (RetB true w) := by
  go_enter Try.func31, Try.ntmps31
  go_wp2_with fail
  go_loopw [5] (fun i wr => ∃ k : Nat, k ≤ ps.length ∧ i = .int .i64 k ∧ Below w.heap.size w wr) (fun i _ => ps.length - (intOf i).toNat)
  case atStart => exact ⟨0, Nat.zero_le _, rfl, Below.refl _ _⟩
  case round =>
    obtain ⟨k, hk, rfl, hb⟩ := hrel
    by_cases hlt : k < ps.length
    · obtain ⟨b, off, p, rfl, _, hbl, hp, c0, c1⟩ := (ha.below hb hh).getPair hlt
      obtain ⟨b', off', p', rfl, _, hbl', hp', e0, e1⟩ := (hb0.below hb hh').getPair hlt
      obtain rfl : p = p' := by rw [hp] at hp'; injection hp'
      clear hp hp'
      have q1 : (k : Int) < (ps.length : Int) := by omega
      obtain ⟨N, hNN⟩ : ∃ N, N = wr.heap.size := ⟨_, rfl⟩
      have hN : N ≤ wr.heap.size := by omega
      have hNw : w.heap.size ≤ N := by rw [hNN]; exact hb.size
      have D0 : ∀ s : Bw N wr, s.v.cell? ⟨b, off + k * 2, none⟩ = some (.int .i64 p.a) := fun s => s.cell (show b < N from by have := hb.size; omega) c0
      have E0 : ∀ s : Bw N wr, s.v.cell? ⟨b', off' + k * 2, none⟩ = some (.int .i64 p.a) := fun s => s.cell (show b' < N from by have := hb.size; omega) e0
      have D1 : ∀ s : Bw N wr, s.v.cell? ⟨b, off + k * 2 + 1, none⟩ = some (.int .i64 p.b) := fun s => s.cell (show b < N from by have := hb.size; omega) c1
      have E1 : ∀ s : Bw N wr, s.v.cell? ⟨b', off' + k * 2 + 1, none⟩ = some (.int .i64 p.b) := fun s => s.cell (show b' < N from by have := hb.size; omega) e1
      clear c0 c1 e0 e1
      go_wp2_with fail
      refine wp_region_bw (Below.refl N _) (by kernel_rfl) (by kernel_rfl) ?_
      repeat (go_big_quiet_step ((go_at_call 66; exact bw_left hN (eqIntA2_same _ _))))
      refine wpQuiet_nil ?_
      rintro _ ⟨⟨wz, hwz⟩, rfl⟩
      have hbz := hb.trans (hwz.mono hNw)
      go_wp2_with fail
      go_roundw
      case rel => exact ⟨k + 1, by omega, by go_num, hbz⟩
      case measure => simp [intOf]; omega
    · go_wp2_with fail
      go_ret
      exact ⟨rfl, hb⟩


end Go.Proofs.Ytdllhdfoinobjaa
