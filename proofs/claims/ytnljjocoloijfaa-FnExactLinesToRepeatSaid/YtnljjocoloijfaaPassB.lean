/-
  This file proves contracts of the test of passes, of the program and of the reference.
  Conditions: each contract's own hypotheses.
-/
import Derived.Test.YtnljjocoloijfaaPassA
import Derived.Test.YtnljjocoloijfaaBw
namespace Go.Proofs.Ytnljjocoloijfaa
open Go.RowKit
set_option linter.unusedSimpArgs false
set_option linter.unusedVariables false

/-- The cells of a list of passes. -/
def passCells (ps : List GPass) : List Value := ps.flatMap GPass.cells
theorem passCells_length (ps : List GPass) : (passCells ps).length = ps.length * 6 := by
  unfold passCells
  induction ps with
  | nil => rfl
  | cons p ps ih => rw [List.flatMap_cons, List.length_append, ih, List.length_cons]; simp [GPass.cells]; omega
theorem passCells_get {ps : List GPass} {k j : Nat} {p : GPass} (hp : ps[k]? = some p) (hj : j < 6) : (passCells ps)[k * 6 + j]? = p.cells[j]? := by
  unfold passCells
  induction ps generalizing k with
  | nil => simp at hp
  | cons q ps ih =>
    have hq : q.cells.length = 6 := rfl
    rw [List.flatMap_cons]
    match k, hp with
    | 0, hp =>
      simp at hp
      subst hp
      rw [List.getElem?_append_left (by rw [hq]; omega)]
      congr 1
      omega
    | k + 1, hp =>
      simp at hp
      rw [List.getElem?_append_right (by rw [hq]; omega), hq, show (k + 1) * 6 + j - 6 = k * 6 + j by omega]
      exact ih hp

/-- A slice of passes: it reads as the list ps. -/
abbrev RdP (w : World) (lo hi : Nat) (A : Option Addr) (ps : List GPass) : Prop := Rd w lo hi 6 A ps.length (passCells ps)
/-- Pass k and its cells. -/
theorem Rd.getp {w : World} {lo hi k : Nat} {A : Option Addr} {ps : List GPass} (h : RdP w lo hi A ps) (hk : k < ps.length) :
    ∃ b off p, A = some ⟨b, off, none⟩ ∧ lo ≤ b ∧ b < hi ∧ ps[k]? = some p ∧ w.cell? ⟨b, off + k * 6, none⟩ = some (.int .i64 p.ln) ∧ w.cell? ⟨b, off + k * 6 + 1, none⟩ = some (.int .i64 p.bg) ∧ w.cell? ⟨b, off + k * 6 + 2, none⟩ = some (.int .i64 p.en) ∧
      w.cell? ⟨b, off + k * 6 + 3, none⟩ = some (.int .i64 p.pg) ∧ w.cell? ⟨b, off + k * 6 + 4, none⟩ = some (.int .i64 p.bd) ∧ w.cell? ⟨b, off + k * 6 + 5, none⟩ = some (.int .i64 p.cs) := by
  obtain ⟨b, off, e, h1, h2, hc⟩ := h.2 (by omega)
  have hp : ps[k]? = some ps[k] := List.getElem?_eq_getElem hk
  have g : ∀ j v, j < 6 → ps[k].cells[j]? = some v → w.cell? ⟨b, off + k * 6 + j, none⟩ = some v := fun j v hj hv => by
    rw [Nat.add_assoc]
    exact hc _ _ ((passCells_get hp hj).trans hv)
  exact ⟨b, off, ps[k], e, h1, h2, hp, g 0 _ (by omega) rfl, g 1 _ (by omega) rfl, g 2 _ (by omega) rfl, g 3 _ (by omega) rfl, g 4 _ (by omega) rfl, g 5 _ (by omega) rfl⟩

/-- Pass k is one, and begins no earlier than the one before it ends. -/
def pOk (ps : List GPass) (k : Nat) : Bool := (ps[k]?.any fun p => isPs p) && (k == 0 || (ps[k - 1]?.any fun q => ps[k]?.any fun p => decide (q.en ≤ p.bg)))
def isPL (ps : List GPass) : Bool := (List.range ps.length).all (pOk ps) && decide (ps.length ≤ 12)
theorem pOk_bad {ps : List GPass} {k : Nat} {p : GPass} (hp : ps[k]? = some p) (h : isPs p = false) : pOk ps k = false := by simp [pOk, hp, h]
theorem pOk_zero {ps : List GPass} {p : GPass} {k : Nat} (hk : k = 0) (hp : ps[k]? = some p) (h : isPs p = true) : pOk ps k = true := by subst hk; simp [pOk, hp, h]
theorem pOk_late {ps : List GPass} {k : Nat} {p q : GPass} (hk : 0 < k) (hp : ps[k]? = some p) (hq : ps[k - 1]? = some q) (h2 : p.bg < q.en) : pOk ps k = false := by
  simp [pOk, hp, hq]; intro _; exact ⟨by omega, h2⟩
theorem pOk_next {ps : List GPass} {k : Nat} {p q : GPass} (hp : ps[k]? = some p) (hq : ps[k - 1]? = some q) (h : isPs p = true) (h2 : q.en ≤ p.bg) : pOk ps k = true := by simp [pOk, hp, hq, h, h2]
theorem isPL_bad {ps : List GPass} {k : Nat} (hk : k < ps.length) (h : pOk ps k = false) : isPL ps = false := by
  unfold isPL
  rw [Bool.and_eq_false_iff, List.all_eq_false]
  exact .inl ⟨k, List.mem_range.2 hk, by rw [h]; exact Bool.false_ne_true⟩
theorem all_step {f : Nat → Bool} {k : Nat} (h : (List.range k).all f = true) (hk : f k = true) : (List.range (k + 1)).all f = true := by
  rw [List.range_succ, List.all_append, h]; simp [hk]

set_option maxHeartbeats 2000000 in
set_option maxRecDepth 100000 in
theorem arePasses_any {A : Option Addr} {c lo hi : Nat} {ps : List GPass} {w : World} (hr : RdP w lo hi A ps) (hl : ps.length ≤ 4194304) (hh : hi ≤ w.heap.size) :
    Calls Try.prog 12 #[.slice A ps.length c] w (RetB (isPL ps) w) := by
  go_enter Try.func12, Try.ntmps12
  go_wp2_with fail
  go_loopw [7] (fun i wr => ∃ k : Nat, k ≤ ps.length ∧ i = .int .i64 k ∧ (List.range k).all (pOk ps) = true ∧ Below w.heap.size w wr) (fun i _ => ps.length - (intOf i).toNat)
  case atStart => exact ⟨0, Nat.zero_le _, rfl, rfl, Below.refl _ _⟩
  case round =>
    obtain ⟨k, hk, rfl, hok, hb⟩ := hrel
    have HK := Lib.hid hok
    clear hok
    by_cases hlt : k < ps.length
    rotate_left
    · obtain rfl : k = ps.length := by omega
      have HE := Lib.hid (show isPL ps = decide (ps.length ≤ 12) from by unfold isPL; rw [HK.out, Bool.true_and])
      by_cases h12 : ps.length ≤ 12
      · have q1 : (ps.length : Int) ≤ 12 := by omega
        go_wp2_with fail
        go_ret
        rw [HE.out]
        exact ⟨by simp [h12], hb⟩
      · have q1 : ¬ ((ps.length : Int) ≤ 12) := by omega
        go_wp2_with fail
        go_ret
        rw [HE.out]
        exact ⟨by simp [h12], hb⟩
    obtain ⟨b, off, p, rfl, hblo, hbhi, hp, c0, c1, c2, c3, c4, c5⟩ := (hr.below hb hh).getp hlt
    have HP := Lib.hid hp
    have q1 : (k : Int) < (ps.length : Int) := by omega
    clear hp
    by_cases hps : isPs p = true
    rotate_left
    · have hps' : isPs p = false := by simpa using hps
      clear hps
      have HO := Lib.hid (pOk_bad HP.out hps')
      go_wp2_with fail
      have C := pass_cells p wr 46
      have hbx : Below w.heap.size w (wr.alloc (.cells #[.int .i64 p.ln, .int .i64 p.bg, .int .i64 p.en, .int .i64 p.pg, .int .i64 p.bd, .int .i64 p.cs] 46)) := hb.trans ((below_alloc1 _ _).mono hb.size)
      have hbw : Below wr.heap.size wr (wr.alloc (.cells #[.int .i64 p.ln, .int .i64 p.bg, .int .i64 p.en, .int .i64 p.pg, .int .i64 p.bd, .int .i64 p.cs] 46)) := below_alloc1 _ _
      have hN1 : wr.heap.size + 1 = (wr.alloc (.cells #[.int .i64 p.ln, .int .i64 p.bg, .int .i64 p.en, .int .i64 p.pg, .int .i64 p.bd, .int .i64 p.cs] 46)).heap.size := by simp
      generalize wr.alloc (.cells #[.int .i64 p.ln, .int .i64 p.bg, .int .i64 p.en, .int .i64 p.pg, .int .i64 p.bd, .int .i64 p.cs] 46) = wx at C hbx hbw hN1 ⊢
      obtain ⟨d0, d1, d2, d3, d4, d5⟩ := C
      obtain ⟨N, hNN⟩ : ∃ N, N = wx.heap.size := ⟨_, rfl⟩
      have hN : N ≤ wx.heap.size := by omega
      have hNw : w.heap.size ≤ N := by rw [hNN]; exact hbx.size
      have D0 : ∀ s : Bw N wx, s.v.cell? ⟨wr.heap.size, 0, none⟩ = some (.int .i64 p.ln) := fun s => s.cell (show wr.heap.size < N from by omega) d0
      have D1 : ∀ s : Bw N wx, s.v.cell? ⟨wr.heap.size, 1, none⟩ = some (.int .i64 p.bg) := fun s => s.cell (show wr.heap.size < N from by omega) d1
      have D2 : ∀ s : Bw N wx, s.v.cell? ⟨wr.heap.size, 2, none⟩ = some (.int .i64 p.en) := fun s => s.cell (show wr.heap.size < N from by omega) d2
      have D3 : ∀ s : Bw N wx, s.v.cell? ⟨wr.heap.size, 3, none⟩ = some (.int .i64 p.pg) := fun s => s.cell (show wr.heap.size < N from by omega) d3
      have D4 : ∀ s : Bw N wx, s.v.cell? ⟨wr.heap.size, 4, none⟩ = some (.int .i64 p.bd) := fun s => s.cell (show wr.heap.size < N from by omega) d4
      have D5 : ∀ s : Bw N wx, s.v.cell? ⟨wr.heap.size, 5, none⟩ = some (.int .i64 p.cs) := fun s => s.cell (show wr.heap.size < N from by omega) d5
      clear d0 d1 d2 d3 d4 d5 hN1 hbw c0 c1 c2 c3 c4 c5
      refine wp_region_bw (Below.refl N _) (by kernel_rfl) (by kernel_rfl) ?_
      repeat (go_big_quiet_step ((go_at_call 31; exact bw_left hN (isPass_any _ _))))
      refine wpQuiet_nil ?_
      rintro _ ⟨⟨wz, hwz⟩, rfl⟩
      have hbz := hbx.trans (hwz.mono hNw)
      go_wp2_with fail
      go_ret
      exact ⟨ret_bool (isPL_bad hlt HO.out).symm, hbz⟩
    rcases Nat.eq_zero_or_pos k with hz | hpos
    · have hd : decide (0 < k) = false := by simp; omega
      have HO := Lib.hid (pOk_zero hz HP.out hps)
      clear hz
      go_wp2_with fail
      have C := pass_cells p wr 46
      have hbx : Below w.heap.size w (wr.alloc (.cells #[.int .i64 p.ln, .int .i64 p.bg, .int .i64 p.en, .int .i64 p.pg, .int .i64 p.bd, .int .i64 p.cs] 46)) := hb.trans ((below_alloc1 _ _).mono hb.size)
      have hbw : Below wr.heap.size wr (wr.alloc (.cells #[.int .i64 p.ln, .int .i64 p.bg, .int .i64 p.en, .int .i64 p.pg, .int .i64 p.bd, .int .i64 p.cs] 46)) := below_alloc1 _ _
      have hN1 : wr.heap.size + 1 = (wr.alloc (.cells #[.int .i64 p.ln, .int .i64 p.bg, .int .i64 p.en, .int .i64 p.pg, .int .i64 p.bd, .int .i64 p.cs] 46)).heap.size := by simp
      generalize wr.alloc (.cells #[.int .i64 p.ln, .int .i64 p.bg, .int .i64 p.en, .int .i64 p.pg, .int .i64 p.bd, .int .i64 p.cs] 46) = wx at C hbx hbw hN1 ⊢
      obtain ⟨d0, d1, d2, d3, d4, d5⟩ := C
      obtain ⟨N, hNN⟩ : ∃ N, N = wx.heap.size := ⟨_, rfl⟩
      have hN : N ≤ wx.heap.size := by omega
      have hNw : w.heap.size ≤ N := by rw [hNN]; exact hbx.size
      have D0 : ∀ s : Bw N wx, s.v.cell? ⟨wr.heap.size, 0, none⟩ = some (.int .i64 p.ln) := fun s => s.cell (show wr.heap.size < N from by omega) d0
      have D1 : ∀ s : Bw N wx, s.v.cell? ⟨wr.heap.size, 1, none⟩ = some (.int .i64 p.bg) := fun s => s.cell (show wr.heap.size < N from by omega) d1
      have D2 : ∀ s : Bw N wx, s.v.cell? ⟨wr.heap.size, 2, none⟩ = some (.int .i64 p.en) := fun s => s.cell (show wr.heap.size < N from by omega) d2
      have D3 : ∀ s : Bw N wx, s.v.cell? ⟨wr.heap.size, 3, none⟩ = some (.int .i64 p.pg) := fun s => s.cell (show wr.heap.size < N from by omega) d3
      have D4 : ∀ s : Bw N wx, s.v.cell? ⟨wr.heap.size, 4, none⟩ = some (.int .i64 p.bd) := fun s => s.cell (show wr.heap.size < N from by omega) d4
      have D5 : ∀ s : Bw N wx, s.v.cell? ⟨wr.heap.size, 5, none⟩ = some (.int .i64 p.cs) := fun s => s.cell (show wr.heap.size < N from by omega) d5
      clear d0 d1 d2 d3 d4 d5 hN1 hbw c0 c1 c2 c3 c4 c5
      refine wp_region_bw (Below.refl N _) (by kernel_rfl) (by kernel_rfl) ?_
      repeat (go_big_quiet_step ((go_at_call 31; exact bw_left hN (isPass_any _ _))))
      refine wpQuiet_nil ?_
      rintro _ ⟨⟨wz, hwz⟩, rfl⟩
      have hbz := hbx.trans (hwz.mono hNw)
      go_wp2_with fail
      go_roundw
      case rel => exact ⟨k + 1, by omega, by go_num, all_step HK.out HO.out, hbz⟩
      case measure => simp [intOf]; omega
    obtain ⟨b', off', q, hA, _, _, hq, _, _, e2, _, _, _⟩ := (hr.below hb hh).getp (show k - 1 < ps.length by omega)
    obtain ⟨rfl, rfl⟩ : b = b' ∧ off = off' := by cases hA; exact ⟨rfl, rfl⟩
    have HQ := Lib.hid hq
    clear hA hq
    have g0 : (0 : Int) < (k : Int) := by omega
    have g2 : (0 : Int) ≤ (k : Int) - 1 := by omega
    have g2b : (1 : Int) ≤ (k : Int) := by omega
    have g3 : ((k : Int) - 1).toNat = k - 1 := by omega
    have g7 : (k : Int) - 1 < (ps.length : Int) := by omega
    have g4 : IntKind.i64.wrap ((k : Int) - 1) = (k : Int) - 1 := wr64 (by omega) (by omega)
    by_cases hov : p.bg < q.en
    · have HO := Lib.hid (pOk_late hpos HP.out HQ.out hov)
      go_wp2_with fail
      have C := pass_cells p wr 46
      have hbx : Below w.heap.size w (wr.alloc (.cells #[.int .i64 p.ln, .int .i64 p.bg, .int .i64 p.en, .int .i64 p.pg, .int .i64 p.bd, .int .i64 p.cs] 46)) := hb.trans ((below_alloc1 _ _).mono hb.size)
      have hbw : Below wr.heap.size wr (wr.alloc (.cells #[.int .i64 p.ln, .int .i64 p.bg, .int .i64 p.en, .int .i64 p.pg, .int .i64 p.bd, .int .i64 p.cs] 46)) := below_alloc1 _ _
      have hN1 : wr.heap.size + 1 = (wr.alloc (.cells #[.int .i64 p.ln, .int .i64 p.bg, .int .i64 p.en, .int .i64 p.pg, .int .i64 p.bd, .int .i64 p.cs] 46)).heap.size := by simp
      generalize wr.alloc (.cells #[.int .i64 p.ln, .int .i64 p.bg, .int .i64 p.en, .int .i64 p.pg, .int .i64 p.bd, .int .i64 p.cs] 46) = wx at C hbx hbw hN1 ⊢
      obtain ⟨d0, d1, d2, d3, d4, d5⟩ := C
      obtain ⟨N, hNN⟩ : ∃ N, N = wx.heap.size := ⟨_, rfl⟩
      have hN : N ≤ wx.heap.size := by omega
      have hNw : w.heap.size ≤ N := by rw [hNN]; exact hbx.size
      have D0 : ∀ s : Bw N wx, s.v.cell? ⟨wr.heap.size, 0, none⟩ = some (.int .i64 p.ln) := fun s => s.cell (show wr.heap.size < N from by omega) d0
      have D1 : ∀ s : Bw N wx, s.v.cell? ⟨wr.heap.size, 1, none⟩ = some (.int .i64 p.bg) := fun s => s.cell (show wr.heap.size < N from by omega) d1
      have D2 : ∀ s : Bw N wx, s.v.cell? ⟨wr.heap.size, 2, none⟩ = some (.int .i64 p.en) := fun s => s.cell (show wr.heap.size < N from by omega) d2
      have D3 : ∀ s : Bw N wx, s.v.cell? ⟨wr.heap.size, 3, none⟩ = some (.int .i64 p.pg) := fun s => s.cell (show wr.heap.size < N from by omega) d3
      have D4 : ∀ s : Bw N wx, s.v.cell? ⟨wr.heap.size, 4, none⟩ = some (.int .i64 p.bd) := fun s => s.cell (show wr.heap.size < N from by omega) d4
      have D5 : ∀ s : Bw N wx, s.v.cell? ⟨wr.heap.size, 5, none⟩ = some (.int .i64 p.cs) := fun s => s.cell (show wr.heap.size < N from by omega) d5
      have E2 : ∀ s : Bw N wx, s.v.cell? ⟨b, off + (k - 1) * 6 + 2, none⟩ = some (.int .i64 q.en) := fun s => s.cell (show b < N from by omega) ((hbw.cell (p := ⟨b, off + (k - 1) * 6 + 2, none⟩) (show b < wr.heap.size from by have := hb.size; omega)).trans e2)
      clear d0 d1 d2 d3 d4 d5 hN1 hbw c0 c1 c2 c3 c4 c5
      refine wp_region_bw (Below.refl N _) (by kernel_rfl) (by kernel_rfl) ?_
      repeat (go_big_quiet_step ((go_at_call 31; exact bw_left hN (isPass_any _ _))))
      refine wpQuiet_nil ?_
      rintro _ ⟨⟨wz, hwz⟩, rfl⟩
      have hbz := hbx.trans (hwz.mono hNw)
      go_wp2_with fail
      go_ret
      exact ⟨ret_bool (isPL_bad hlt HO.out).symm, hbz⟩
    · have hov' : q.en ≤ p.bg := by omega
      clear hov
      have HO := Lib.hid (pOk_next HP.out HQ.out hps hov')
      go_wp2_with fail
      have C := pass_cells p wr 46
      have hbx : Below w.heap.size w (wr.alloc (.cells #[.int .i64 p.ln, .int .i64 p.bg, .int .i64 p.en, .int .i64 p.pg, .int .i64 p.bd, .int .i64 p.cs] 46)) := hb.trans ((below_alloc1 _ _).mono hb.size)
      have hbw : Below wr.heap.size wr (wr.alloc (.cells #[.int .i64 p.ln, .int .i64 p.bg, .int .i64 p.en, .int .i64 p.pg, .int .i64 p.bd, .int .i64 p.cs] 46)) := below_alloc1 _ _
      have hN1 : wr.heap.size + 1 = (wr.alloc (.cells #[.int .i64 p.ln, .int .i64 p.bg, .int .i64 p.en, .int .i64 p.pg, .int .i64 p.bd, .int .i64 p.cs] 46)).heap.size := by simp
      generalize wr.alloc (.cells #[.int .i64 p.ln, .int .i64 p.bg, .int .i64 p.en, .int .i64 p.pg, .int .i64 p.bd, .int .i64 p.cs] 46) = wx at C hbx hbw hN1 ⊢
      obtain ⟨d0, d1, d2, d3, d4, d5⟩ := C
      obtain ⟨N, hNN⟩ : ∃ N, N = wx.heap.size := ⟨_, rfl⟩
      have hN : N ≤ wx.heap.size := by omega
      have hNw : w.heap.size ≤ N := by rw [hNN]; exact hbx.size
      have D0 : ∀ s : Bw N wx, s.v.cell? ⟨wr.heap.size, 0, none⟩ = some (.int .i64 p.ln) := fun s => s.cell (show wr.heap.size < N from by omega) d0
      have D1 : ∀ s : Bw N wx, s.v.cell? ⟨wr.heap.size, 1, none⟩ = some (.int .i64 p.bg) := fun s => s.cell (show wr.heap.size < N from by omega) d1
      have D2 : ∀ s : Bw N wx, s.v.cell? ⟨wr.heap.size, 2, none⟩ = some (.int .i64 p.en) := fun s => s.cell (show wr.heap.size < N from by omega) d2
      have D3 : ∀ s : Bw N wx, s.v.cell? ⟨wr.heap.size, 3, none⟩ = some (.int .i64 p.pg) := fun s => s.cell (show wr.heap.size < N from by omega) d3
      have D4 : ∀ s : Bw N wx, s.v.cell? ⟨wr.heap.size, 4, none⟩ = some (.int .i64 p.bd) := fun s => s.cell (show wr.heap.size < N from by omega) d4
      have D5 : ∀ s : Bw N wx, s.v.cell? ⟨wr.heap.size, 5, none⟩ = some (.int .i64 p.cs) := fun s => s.cell (show wr.heap.size < N from by omega) d5
      have E2 : ∀ s : Bw N wx, s.v.cell? ⟨b, off + (k - 1) * 6 + 2, none⟩ = some (.int .i64 q.en) := fun s => s.cell (show b < N from by omega) ((hbw.cell (p := ⟨b, off + (k - 1) * 6 + 2, none⟩) (show b < wr.heap.size from by have := hb.size; omega)).trans e2)
      clear d0 d1 d2 d3 d4 d5 hN1 hbw c0 c1 c2 c3 c4 c5
      refine wp_region_bw (Below.refl N _) (by kernel_rfl) (by kernel_rfl) ?_
      repeat (go_big_quiet_step ((go_at_call 31; exact bw_left hN (isPass_any _ _))))
      refine wpQuiet_nil ?_
      rintro _ ⟨⟨wz, hwz⟩, rfl⟩
      have hbz := hbx.trans (hwz.mono hNw)
      go_wp2_with fail
      go_roundw
      case rel => exact ⟨k + 1, by omega, by go_num, all_step HK.out HO.out, hbz⟩
      case measure => simp [intOf]; omega

set_option maxHeartbeats 2000000 in
set_option maxRecDepth 100000 in
theorem l11Good_any {A : Option Addr} {c lo hi : Nat} {ps : List GPass} {w : World} (hr : RdP w lo hi A ps) (hl : ps.length ≤ 4194304) (hh : hi ≤ w.heap.size) :
    Calls Try.prog 29 #[.slice A ps.length c] w (RetB (isPL ps) w) := by
  go_enter Try.func29, Try.ntmps29
  go_wp2_with fail
  go_loopw [3] (fun i wr => ∃ k : Nat, k ≤ ps.length ∧ i = .int .i64 k ∧ (List.range k).all (pOk ps) = true ∧ Below w.heap.size w wr) (fun i _ => ps.length - (intOf i).toNat)
  case atStart => exact ⟨0, Nat.zero_le _, rfl, rfl, Below.refl _ _⟩
  case round =>
    obtain ⟨k, hk, rfl, hok, hb⟩ := hrel
    have HK := Lib.hid hok
    clear hok
    by_cases hlt : k < ps.length
    rotate_left
    · obtain rfl : k = ps.length := by omega
      have HE := Lib.hid (show isPL ps = decide (ps.length ≤ 12) from by unfold isPL; rw [HK.out, Bool.true_and])
      by_cases h12 : ps.length ≤ 12
      · have q1 : (ps.length : Int) ≤ 12 := by omega
        go_wp2_with fail
        go_ret
        rw [HE.out]
        exact ⟨by simp [h12], hb⟩
      · have q1 : ¬ ((ps.length : Int) ≤ 12) := by omega
        go_wp2_with fail
        go_ret
        rw [HE.out]
        exact ⟨by simp [h12], hb⟩
    obtain ⟨b, off, p, rfl, hblo, hbhi, hp, c0, c1, c2, c3, c4, c5⟩ := (hr.below hb hh).getp hlt
    have HP := Lib.hid hp
    have q1 : (k : Int) < (ps.length : Int) := by omega
    clear hp
    by_cases hps : isPs p = true
    rotate_left
    · have hps' : isPs p = false := by simpa using hps
      clear hps
      have HO := Lib.hid (pOk_bad HP.out hps')
      go_wp2_with fail
      obtain ⟨N, hNN⟩ : ∃ N, N = wr.heap.size := ⟨_, rfl⟩
      have hN : N ≤ wr.heap.size := by omega
      have hNw : w.heap.size ≤ N := by rw [hNN]; exact hb.size
      have hbx := hb
      have D0 : ∀ s : Bw N wr, s.v.cell? ⟨b, off + k * 6, none⟩ = some (.int .i64 p.ln) := fun s => s.cell (show b < N from by omega) c0
      have D1 : ∀ s : Bw N wr, s.v.cell? ⟨b, off + k * 6 + 1, none⟩ = some (.int .i64 p.bg) := fun s => s.cell (show b < N from by omega) c1
      have D2 : ∀ s : Bw N wr, s.v.cell? ⟨b, off + k * 6 + 2, none⟩ = some (.int .i64 p.en) := fun s => s.cell (show b < N from by omega) c2
      have D3 : ∀ s : Bw N wr, s.v.cell? ⟨b, off + k * 6 + 3, none⟩ = some (.int .i64 p.pg) := fun s => s.cell (show b < N from by omega) c3
      have D4 : ∀ s : Bw N wr, s.v.cell? ⟨b, off + k * 6 + 4, none⟩ = some (.int .i64 p.bd) := fun s => s.cell (show b < N from by omega) c4
      have D5 : ∀ s : Bw N wr, s.v.cell? ⟨b, off + k * 6 + 5, none⟩ = some (.int .i64 p.cs) := fun s => s.cell (show b < N from by omega) c5
      clear c0 c1 c2 c3 c4 c5
      refine wp_region_bw (Below.refl N _) (by kernel_rfl) (by kernel_rfl) ?_
      repeat (go_big_quiet_step ((go_at_call 48; exact bw_left hN (l11One_any _ _))))
      refine wpQuiet_nil ?_
      rintro _ ⟨⟨wz, hwz⟩, rfl⟩
      have hbz := hbx.trans (hwz.mono hNw)
      go_wp2_with fail
      go_ret
      exact ⟨ret_bool (isPL_bad hlt HO.out).symm, hbz⟩
    rcases Nat.eq_zero_or_pos k with hz | hpos
    · have hd : decide (0 < k) = false := by simp; omega
      have HO := Lib.hid (pOk_zero hz HP.out hps)
      clear hz
      go_wp2_with fail
      obtain ⟨N, hNN⟩ : ∃ N, N = wr.heap.size := ⟨_, rfl⟩
      have hN : N ≤ wr.heap.size := by omega
      have hNw : w.heap.size ≤ N := by rw [hNN]; exact hb.size
      have hbx := hb
      have D0 : ∀ s : Bw N wr, s.v.cell? ⟨b, off + k * 6, none⟩ = some (.int .i64 p.ln) := fun s => s.cell (show b < N from by omega) c0
      have D1 : ∀ s : Bw N wr, s.v.cell? ⟨b, off + k * 6 + 1, none⟩ = some (.int .i64 p.bg) := fun s => s.cell (show b < N from by omega) c1
      have D2 : ∀ s : Bw N wr, s.v.cell? ⟨b, off + k * 6 + 2, none⟩ = some (.int .i64 p.en) := fun s => s.cell (show b < N from by omega) c2
      have D3 : ∀ s : Bw N wr, s.v.cell? ⟨b, off + k * 6 + 3, none⟩ = some (.int .i64 p.pg) := fun s => s.cell (show b < N from by omega) c3
      have D4 : ∀ s : Bw N wr, s.v.cell? ⟨b, off + k * 6 + 4, none⟩ = some (.int .i64 p.bd) := fun s => s.cell (show b < N from by omega) c4
      have D5 : ∀ s : Bw N wr, s.v.cell? ⟨b, off + k * 6 + 5, none⟩ = some (.int .i64 p.cs) := fun s => s.cell (show b < N from by omega) c5
      clear c0 c1 c2 c3 c4 c5
      refine wp_region_bw (Below.refl N _) (by kernel_rfl) (by kernel_rfl) ?_
      repeat (go_big_quiet_step ((go_at_call 48; exact bw_left hN (l11One_any _ _))))
      refine wpQuiet_nil ?_
      rintro _ ⟨⟨wz, hwz⟩, rfl⟩
      have hbz := hbx.trans (hwz.mono hNw)
      go_wp2_with fail
      go_roundw
      case rel => exact ⟨k + 1, by omega, by go_num, all_step HK.out HO.out, hbz⟩
      case measure => simp [intOf]; omega
    obtain ⟨b', off', q, hA, _, _, hq, _, _, e2, _, _, _⟩ := (hr.below hb hh).getp (show k - 1 < ps.length by omega)
    obtain ⟨rfl, rfl⟩ : b = b' ∧ off = off' := by cases hA; exact ⟨rfl, rfl⟩
    have HQ := Lib.hid hq
    clear hA hq
    have g0 : (0 : Int) < (k : Int) := by omega
    have g2 : (0 : Int) ≤ (k : Int) - 1 := by omega
    have g2b : (1 : Int) ≤ (k : Int) := by omega
    have g3 : ((k : Int) - 1).toNat = k - 1 := by omega
    have g7 : (k : Int) - 1 < (ps.length : Int) := by omega
    have g4 : IntKind.i64.wrap ((k : Int) - 1) = (k : Int) - 1 := wr64 (by omega) (by omega)
    by_cases hov : p.bg < q.en
    · have HO := Lib.hid (pOk_late hpos HP.out HQ.out hov)
      go_wp2_with fail
      obtain ⟨N, hNN⟩ : ∃ N, N = wr.heap.size := ⟨_, rfl⟩
      have hN : N ≤ wr.heap.size := by omega
      have hNw : w.heap.size ≤ N := by rw [hNN]; exact hb.size
      have hbx := hb
      have D0 : ∀ s : Bw N wr, s.v.cell? ⟨b, off + k * 6, none⟩ = some (.int .i64 p.ln) := fun s => s.cell (show b < N from by omega) c0
      have D1 : ∀ s : Bw N wr, s.v.cell? ⟨b, off + k * 6 + 1, none⟩ = some (.int .i64 p.bg) := fun s => s.cell (show b < N from by omega) c1
      have D2 : ∀ s : Bw N wr, s.v.cell? ⟨b, off + k * 6 + 2, none⟩ = some (.int .i64 p.en) := fun s => s.cell (show b < N from by omega) c2
      have D3 : ∀ s : Bw N wr, s.v.cell? ⟨b, off + k * 6 + 3, none⟩ = some (.int .i64 p.pg) := fun s => s.cell (show b < N from by omega) c3
      have D4 : ∀ s : Bw N wr, s.v.cell? ⟨b, off + k * 6 + 4, none⟩ = some (.int .i64 p.bd) := fun s => s.cell (show b < N from by omega) c4
      have D5 : ∀ s : Bw N wr, s.v.cell? ⟨b, off + k * 6 + 5, none⟩ = some (.int .i64 p.cs) := fun s => s.cell (show b < N from by omega) c5
      have E2 : ∀ s : Bw N wr, s.v.cell? ⟨b, off + (k - 1) * 6 + 2, none⟩ = some (.int .i64 q.en) := fun s => s.cell (show b < N from by omega) e2
      clear c0 c1 c2 c3 c4 c5
      refine wp_region_bw (Below.refl N _) (by kernel_rfl) (by kernel_rfl) ?_
      repeat (go_big_quiet_step ((go_at_call 48; exact bw_left hN (l11One_any _ _))))
      refine wpQuiet_nil ?_
      rintro _ ⟨⟨wz, hwz⟩, rfl⟩
      have hbz := hbx.trans (hwz.mono hNw)
      go_wp2_with fail
      go_ret
      exact ⟨ret_bool (isPL_bad hlt HO.out).symm, hbz⟩
    · have hov' : q.en ≤ p.bg := by omega
      clear hov
      have HO := Lib.hid (pOk_next HP.out HQ.out hps hov')
      go_wp2_with fail
      obtain ⟨N, hNN⟩ : ∃ N, N = wr.heap.size := ⟨_, rfl⟩
      have hN : N ≤ wr.heap.size := by omega
      have hNw : w.heap.size ≤ N := by rw [hNN]; exact hb.size
      have hbx := hb
      have D0 : ∀ s : Bw N wr, s.v.cell? ⟨b, off + k * 6, none⟩ = some (.int .i64 p.ln) := fun s => s.cell (show b < N from by omega) c0
      have D1 : ∀ s : Bw N wr, s.v.cell? ⟨b, off + k * 6 + 1, none⟩ = some (.int .i64 p.bg) := fun s => s.cell (show b < N from by omega) c1
      have D2 : ∀ s : Bw N wr, s.v.cell? ⟨b, off + k * 6 + 2, none⟩ = some (.int .i64 p.en) := fun s => s.cell (show b < N from by omega) c2
      have D3 : ∀ s : Bw N wr, s.v.cell? ⟨b, off + k * 6 + 3, none⟩ = some (.int .i64 p.pg) := fun s => s.cell (show b < N from by omega) c3
      have D4 : ∀ s : Bw N wr, s.v.cell? ⟨b, off + k * 6 + 4, none⟩ = some (.int .i64 p.bd) := fun s => s.cell (show b < N from by omega) c4
      have D5 : ∀ s : Bw N wr, s.v.cell? ⟨b, off + k * 6 + 5, none⟩ = some (.int .i64 p.cs) := fun s => s.cell (show b < N from by omega) c5
      have E2 : ∀ s : Bw N wr, s.v.cell? ⟨b, off + (k - 1) * 6 + 2, none⟩ = some (.int .i64 q.en) := fun s => s.cell (show b < N from by omega) e2
      clear c0 c1 c2 c3 c4 c5
      refine wp_region_bw (Below.refl N _) (by kernel_rfl) (by kernel_rfl) ?_
      repeat (go_big_quiet_step ((go_at_call 48; exact bw_left hN (l11One_any _ _))))
      refine wpQuiet_nil ?_
      rintro _ ⟨⟨wz, hwz⟩, rfl⟩
      have hbz := hbx.trans (hwz.mono hNw)
      go_wp2_with fail
      go_roundw
      case rel => exact ⟨k + 1, by omega, by go_num, all_step HK.out HO.out, hbz⟩
      case measure => simp [intOf]; omega

end Go.Proofs.Ytnljjocoloijfaa
