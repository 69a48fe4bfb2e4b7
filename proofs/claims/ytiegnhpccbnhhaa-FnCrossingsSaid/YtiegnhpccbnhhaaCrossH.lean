/-
  This file proves contracts of SmallestFixed, of the program and of the reference.
  Conditions: each contract's own hypotheses (that a slice reads as a list of crossings, that it is not too long).
-/
import Derived.Test.YtiegnhpccbnhhaaCrossF
namespace Go.Proofs.Ytiegnhpccbnhhaa
open Go.RowKit
set_option linter.unusedSimpArgs false
set_option linter.unusedVariables false

/-- The least fixed number that tolerates a crossing. -/
def needF (p : GCrossing) (pc : Int) : Int := (mostI 0 (over p pc) + 99) / 100
/-- The least fixed number that tolerates the first k crossings. -/
def sfix (ps : List GCrossing) (pc : Int) : Nat → Int
  | 0 => 0
  | k + 1 => mostI (sfix ps pc k) (needF (gC ps k) pc)
theorem sfix_succ (ps : List GCrossing) (pc : Int) (k : Nat) : sfix ps pc (k + 1) = mostI (sfix ps pc k) (needF (gC ps k) pc) := rfl
def vSmallestFixed (ps : List GCrossing) (pc : Int) : Int × Bool :=
  if isCL ps = true ∧ inR pc 0 100 = true then (sfix ps pc ps.length, true) else (0, false)
theorem over_bound {p : GCrossing} {pc : Int} (hp : isCx p = true) (h : 0 ≤ pc ∧ pc ≤ 100) : -2000000 ≤ over p pc ∧ over p pc ≤ 2100000 := by
  have hb := isCx_bound hp
  have ha := absI_nonneg (p.ck - p.mn)
  have ha' := absI_le (n := p.ck - p.mn) (b := 21000) (by omega) (by omega)
  have hm : mostI 0 p.mn = max 0 p.mn := mostI_eq _ _
  have m1 : 0 ≤ pc * mostI 0 p.mn := Int.mul_nonneg h.1 (by omega)
  have m2 : pc * mostI 0 p.mn ≤ 100 * 20000 := Int.mul_le_mul h.2 (by omega) (by omega) (by omega)
  unfold over
  omega
theorem needF_bound {p : GCrossing} {pc : Int} (hp : isCx p = true) (h : 0 ≤ pc ∧ pc ≤ 100) : 0 ≤ needF p pc ∧ needF p pc ≤ 21001 := by
  have hb := over_bound hp h
  have hm : mostI 0 (over p pc) = max 0 (over p pc) := mostI_eq _ _
  unfold needF
  omega
theorem needF_tol {p : GCrossing} {pc fx : Int} (h : 0 ≤ fx) : tol fx pc p = decide (needF p pc ≤ fx) := by
  have hm : mostI 0 (over p pc) = max 0 (over p pc) := mostI_eq _ _
  rw [over_tol, Bool.eq_iff_iff]
  unfold needF
  simp
  omega
theorem sfix_bound {ps : List GCrossing} {pc : Int} (hc : isCL ps = true) (h : 0 ≤ pc ∧ pc ≤ 100) : ∀ k, k ≤ ps.length → 0 ≤ sfix ps pc k ∧ sfix ps pc k ≤ 21001 := by
  intro k
  induction k with
  | zero => intro _; exact ⟨Int.le_refl _, by unfold sfix; omega⟩
  | succ k ih =>
    intro hk
    have h1 := ih (by omega)
    have hp : ps[k]? = some (gC ps k) := by
      have : k < ps.length := by omega
      simp [gC, List.getD, this]
    have h2 := needF_bound (isCL_get hc hp) h
    rw [sfix_succ, mostI_eq]
    omega

theorem canTol_zero {ps : List GCrossing} {pc : Int} : canTol ps 0 pc = (isCL ps && inR pc 0 100) := by
  unfold canTol
  rw [show inR 0 0 500 = true from by decide, Bool.true_and]
theorem vSmall_no {ps : List GCrossing} {pc : Int} (h : (isCL ps && inR pc 0 100) = false) : vSmallestFixed ps pc = (0, false) := by
  unfold vSmallestFixed
  rw [if_neg (fun h' => by rw [h'.1, h'.2] at h; cases h)]
theorem vSmall_yes {ps : List GCrossing} {pc : Int} (h1 : isCL ps = true) (h2 : inR pc 0 100 = true) : vSmallestFixed ps pc = (sfix ps pc ps.length, true) := by
  unfold vSmallestFixed
  rw [if_pos ⟨h1, h2⟩]

set_option maxHeartbeats 4000000 in
set_option maxRecDepth 100000 in
theorem iSmallestFixed {A : Option Addr} {c lo hi : Nat} {ps : List GCrossing} {pc : Int} {w : World} (hr : RdC w lo hi A ps) (hl : ps.length ≤ 2097152) (hh : hi ≤ w.heap.size) (hcap : ps.length ≤ c) :
    Calls Try.prog 15 #[.slice A ps.length c, .int .i64 pc] w (RetIB (vSmallestFixed ps pc).1 (vSmallestFixed ps pc).2 w) := by
  by_cases h1 : canTol ps 0 pc = true
  rotate_left
  · have h1' : canTol ps 0 pc = false := by simpa using h1
    have HE := Lib.hid (vSmall_no (canTol_zero.symm.trans h1'))
    clear h1
    go_enter Try.func15, Try.ntmps15
    go_wp2_with fail
    refine (canTolerate_any hr hl hh hcap).mono ?_
    rintro e w1 ⟨rfl, B1⟩
    rw [h1']
    go_wp2_with fail
    go_ret2
    rw [HE.out]
    exact ⟨rfl, B1⟩
  have h2 := canTol_iff.1 h1
  have HE := Lib.hid (vSmall_yes h2.1 h2.2.2)
  have HC := Lib.hid h2.1
  have hpb := inR_true.1 h2.2.2
  clear h2
  go_enter Try.func15, Try.ntmps15
  go_wp2_with fail
  refine (canTolerate_any hr hl hh hcap).mono ?_
  rintro e w1 ⟨rfl, B1⟩
  rw [h1]
  clear h1
  go_wp2_with fail
  go_loopw [6, 15] (fun v i wr => ∃ k : Nat, k ≤ ps.length ∧ i = .int .i64 k ∧ v = .int .i64 (sfix ps pc k) ∧ Below w.heap.size w wr) (fun _ i _ => ps.length - (intOf i).toNat)
  case atStart => exact ⟨0, Nat.zero_le _, rfl, rfl, B1⟩
  case round =>
    obtain ⟨k, hk, rfl, rfl, hb⟩ := hrel
    have hsb := sfix_bound (pc := pc) HC.out hpb k hk
    by_cases hlt : k < ps.length
    rotate_left
    · obtain rfl : k = ps.length := by omega
      go_wp2_with fail
      go_ret2
      rw [HE.out]
      exact ⟨rfl, hb⟩
    obtain ⟨b, off, p, rfl, hblo, hbhi, hp, c0, c1, c2, c3⟩ := (hr.below hb hh).getCrossing hlt
    have hnb := needF_bound (isCL_get HC.out hp) hpb
    have HX := Lib.hid (isCL_get HC.out hp)
    have HS := Lib.hid (show sfix ps pc (k + 1) = mostI (sfix ps pc k) (needF p pc) from by rw [sfix_succ, gC_of hp])
    have q1 : (k : Int) < (ps.length : Int) := by omega
    clear hp
    generalize sfix ps pc k = s0 at hsb HS ⊢
    have hbx : Below w.heap.size w (wr.alloc (.cells #[.int .i64 p.ln, .int .i64 p.cr, .int .i64 p.mn, .int .i64 p.ck] 59)) := hb.trans ((below_alloc1 _ _).mono hb.size)
    have D := Crossing_cells p wr 59
    go_wp2_with fail
    generalize wr.alloc (.cells #[.int .i64 p.ln, .int .i64 p.cr, .int .i64 p.mn, .int .i64 p.ck] 59) = wx at D hbx ⊢
    obtain ⟨d0, d1, d2, d3⟩ := D
    obtain ⟨N, hNN⟩ : ∃ N, N = wx.heap.size := ⟨_, rfl⟩
    have hgN : wr.heap.size < N := by rw [hNN]; exact World.block_lt_of_cell? wx _ d0
    have hNw : w.heap.size ≤ N := by rw [hNN]; exact hbx.size
    clear c0 c1 c2 c3
    generalize hgb : wr.heap.size = gb at d0 d1 d2 d3 hgN ⊢
    go_loopw [6] (fun v wy => ∃ fx : Int, s0 ≤ fx ∧ (fx ≤ s0 ∨ fx ≤ needF p pc) ∧ v = .int .i64 fx ∧ Below N wx wy) (fun v _ => (needF p pc - intOf v).toNat)
    case atStart => exact ⟨s0, Int.le_refl _, .inl (Int.le_refl _), rfl, Below.refl _ _⟩
    case round =>
      obtain ⟨fx, hf1, hf2, rfl, hby⟩ := hrel
      have hbz : Below w.heap.size w _ := hbx.trans (hby.mono hNw)
      have e0 := (hby.cell (p := ⟨gb, 0, none⟩) hgN).trans d0
      have e1 := (hby.cell (p := ⟨gb, 1, none⟩) hgN).trans d1
      have e2 := (hby.cell (p := ⟨gb, 2, none⟩) hgN).trans d2
      have e3 := (hby.cell (p := ⟨gb, 3, none⟩) hgN).trans d3
      by_cases ht : needF p pc ≤ fx
      · have HT := Lib.hid (show tol fx pc p = true from by rw [needF_tol (by omega)]; simp [ht])
        go_wp2_with fail
        refine (isTolerated_any p fx pc _ HX.out (by omega) hpb).mono ?_
        rintro e w5 ⟨rfl, B5⟩
        rw [HT.out]
        have hb5 := hbz.trans (B5.mono hbz.size)
        go_wp2_with fail
        go_roundw
        case rel => exact ⟨k + 1, by omega, by go_num, by rw [HS.out, mostI_eq]; congr 1; omega, hb5⟩
        case measure => simp [intOf]; omega
      · have HT := Lib.hid (show tol fx pc p = false from by rw [needF_tol (by omega)]; simp; omega)
        go_wp2_with fail
        refine (isTolerated_any p fx pc _ HX.out (by omega) hpb).mono ?_
        rintro e w5 ⟨rfl, B5⟩
        rw [HT.out]
        have hb6 := hby.trans (B5.mono (by have := hby.size; omega))
        go_wp2_with fail
        go_roundw
        case rel => exact ⟨fx + 1, by omega, by omega, rfl, hb6⟩
        case measure => simp [intOf]; omega

set_option maxHeartbeats 4000000 in
set_option maxRecDepth 100000 in
theorem sSmallestFixed {A : Option Addr} {c lo hi : Nat} {ps : List GCrossing} {pc : Int} {w : World} (hr : RdC w lo hi A ps) (hl : ps.length ≤ 2097152) (hh : hi ≤ w.heap.size) :
    Calls Try.prog 13 #[.slice A ps.length c, .int .i64 pc] w (RetIB (vSmallestFixed ps pc).1 (vSmallestFixed ps pc).2 w) := by
  by_cases h1 : isCL ps = true
  rotate_left
  · have h1' : isCL ps = false := by simpa using h1
    have HE := Lib.hid (vSmall_no (ps := ps) (pc := pc) (by simp [h1']))
    clear h1
    go_enter Try.func13, Try.ntmps13
    go_wp2_with fail
    refine (l10Good_any hr hl hh).mono ?_
    rintro e w1 ⟨rfl, B1⟩
    go_wp2_with (go_at_call 52; refine (l1In_any _ _ _ _).mono ?_; rintro e w' ⟨rfl, rfl⟩)
    go_ret2
    rw [HE.out]
    exact ⟨rfl, B1⟩
  by_cases h2 : inR pc 0 100 = true
  rotate_left
  · have h2' : inR pc 0 100 = false := by simpa using h2
    have HE := Lib.hid (vSmall_no (ps := ps) (pc := pc) (by simp [h2']))
    clear h2
    go_enter Try.func13, Try.ntmps13
    go_wp2_with fail
    refine (l10Good_any hr hl hh).mono ?_
    rintro e w1 ⟨rfl, B1⟩
    go_wp2_with (go_at_call 52; refine (l1In_any _ _ _ _).mono ?_; rintro e w' ⟨rfl, rfl⟩)
    go_ret2
    rw [HE.out]
    exact ⟨rfl, B1⟩
  have HE := Lib.hid (vSmall_yes h1 h2)
  have HC := Lib.hid h1
  have hpb := inR_true.1 h2
  go_enter Try.func13, Try.ntmps13
  go_wp2_with fail
  refine (l10Good_any hr hl hh).mono ?_
  rintro e w1 ⟨rfl, B1⟩
  go_wp2_with (go_at_call 52; refine (l1In_any _ _ _ _).mono ?_; rintro e w' ⟨rfl, rfl⟩)
  clear h1 h2
  go_loopw [6, 7] (fun v i wr => ∃ k : Nat, k ≤ ps.length ∧ i = .int .i64 k ∧ v = .int .i64 (sfix ps pc k) ∧ Below w.heap.size w wr) (fun _ i _ => ps.length - (intOf i).toNat)
  case atStart => exact ⟨0, Nat.zero_le _, rfl, rfl, B1⟩
  case round =>
    obtain ⟨k, hk, rfl, rfl, hb⟩ := hrel
    have hsb := sfix_bound (pc := pc) HC.out hpb k hk
    by_cases hlt : k < ps.length
    rotate_left
    · obtain rfl : k = ps.length := by omega
      go_wp2_with fail
      go_ret2
      rw [HE.out]
      exact ⟨rfl, hb⟩
    obtain ⟨b, off, p, rfl, hblo, hbhi, hp, c0, c1, c2, c3⟩ := (hr.below hb hh).getCrossing hlt
    have hob := over_bound (isCL_get HC.out hp) hpb
    have HX := Lib.hid (isCL_get HC.out hp)
    have HS := Lib.hid (show sfix ps pc (k + 1) = mostI (sfix ps pc k) ((mostI 0 (over p pc) + 99) / 100) from by rw [sfix_succ, gC_of hp]; rfl)
    have q1 : (k : Int) < (ps.length : Int) := by omega
    have q2 : 0 ≤ mostI 0 (over p pc) ∧ mostI 0 (over p pc) ≤ 2100000 := by rw [mostI_eq]; omega
    clear hp
    generalize sfix ps pc k = s0 at hsb HS ⊢
    go_wp2_with fail
    refine (l10Over_any p pc _ HX.out hpb).mono ?_
    rintro e w5 ⟨rfl, B5⟩
    have hb5 := hb.trans (B5.mono hb.size)
    go_wp2_with (go_at_call 53; refine (l1Most_any _ _ _).mono ?_; rintro e w' ⟨rfl, rfl⟩)
    go_roundw
    case rel => exact ⟨k + 1, by omega, by go_num, by rw [HS.out], hb5⟩
    case measure => simp [intOf]; omega

end Go.Proofs.Ytiegnhpccbnhhaa
