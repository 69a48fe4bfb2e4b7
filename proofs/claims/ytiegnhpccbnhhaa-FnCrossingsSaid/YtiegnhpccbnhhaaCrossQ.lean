/-
  This file proves contracts of GreatestDifference, of the program and of the reference.
  Conditions: each contract's own hypotheses (that a slice reads as a list of crossings, that it is not too long).
-/
import Derived.Test.YtiegnhpccbnhhaaCrossK
namespace Go.Proofs.Ytiegnhpccbnhhaa
open Go.RowKit
set_option linter.unusedSimpArgs false
set_option linter.unusedVariables false

/-- The difference of crossing k. -/
def dC (ps : List GCrossing) (k : Nat) : Int := (gC ps k).ck - (gC ps k).mn
/-- The index of the greatest difference of the first k crossings. -/
def gIdx (ps : List GCrossing) : Nat → Nat
  | 0 => 0
  | k + 1 => if absI (dC ps (gIdx ps k)) < absI (dC ps k) then k else gIdx ps k
theorem gIdx_succ (ps : List GCrossing) (k : Nat) : gIdx ps (k + 1) = if absI (dC ps (gIdx ps k)) < absI (dC ps k) then k else gIdx ps k := rfl
theorem gIdx_lt {ps : List GCrossing} (k : Nat) (h : 0 < ps.length) (hk : k ≤ ps.length) : gIdx ps k < ps.length := by
  induction k with
  | zero => exact h
  | succ k ih => rw [gIdx_succ]; split; omega; exact ih (by omega)
theorem gIdx_one (ps : List GCrossing) : gIdx ps 1 = 0 := by rw [gIdx_succ]; simp [gIdx]
theorem gIdx_most {ps : List GCrossing} (k : Nat) : ∀ i, i < k → absI (dC ps i) ≤ absI (dC ps (gIdx ps k)) := by
  induction k with
  | zero => intro i hi; omega
  | succ k ih =>
    intro i hi
    rw [gIdx_succ]
    split
    · rename_i hc
      rcases Nat.lt_or_ge i k with h | h
      · have := ih i h; omega
      · obtain rfl : i = k := by omega
        exact Int.le_refl _
    · rename_i hc
      rcases Nat.lt_or_ge i k with h | h
      · exact ih i h
      · obtain rfl : i = k := by omega
        omega
def vGreatestDifference (ps : List GCrossing) : Int × Int × Bool := if isCL ps = true ∧ 0 < ps.length then ((gIdx ps ps.length : Int), dC ps (gIdx ps ps.length), true) else (0, 0, false)
theorem dC_of {ps : List GCrossing} {k : Nat} {p : GCrossing} (h : ps[k]? = some p) : dC ps k = p.ck - p.mn := by rw [dC, gC_of h]

set_option maxHeartbeats 4000000 in
set_option maxRecDepth 100000 in
theorem iGreatestDifference {A : Option Addr} {c lo hi : Nat} {ps : List GCrossing} {w : World} (hr : RdC w lo hi A ps) (hl : ps.length ≤ 2097152) (hh : hi ≤ w.heap.size) (hcap : ps.length ≤ c) :
    Calls Try.prog 43 #[.slice A ps.length c] w (RetIIB (vGreatestDifference ps).1 (vGreatestDifference ps).2.1 (vGreatestDifference ps).2.2 w) := by
  by_cases h1 : isCL ps = true
  rotate_left
  · have h1' : isCL ps = false := by simpa using h1
    have HE := Lib.hid (show vGreatestDifference ps = (0, 0, false) from by unfold vGreatestDifference; rw [if_neg (by simp [h1'])])
    clear h1
    go_enter Try.func43, Try.ntmps43
    go_wp2_with fail
    refine (areCrossings_any hr hl hh hcap).mono ?_
    rintro e w1 ⟨rfl, B1⟩
    go_wp2_with fail
    go_ret3
    rw [HE.out]
    exact ⟨rfl, B1⟩
  by_cases h2 : 0 < ps.length
  rotate_left
  · have h2' := ne_len h2
    have HE := Lib.hid (show vGreatestDifference ps = (0, 0, false) from by unfold vGreatestDifference; rw [if_neg (fun h => h2 h.2)])
    clear h2
    go_enter Try.func43, Try.ntmps43
    go_wp2_with fail
    refine (areCrossings_any hr hl hh hcap).mono ?_
    rintro e w1 ⟨rfl, B1⟩
    go_wp2_with fail
    go_ret3
    rw [HE.out]
    exact ⟨rfl, B1⟩
  have HE := Lib.hid (show vGreatestDifference ps = ((gIdx ps ps.length : Int), dC ps (gIdx ps ps.length), true) from by unfold vGreatestDifference; rw [if_pos ⟨h1, h2⟩])
  have h2' := eq_len h2
  have H1 := Lib.hid h1
  go_enter Try.func43, Try.ntmps43
  go_wp2_with fail
  refine (areCrossings_any hr hl hh hcap).mono ?_
  rintro e w1 ⟨rfl, B1⟩
  go_wp2_with fail
  clear h1 h2'
  go_loopw [5, 18] (fun t i wr => ∃ k : Nat, k ≤ ps.length ∧ i = .int .i64 k ∧ t = .int .i64 (gIdx ps k) ∧ Below w.heap.size w wr) (fun _ i _ => ps.length - (intOf i).toNat)
  case atStart => exact ⟨0, Nat.zero_le _, rfl, rfl, B1⟩
  case round =>
    obtain ⟨k, hk, rfl, rfl, hb⟩ := hrel
    have hg := gIdx_lt k h2 hk
    obtain ⟨bi, hbi⟩ : ∃ bi, bi = gIdx ps k := ⟨_, rfl⟩
    rw [← hbi] at hg ⊢
    have HBI := Lib.hid hbi
    clear hbi
    obtain ⟨b, off, q, rfl, hblo, hbhi, hq, e0, e1, e2, e3⟩ := (hr.below hb hh).getCrossing hg
    have HQ := Lib.hid hq
    have hqb := isCx_bound (isCL_get H1.out hq)
    have HXQ := Lib.hid (isCL_get H1.out hq)
    have q3 : IntKind.i64.wrap (q.ck - q.mn) = q.ck - q.mn := wr64 (by omega) (by omega)
    have q4 : (bi : Int) < (ps.length : Int) := by omega
    clear hq
    by_cases hlt : k < ps.length
    rotate_left
    · obtain rfl : k = ps.length := by omega
      have HDQ := Lib.hid (show dC ps (gIdx ps ps.length) = q.ck - q.mn from by rw [← HBI.out]; exact dC_of HQ.out)
      go_wp2_with fail
      go_quiet (fail)
      go_wp2_with fail
      go_ret3
      rw [HE.out, ← HBI.out, dC_of HQ.out]
      exact ⟨rfl, below_drewN hb _⟩
    obtain ⟨b', off', p, hA, _, _, hp, c0, c1, c2, c3⟩ := (hr.below hb hh).getCrossing hlt
    obtain ⟨rfl, rfl⟩ : b = b' ∧ off = off' := by cases hA; exact ⟨rfl, rfl⟩
    have hpb := isCx_bound (isCL_get H1.out hp)
    have HXP := Lib.hid (isCL_get H1.out hp)
    have HS := Lib.hid (show gIdx ps (k + 1) = if absI (q.ck - q.mn) < absI (p.ck - p.mn) then k else bi from by rw [gIdx_succ, ← HBI.out, dC_of HQ.out, dC_of hp])
    have q1 : (k : Int) < (ps.length : Int) := by omega
    have q2 : IntKind.i64.wrap (p.ck - p.mn) = p.ck - p.mn := wr64 (by omega) (by omega)
    clear hA hp
    obtain ⟨u, hu⟩ : ∃ u, absI (p.ck - p.mn) = u := ⟨_, rfl⟩
    obtain ⟨v, hv⟩ : ∃ v, absI (q.ck - q.mn) = v := ⟨_, rfl⟩
    rw [hu, hv] at HS
    have HU := Lib.hid hu
    have HV := Lib.hid hv
    clear hu hv
    have hbx : Below w.heap.size w (wr.alloc (.cells #[.int .i64 p.ln, .int .i64 p.cr, .int .i64 p.mn, .int .i64 p.ck] 59)) := hb.trans ((below_alloc1 _ _).mono hb.size)
    have D := Crossing_cells p wr 59
    have k2 := ((below_alloc1 wr (.cells #[.int .i64 p.ln, .int .i64 p.cr, .int .i64 p.mn, .int .i64 p.ck] 59)).cell (p := ⟨b, off + bi * 4 + 2, none⟩) (World.block_lt_of_cell? wr _ e2)).trans e2
    have k3 := ((below_alloc1 wr (.cells #[.int .i64 p.ln, .int .i64 p.cr, .int .i64 p.mn, .int .i64 p.ck] 59)).cell (p := ⟨b, off + bi * 4 + 3, none⟩) (World.block_lt_of_cell? wr _ e3)).trans e3
    go_wp2_with fail
    generalize wr.alloc (.cells #[.int .i64 p.ln, .int .i64 p.cr, .int .i64 p.mn, .int .i64 p.ck] 59) = wx at D hbx k2 k3 ⊢
    obtain ⟨d0, d1, d2, d3⟩ := D
    clear e0 e1 e2 e3 c0 c1 c2 c3
    have HCP := Lib.hid (fun (w : World) => (absOf_any (p.ck - p.mn) w (by omega) (by omega)))
    have HCQ := Lib.hid (fun (w : World) => (absOf_any (q.ck - q.mn) w (by omega) (by omega)))
    rw [HU.out] at HCP
    rw [HV.out] at HCQ
    go_quiet ((first | (go_at_call 68; exact quiet_left (HCP.out _)) | (go_at_call 68; exact quiet_left (HCQ.out _))))
    by_cases hc : v < u
    · have HS2 := Lib.hid (show gIdx ps (k + 1) = k from by rw [HS.out, if_pos hc])
      go_wp2_with fail
      go_roundw
      case rel => exact ⟨k + 1, by omega, by go_num, by rw [HS2.out], below_drewN hbx _⟩
      case measure => simp [intOf]; omega
    · have HS2 := Lib.hid (show gIdx ps (k + 1) = bi from by rw [HS.out, if_neg hc])
      go_wp2_with fail
      go_roundw
      case rel => exact ⟨k + 1, by omega, by go_num, by rw [HS2.out], below_drewN hbx _⟩
      case measure => simp [intOf]; omega

set_option maxHeartbeats 4000000 in
set_option maxRecDepth 100000 in
theorem sGreatestDifference {A : Option Addr} {c lo hi : Nat} {ps : List GCrossing} {w : World} (hr : RdC w lo hi A ps) (hl : ps.length ≤ 2097152) (hh : hi ≤ w.heap.size) :
    Calls Try.prog 44 #[.slice A ps.length c] w (RetIIB (vGreatestDifference ps).1 (vGreatestDifference ps).2.1 (vGreatestDifference ps).2.2 w) := by
  by_cases h1 : isCL ps = true
  rotate_left
  · have h1' : isCL ps = false := by simpa using h1
    have HE := Lib.hid (show vGreatestDifference ps = (0, 0, false) from by unfold vGreatestDifference; rw [if_neg (by simp [h1'])])
    clear h1
    go_enter Try.func44, Try.ntmps44
    go_wp2_with fail
    refine (l10Good_any hr hl hh).mono ?_
    rintro e w1 ⟨rfl, B1⟩
    go_wp2_with fail
    go_ret3
    rw [HE.out]
    exact ⟨rfl, B1⟩
  by_cases h2 : 0 < ps.length
  rotate_left
  · have h2' := ne_len h2
    have HE := Lib.hid (show vGreatestDifference ps = (0, 0, false) from by unfold vGreatestDifference; rw [if_neg (fun h => h2 h.2)])
    clear h2
    go_enter Try.func44, Try.ntmps44
    go_wp2_with fail
    refine (l10Good_any hr hl hh).mono ?_
    rintro e w1 ⟨rfl, B1⟩
    go_wp2_with fail
    go_ret3
    rw [HE.out]
    exact ⟨rfl, B1⟩
  have HE := Lib.hid (show vGreatestDifference ps = ((gIdx ps ps.length : Int), dC ps (gIdx ps ps.length), true) from by unfold vGreatestDifference; rw [if_pos ⟨h1, h2⟩])
  have h2' := eq_len h2
  have H1 := Lib.hid h1
  go_enter Try.func44, Try.ntmps44
  go_wp2_with fail
  refine (l10Good_any hr hl hh).mono ?_
  rintro e w1 ⟨rfl, B1⟩
  go_wp2_with fail
  clear h1 h2'
  go_loopw [5, 6] (fun t i wr => ∃ k : Nat, 1 ≤ k ∧ k ≤ ps.length ∧ i = .int .i64 k ∧ t = .int .i64 (gIdx ps k) ∧ Below w.heap.size w wr) (fun _ i _ => ps.length - (intOf i).toNat)
  case atStart => exact ⟨1, Nat.le_refl _, h2, rfl, by rw [gIdx_one]; rfl, B1⟩
  case round =>
    obtain ⟨k, hk1, hk, rfl, rfl, hb⟩ := hrel
    have hg := gIdx_lt k h2 hk
    obtain ⟨bi, hbi⟩ : ∃ bi, bi = gIdx ps k := ⟨_, rfl⟩
    rw [← hbi] at hg ⊢
    have HBI := Lib.hid hbi
    clear hbi
    obtain ⟨b, off, q, rfl, hblo, hbhi, hq, e0, e1, e2, e3⟩ := (hr.below hb hh).getCrossing hg
    have HQ := Lib.hid hq
    have hqb := isCx_bound (isCL_get H1.out hq)
    have HXQ := Lib.hid (isCL_get H1.out hq)
    have q3 : IntKind.i64.wrap (q.ck - q.mn) = q.ck - q.mn := wr64 (by omega) (by omega)
    have q4 : (bi : Int) < (ps.length : Int) := by omega
    clear hq
    by_cases hlt : k < ps.length
    rotate_left
    · obtain rfl : k = ps.length := by omega
      have HDQ := Lib.hid (show dC ps (gIdx ps ps.length) = q.ck - q.mn from by rw [← HBI.out]; exact dC_of HQ.out)
      go_wp2_with fail
      refine (l10Diff_any q _ HXQ.out).mono ?_
      rintro e w5 ⟨rfl, B5⟩
      have hb5 := hb.trans (B5.mono hb.size)
      go_wp2_with fail
      go_ret3
      rw [HE.out, ← HBI.out, dC_of HQ.out]
      exact ⟨rfl, hb5⟩
    obtain ⟨b', off', p, hA, _, _, hp, c0, c1, c2, c3⟩ := (hr.below hb hh).getCrossing hlt
    obtain ⟨rfl, rfl⟩ : b = b' ∧ off = off' := by cases hA; exact ⟨rfl, rfl⟩
    have hpb := isCx_bound (isCL_get H1.out hp)
    have HXP := Lib.hid (isCL_get H1.out hp)
    have HS := Lib.hid (show gIdx ps (k + 1) = if absI (q.ck - q.mn) < absI (p.ck - p.mn) then k else bi from by rw [gIdx_succ, ← HBI.out, dC_of HQ.out, dC_of hp])
    have q1 : (k : Int) < (ps.length : Int) := by omega
    have q2 : IntKind.i64.wrap (p.ck - p.mn) = p.ck - p.mn := wr64 (by omega) (by omega)
    clear hA hp
    obtain ⟨u, hu⟩ : ∃ u, absI (p.ck - p.mn) = u := ⟨_, rfl⟩
    obtain ⟨v, hv⟩ : ∃ v, absI (q.ck - q.mn) = v := ⟨_, rfl⟩
    rw [hu, hv] at HS
    have HU := Lib.hid hu
    have HV := Lib.hid hv
    clear hu hv
    obtain ⟨N, hNN⟩ : ∃ N, N = wr.heap.size := ⟨_, rfl⟩
    have hN : N ≤ wr.heap.size := by omega
    have hNw : w.heap.size ≤ N := by rw [hNN]; exact hb.size
    have hbN : b < N := by rw [hNN]; exact World.block_lt_of_cell? wr _ e0
    have D0 : ∀ s : Bw N wr, s.v.cell? ⟨b, off + k * 4, none⟩ = some (.int .i64 p.ln) := fun s => s.cell hbN c0
    have D1 : ∀ s : Bw N wr, s.v.cell? ⟨b, off + k * 4 + 1, none⟩ = some (.int .i64 p.cr) := fun s => s.cell hbN c1
    have D2 : ∀ s : Bw N wr, s.v.cell? ⟨b, off + k * 4 + 2, none⟩ = some (.int .i64 p.mn) := fun s => s.cell hbN c2
    have D3 : ∀ s : Bw N wr, s.v.cell? ⟨b, off + k * 4 + 3, none⟩ = some (.int .i64 p.ck) := fun s => s.cell hbN c3
    have E0 : ∀ s : Bw N wr, s.v.cell? ⟨b, off + bi * 4, none⟩ = some (.int .i64 q.ln) := fun s => s.cell hbN e0
    have E1 : ∀ s : Bw N wr, s.v.cell? ⟨b, off + bi * 4 + 1, none⟩ = some (.int .i64 q.cr) := fun s => s.cell hbN e1
    have E2 : ∀ s : Bw N wr, s.v.cell? ⟨b, off + bi * 4 + 2, none⟩ = some (.int .i64 q.mn) := fun s => s.cell hbN e2
    have E3 : ∀ s : Bw N wr, s.v.cell? ⟨b, off + bi * 4 + 3, none⟩ = some (.int .i64 q.ck) := fun s => s.cell hbN e3
    clear e0 e1 e2 e3 c0 c1 c2 c3
    have HCP := Lib.hid (fun (w : World) => (l10Size_any (p.ck - p.mn) w (by omega) (by omega)))
    have HCQ := Lib.hid (fun (w : World) => (l10Size_any (q.ck - q.mn) w (by omega) (by omega)))
    rw [HU.out] at HCP
    rw [HV.out] at HCQ
    go_wp2_with fail
    refine wp_region_bw (Below.refl N _) (by kernel_rfl) (by kernel_rfl) ?_
    repeat (go_big_quiet_step ((first | (go_at_call 61; exact bw_left hN (l10Diff_any p _ HXP.out)) | (go_at_call 61; exact bw_left hN (l10Diff_any q _ HXQ.out)) | (go_at_call 67; exact bw_same (HCP.out _)) | (go_at_call 67; exact bw_same (HCQ.out _)))))
    refine wpQuiet_nil ?_
    rintro _ ⟨⟨wz, hwz⟩, rfl⟩
    have hbx := hb.trans (hwz.mono hNw)
    by_cases hc : v < u
    · have HS2 := Lib.hid (show gIdx ps (k + 1) = k from by rw [HS.out, if_pos hc])
      go_wp2_with fail
      go_roundw
      case rel => exact ⟨k + 1, by omega, by omega, by go_num, by rw [HS2.out], hbx⟩
      case measure => simp [intOf]; omega
    · have HS2 := Lib.hid (show gIdx ps (k + 1) = bi from by rw [HS.out, if_neg hc])
      go_wp2_with fail
      go_roundw
      case rel => exact ⟨k + 1, by omega, by omega, by go_num, by rw [HS2.out], hbx⟩
      case measure => simp [intOf]; omega

end Go.Proofs.Ytiegnhpccbnhhaa
