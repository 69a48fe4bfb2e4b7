/-
  This file proves contracts of CorrectLine, of the program and of the reference.
  Conditions: each contract's own hypotheses (that a slice reads as a list of crossings, that it is not too long).
-/
import Derived.Test.YtiegnhpccbnhhaaCrossK
namespace Go.Proofs.Ytiegnhpccbnhhaa
open Go.RowKit
set_option linter.unusedSimpArgs false
set_option linter.unusedVariables false

def fixL (l dy : Int) (p : GCrossing) : GCrossing := if p.ln = l then ⟨p.ln, p.cr, p.mn + dy, p.ck⟩ else p
def corr (ps : List GCrossing) (l dy : Int) : List GCrossing := ps.map (fixL l dy)
theorem corr_yes {ps : List GCrossing} {l dy : Int} {k : Nat} {p : GCrossing} (hp : ps[k]? = some p) (h : p.ln = l) : corr (ps.take (k + 1)) l dy = corr (ps.take k) l dy ++ [⟨p.ln, p.cr, p.mn + dy, p.ck⟩] := by
  rw [take_snocC hp]
  simp [corr, fixL, h]
theorem corr_no {ps : List GCrossing} {l dy : Int} {k : Nat} {p : GCrossing} (hp : ps[k]? = some p) (h : ¬ p.ln = l) : corr (ps.take (k + 1)) l dy = corr (ps.take k) l dy ++ [p] := by
  rw [take_snocC hp]
  simp [corr, fixL, h]
theorem corr_len (ps : List GCrossing) (l dy : Int) : (corr ps l dy).length = ps.length := by simp [corr]
def vCorrectLine (ps : List GCrossing) (l dy : Int) : List GCrossing × Bool :=
  if isCL ps = true ∧ 0 < (ownL ps l).length ∧ inR dy (-30000) 30000 = true ∧ isCL (corr ps l dy) = true then (corr ps l dy, true) else ([], false)
theorem vCorrectLine_len0 (ps : List GCrossing) (l dy : Int) : (vCorrectLine ps l dy).1.length ≤ ps.length := by
  unfold vCorrectLine
  split
  · exact Nat.le_of_eq (corr_len _ _ _)
  · simp

set_option maxHeartbeats 4000000 in
set_option maxRecDepth 100000 in
theorem iCorrectLine {A : Option Addr} {c lo hi : Nat} {ps : List GCrossing} {l dy : Int} {w : World} (hr : RdC w lo hi A ps) (hl : ps.length ≤ 2097152) (hh : hi ≤ w.heap.size) (hcap : ps.length ≤ c) :
    Calls Try.prog 24 #[.slice A ps.length c, .int .i64 l, .int .i64 dy] w (RetCrossingSB (vCorrectLine ps l dy).1 (vCorrectLine ps l dy).2 w) := by
  obtain ⟨i0, hi0, hz0, hz1, hz2⟩ := info_parts info_Crossing
  by_cases h1 : isCL ps = true
  rotate_left
  · have h1' : isCL ps = false := by simpa using h1
    have HE := Lib.hid (show vCorrectLine ps l dy = ([], false) from by unfold vCorrectLine; rw [if_neg (by simp [h1'])])
    clear h1
    go_enter Try.func24, Try.ntmps24
    go_wp2_with fail
    refine (areCrossings_any hr hl hh hcap).mono ?_
    rintro e w1 ⟨rfl, B1⟩
    have s1 := B1.size
    go_wp2_with fail
    have B2 := B1
    go_ret2
    rw [HE.out]
    exact retCrossingSB_nil _ _ _ B2
  by_cases h2 : 0 < (ownL ps l).length
  rotate_left
  · have h2' := ne_len h2
    have HE := Lib.hid (show vCorrectLine ps l dy = ([], false) from by unfold vCorrectLine; rw [if_neg (fun h => h2 h.2.1)])
    clear h2
    go_enter Try.func24, Try.ntmps24
    go_wp2_with fail
    refine (areCrossings_any hr hl hh hcap).mono ?_
    rintro e w1 ⟨rfl, B1⟩
    have s1 := B1.size
    go_wp2_with fail
    refine (ofLine_any (l := l) (hr.below B1 hh) hl (by omega)).mono ?_
    rintro e w0 ⟨A0, c0, rfl, O0, B0⟩
    have B2 := B1.trans (B0.mono s1)
    go_wp2_with (go_at_call 59; refine (inside_any _ _ _ _).mono ?_; rintro e w' ⟨rfl, rfl⟩)
    go_ret2
    rw [HE.out]
    exact retCrossingSB_nil _ _ _ B2
  by_cases h3 : inR dy (-30000) 30000 = true
  rotate_left
  · have h3' : inR dy (-30000) 30000 = false := by simpa using h3
    have HE := Lib.hid (show vCorrectLine ps l dy = ([], false) from by unfold vCorrectLine; rw [if_neg (by simp [h3'])])
    have h2' := eq_len h2
    clear h3
    go_enter Try.func24, Try.ntmps24
    go_wp2_with fail
    refine (areCrossings_any hr hl hh hcap).mono ?_
    rintro e w1 ⟨rfl, B1⟩
    have s1 := B1.size
    go_wp2_with fail
    refine (ofLine_any (l := l) (hr.below B1 hh) hl (by omega)).mono ?_
    rintro e w0 ⟨A0, c0, rfl, O0, B0⟩
    have B2 := B1.trans (B0.mono s1)
    go_wp2_with (go_at_call 59; refine (inside_any _ _ _ _).mono ?_; rintro e w' ⟨rfl, rfl⟩)
    go_ret2
    rw [HE.out]
    exact retCrossingSB_nil _ _ _ B2
  have h2' := eq_len h2
  have H1 := Lib.hid h1
  have hn := isCL_len h1
  have hdy := inR_true.1 h3
  obtain ⟨cv, hcv⟩ : ∃ cv, isCL (corr ps l dy) = cv := ⟨_, rfl⟩
  have HCV := Lib.hid hcv
  have HE1 := Lib.hid (show cv = true → vCorrectLine ps l dy = (corr ps l dy, true) from fun h => by unfold vCorrectLine; rw [if_pos ⟨h1, h2, h3, hcv.trans h⟩])
  have HE2 := Lib.hid (show cv = false → vCorrectLine ps l dy = ([], false) from fun h => by unfold vCorrectLine; rw [if_neg (by rw [hcv, h]; simp)])
  have hcl := corr_len ps l dy
  have HCL := Lib.hid hcl
  clear hcv hcl
  go_enter Try.func24, Try.ntmps24
  go_wp2_with fail
  refine (areCrossings_any hr hl hh hcap).mono ?_
  rintro e w1 ⟨rfl, B1⟩
  have s1 := B1.size
  go_wp2_with fail
  refine (ofLine_any (l := l) (hr.below B1 hh) hl (by omega)).mono ?_
  rintro e w0 ⟨A0, c0, rfl, O0, B0⟩
  have B2 := B1.trans (B0.mono s1)
  go_wp2_with (go_at_call 59; refine (inside_any _ _ _ _).mono ?_; rintro e w' ⟨rfl, rfl⟩)
  go_loopw [8, 29] (fun v i wr => ∃ k : Nat, k ≤ ps.length ∧ i = .int .i64 k ∧ wr.ownsRow w.heap.size 59 4 v (corr (ps.take k) l dy).length (cellsCrossing (corr (ps.take k) l dy)) ∧ Below w.heap.size w wr) (fun _ i _ => ps.length - (intOf i).toNat)
  case atStart => exact ⟨0, Nat.zero_le _, rfl, row_empty_at _ _ _ B2.size, B2.alloc B2.size _⟩
  case round =>
    obtain ⟨k, hk, rfl, hown, hb⟩ := hrel
    have hgl : (corr (ps.take k) l dy).length ≤ k := by rw [corr_len]; exact List.length_take_le _ _
    by_cases hlt : k < ps.length
    rotate_left
    · have HTA := Lib.hid (show ps.take k = ps from List.take_of_length_le (by omega))
      rw [HTA.out] at hown hgl
      obtain ⟨A5, c5, rfl, O5⟩ := Own.of_row hown
      clear hown
      have hc5 := O5.cap
      go_wp2_with fail
      have hcl := HCL.out
      refine (areCrossings_any O5.rd (by omega) (Nat.le_refl _) (by omega)).mono ?_
      rintro e w5 ⟨rfl, B5⟩
      rw [HCV.out]
      have hb5 := hb.trans (B5.mono hb.size)
      have O6 := O5.below B5 (Nat.le_refl _)
      clear hcl hc5
      rcases cv with _ | _
      · go_wp2_with fail
        go_ret2
        rw [HE2.out (by trivial)]
        exact retCrossingSB_nil _ _ _ hb5
      · go_wp2_with fail
        go_ret2
        rw [HE1.out (by trivial)]
        exact retCrossingSB_of O6.1 hb5
    obtain ⟨b, off, p, rfl, hblo, hbhi, hp, c0, c1, c2, c3⟩ := (hr.below hb hh).getCrossing hlt
    have HP := Lib.hid hp
    have hpb := isCx_bound (isCL_get H1.out hp)
    have q1 : (k : Int) < (ps.length : Int) := by omega
    clear hp
    obtain ⟨A5, c5, rfl, O5⟩ := Own.of_row hown
    clear hown
    have D := Crossing_cells p wr 59
    by_cases hln : p.ln = l
    · have HG := Lib.hid (corr_yes (dy := dy) HP.out hln)
      have s1 : (p.ln == l) = true := by simpa using hln
      have s2 : IntKind.i64.wrap (p.mn + dy) = p.mn + dy := wr64 (by omega) (by omega)
      have hbx : Below w.heap.size w (wr.alloc (.cells #[.int .i64 p.ln, .int .i64 p.cr, .int .i64 (p.mn + dy), .int .i64 p.ck] 59)) := hb.trans ((below_alloc1 _ _).mono hb.size)
      have O6 := O5.below (below_alloc1 wr (.cells #[.int .i64 p.ln, .int .i64 p.cr, .int .i64 (p.mn + dy), .int .i64 p.ck] 59)) (Nat.le_refl _)
      clear hln O5
      generalize corr (ps.take k) l dy = F at hgl HG O6 ⊢
      go_wp2_with (at_builtin; refine wpList_push_at _ rfl _ _ 26 rfl w.heap.size 59 i0 (.agg #[.int .i64 0, .int .i64 0, .int .i64 0, .int .i64 0]) 4 32 Try.underlying26 hi0 hz0 hz1 hz2 rfl (by decide) _ _ _ rfl O6.1 [.int .i64 p.ln, .int .i64 p.cr, .int .i64 (p.mn + dy), .int .i64 p.ck] rfl (one_cells ⟨p.ln, p.cr, p.mn + dy, p.ck⟩) _ rfl (by simp) (by omega) (by decide) hbx.size ?_; intro v7 w7 hown7 hb7 hs7 _ _)
      have hown8 := push_relC HG.out hown7
      have hb8 := hb7 _ hbx
      go_wp2_with fail
      go_roundw
      case rel => exact ⟨k + 1, by omega, by go_num, hown8, hb8⟩
      case measure => simp [intOf]; omega
    · have HG := Lib.hid (corr_no (dy := dy) HP.out hln)
      have s1 : (p.ln == l) = false := by simpa using hln
      have hbx : Below w.heap.size w (wr.alloc (.cells #[.int .i64 p.ln, .int .i64 p.cr, .int .i64 p.mn, .int .i64 p.ck] 59)) := hb.trans ((below_alloc1 _ _).mono hb.size)
      have O6 := O5.below (below_alloc1 wr (.cells #[.int .i64 p.ln, .int .i64 p.cr, .int .i64 p.mn, .int .i64 p.ck] 59)) (Nat.le_refl _)
      clear hln O5
      generalize corr (ps.take k) l dy = F at hgl HG O6 ⊢
      go_wp2_with (at_builtin; refine wpList_push_at _ rfl _ _ 26 rfl w.heap.size 59 i0 (.agg #[.int .i64 0, .int .i64 0, .int .i64 0, .int .i64 0]) 4 32 Try.underlying26 hi0 hz0 hz1 hz2 rfl (by decide) _ _ _ rfl O6.1 [.int .i64 p.ln, .int .i64 p.cr, .int .i64 p.mn, .int .i64 p.ck] rfl (one_cells p) _ rfl (by simp) (by omega) (by decide) hbx.size ?_; intro v7 w7 hown7 hb7 hs7 _ _)
      have hown8 := push_relC HG.out hown7
      have hb8 := hb7 _ hbx
      go_wp2_with fail
      go_roundw
      case rel => exact ⟨k + 1, by omega, by go_num, hown8, hb8⟩
      case measure => simp [intOf]; omega

set_option maxHeartbeats 4000000 in
set_option maxRecDepth 100000 in
theorem sCorrectLine {A : Option Addr} {c lo hi : Nat} {ps : List GCrossing} {l dy : Int} {w : World} (hr : RdC w lo hi A ps) (hl : ps.length ≤ 2097152) (hh : hi ≤ w.heap.size) :
    Calls Try.prog 23 #[.slice A ps.length c, .int .i64 l, .int .i64 dy] w (RetCrossingSB (vCorrectLine ps l dy).1 (vCorrectLine ps l dy).2 w) := by
  obtain ⟨i0, hi0, hz0, hz1, hz2⟩ := info_parts info_Crossing
  by_cases h1 : isCL ps = true
  rotate_left
  · have h1' : isCL ps = false := by simpa using h1
    have HE := Lib.hid (show vCorrectLine ps l dy = ([], false) from by unfold vCorrectLine; rw [if_neg (by simp [h1'])])
    clear h1
    go_enter Try.func23, Try.ntmps23
    go_wp2_with fail
    refine (l10Offset_any (l := l) (hr.below (below_alloc1 w _) hh) hl (by simp; omega)).mono ?_
    rintro e w0 ⟨S, rfl, hS, B0⟩
    clear hS
    have b0 : Below w.heap.size w w0 := (below_alloc1 w _).trans (B0.mono (by simp))
    have s0 := b0.size
    have o0 := row_below (row_empty_at w 59 4 (Nat.le_refl _)) B0
    go_wp2_with fail
    refine (l10Good_any (hr.below b0 hh) hl (by omega)).mono ?_
    rintro e w1 ⟨rfl, B1⟩
    have B2 := b0.trans (B1.mono s0)
    have O2 := row_below o0 B1
    clear o0
    go_wp2_with (go_at_call 52; refine (l1In_any _ _ _ _).mono ?_; rintro e w' ⟨rfl, rfl⟩)
    go_ret2
    rw [HE.out]
    exact retCrossingSB_of (ps := []) O2 B2
  by_cases h2 : 0 < (ownL ps l).length
  rotate_left
  · have h2' := ne_len h2
    have HE := Lib.hid (show vCorrectLine ps l dy = ([], false) from by unfold vCorrectLine; rw [if_neg (fun h => h2 h.2.1)])
    clear h2
    go_enter Try.func23, Try.ntmps23
    go_wp2_with fail
    refine (l10Offset_any (l := l) (hr.below (below_alloc1 w _) hh) hl (by simp; omega)).mono ?_
    rintro e w0 ⟨S, rfl, hS, B0⟩
    clear hS
    have b0 : Below w.heap.size w w0 := (below_alloc1 w _).trans (B0.mono (by simp))
    have s0 := b0.size
    have o0 := row_below (row_empty_at w 59 4 (Nat.le_refl _)) B0
    go_wp2_with fail
    refine (l10Good_any (hr.below b0 hh) hl (by omega)).mono ?_
    rintro e w1 ⟨rfl, B1⟩
    have B2 := b0.trans (B1.mono s0)
    have O2 := row_below o0 B1
    clear o0
    go_wp2_with (go_at_call 52; refine (l1In_any _ _ _ _).mono ?_; rintro e w' ⟨rfl, rfl⟩)
    go_ret2
    rw [HE.out]
    exact retCrossingSB_of (ps := []) O2 B2
  by_cases h3 : inR dy (-30000) 30000 = true
  rotate_left
  · have h3' : inR dy (-30000) 30000 = false := by simpa using h3
    have HE := Lib.hid (show vCorrectLine ps l dy = ([], false) from by unfold vCorrectLine; rw [if_neg (by simp [h3'])])
    have h2' := eq_len h2
    clear h3
    go_enter Try.func23, Try.ntmps23
    go_wp2_with fail
    refine (l10Offset_any (l := l) (hr.below (below_alloc1 w _) hh) hl (by simp; omega)).mono ?_
    rintro e w0 ⟨S, rfl, hS, B0⟩
    clear hS
    have b0 : Below w.heap.size w w0 := (below_alloc1 w _).trans (B0.mono (by simp))
    have s0 := b0.size
    have o0 := row_below (row_empty_at w 59 4 (Nat.le_refl _)) B0
    go_wp2_with fail
    refine (l10Good_any (hr.below b0 hh) hl (by omega)).mono ?_
    rintro e w1 ⟨rfl, B1⟩
    have B2 := b0.trans (B1.mono s0)
    have O2 := row_below o0 B1
    clear o0
    go_wp2_with (go_at_call 52; refine (l1In_any _ _ _ _).mono ?_; rintro e w' ⟨rfl, rfl⟩)
    go_ret2
    rw [HE.out]
    exact retCrossingSB_of (ps := []) O2 B2
  have h2' := eq_len h2
  have H1 := Lib.hid h1
  have hn := isCL_len h1
  have hdy := inR_true.1 h3
  obtain ⟨cv, hcv⟩ : ∃ cv, isCL (corr ps l dy) = cv := ⟨_, rfl⟩
  have HCV := Lib.hid hcv
  have HE1 := Lib.hid (show cv = true → vCorrectLine ps l dy = (corr ps l dy, true) from fun h => by unfold vCorrectLine; rw [if_pos ⟨h1, h2, h3, hcv.trans h⟩])
  have HE2 := Lib.hid (show cv = false → vCorrectLine ps l dy = ([], false) from fun h => by unfold vCorrectLine; rw [if_neg (by rw [hcv, h]; simp)])
  have hcl := corr_len ps l dy
  have HCL := Lib.hid hcl
  clear hcv hcl
  go_enter Try.func23, Try.ntmps23
  go_wp2_with fail
  refine (l10Offset_any (l := l) (hr.below (below_alloc1 w _) hh) hl (by simp; omega)).mono ?_
  rintro e w0 ⟨S, rfl, hS, B0⟩
  clear hS
  have b0 : Below w.heap.size w w0 := (below_alloc1 w _).trans (B0.mono (by simp))
  have s0 := b0.size
  have o0 := row_below (row_empty_at w 59 4 (Nat.le_refl _)) B0
  go_wp2_with fail
  refine (l10Good_any (hr.below b0 hh) hl (by omega)).mono ?_
  rintro e w1 ⟨rfl, B1⟩
  have B2 := b0.trans (B1.mono s0)
  have O2 := row_below o0 B1
  clear o0
  go_wp2_with (go_at_call 52; refine (l1In_any _ _ _ _).mono ?_; rintro e w' ⟨rfl, rfl⟩)
  go_loopw [8, 11] (fun v i wr => ∃ k : Nat, k ≤ ps.length ∧ i = .int .i64 k ∧ wr.ownsRow w.heap.size 59 4 v (corr (ps.take k) l dy).length (cellsCrossing (corr (ps.take k) l dy)) ∧ Below w.heap.size w wr) (fun _ i _ => ps.length - (intOf i).toNat)
  case atStart => exact ⟨0, Nat.zero_le _, rfl, O2, B2⟩
  case round =>
    obtain ⟨k, hk, rfl, hown, hb⟩ := hrel
    have hgl : (corr (ps.take k) l dy).length ≤ k := by rw [corr_len]; exact List.length_take_le _ _
    by_cases hlt : k < ps.length
    rotate_left
    · have HTA := Lib.hid (show ps.take k = ps from List.take_of_length_le (by omega))
      rw [HTA.out] at hown hgl
      obtain ⟨A5, c5, rfl, O5⟩ := Own.of_row hown
      clear hown
      have hc5 := O5.cap
      go_wp2_with fail
      have hcl := HCL.out
      refine (l10Good_any O5.rd (by omega) (Nat.le_refl _)).mono ?_
      rintro e w5 ⟨rfl, B5⟩
      rw [HCV.out]
      have hb5 := hb.trans (B5.mono hb.size)
      have O6 := O5.below B5 (Nat.le_refl _)
      clear hcl hc5
      rcases cv with _ | _
      · go_wp2_with fail
        go_ret2
        rw [HE2.out (by trivial)]
        exact retCrossingSB_of (ps := []) (row_empty_at _ _ _ hb5.size) (hb5.alloc hb5.size _)
      · go_wp2_with fail
        go_ret2
        rw [HE1.out (by trivial)]
        exact retCrossingSB_of O6.1 hb5
    obtain ⟨b, off, p, rfl, hblo, hbhi, hp, c0, c1, c2, c3⟩ := (hr.below hb hh).getCrossing hlt
    have HP := Lib.hid hp
    have hpb := isCx_bound (isCL_get H1.out hp)
    have q1 : (k : Int) < (ps.length : Int) := by omega
    clear hp
    obtain ⟨A5, c5, rfl, O5⟩ := Own.of_row hown
    clear hown
    have D := Crossing_cells p wr 59
    by_cases hln : p.ln = l
    · have HG := Lib.hid (corr_yes (dy := dy) HP.out hln)
      have s1 : (p.ln == l) = true := by simpa using hln
      have s2 : IntKind.i64.wrap (p.mn + dy) = p.mn + dy := wr64 (by omega) (by omega)
      have hbx : Below w.heap.size w (wr.alloc (.cells #[.int .i64 p.ln, .int .i64 p.cr, .int .i64 (p.mn + dy), .int .i64 p.ck] 59)) := hb.trans ((below_alloc1 _ _).mono hb.size)
      have O6 := O5.below (below_alloc1 wr (.cells #[.int .i64 p.ln, .int .i64 p.cr, .int .i64 (p.mn + dy), .int .i64 p.ck] 59)) (Nat.le_refl _)
      clear hln O5
      generalize corr (ps.take k) l dy = F at hgl HG O6 ⊢
      go_wp2_with (at_builtin; refine wpList_push_at _ rfl _ _ 26 rfl w.heap.size 59 i0 (.agg #[.int .i64 0, .int .i64 0, .int .i64 0, .int .i64 0]) 4 32 Try.underlying26 hi0 hz0 hz1 hz2 rfl (by decide) _ _ _ rfl O6.1 [.int .i64 p.ln, .int .i64 p.cr, .int .i64 (p.mn + dy), .int .i64 p.ck] rfl (one_cells ⟨p.ln, p.cr, p.mn + dy, p.ck⟩) _ rfl (by simp) (by omega) (by decide) hbx.size ?_; intro v7 w7 hown7 hb7 hs7 _ _)
      have hown8 := push_relC HG.out hown7
      have hb8 := hb7 _ hbx
      go_wp2_with fail
      go_roundw
      case rel => exact ⟨k + 1, by omega, by go_num, hown8, hb8⟩
      case measure => simp [intOf]; omega
    · have HG := Lib.hid (corr_no (dy := dy) HP.out hln)
      have s1 : (p.ln == l) = false := by simpa using hln
      have hbx : Below w.heap.size w (wr.alloc (.cells #[.int .i64 p.ln, .int .i64 p.cr, .int .i64 p.mn, .int .i64 p.ck] 59)) := hb.trans ((below_alloc1 _ _).mono hb.size)
      have O6 := O5.below (below_alloc1 wr (.cells #[.int .i64 p.ln, .int .i64 p.cr, .int .i64 p.mn, .int .i64 p.ck] 59)) (Nat.le_refl _)
      clear hln O5
      generalize corr (ps.take k) l dy = F at hgl HG O6 ⊢
      go_wp2_with (at_builtin; refine wpList_push_at _ rfl _ _ 26 rfl w.heap.size 59 i0 (.agg #[.int .i64 0, .int .i64 0, .int .i64 0, .int .i64 0]) 4 32 Try.underlying26 hi0 hz0 hz1 hz2 rfl (by decide) _ _ _ rfl O6.1 [.int .i64 p.ln, .int .i64 p.cr, .int .i64 p.mn, .int .i64 p.ck] rfl (one_cells p) _ rfl (by simp) (by omega) (by decide) hbx.size ?_; intro v7 w7 hown7 hb7 hs7 _ _)
      have hown8 := push_relC HG.out hown7
      have hb8 := hb7 _ hbx
      go_wp2_with fail
      go_roundw
      case rel => exact ⟨k + 1, by omega, by go_num, hown8, hb8⟩
      case measure => simp [intOf]; omega

end Go.Proofs.Ytiegnhpccbnhhaa
