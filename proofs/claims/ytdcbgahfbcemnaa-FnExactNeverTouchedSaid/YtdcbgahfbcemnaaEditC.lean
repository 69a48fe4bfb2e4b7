/-
  This file proves the reference's contract on good edit lists.
  Conditions: that the slice reads as a list of steps, that it is not too long, that its texts are no longer than any string of the machine.
-/
import Derived.Test.YtdcbgahfbcemnaaEditB
namespace Go.Proofs.Ytdcbgahfbcemnaa
open Go.RowKit
set_option linter.unusedSimpArgs false
set_option linter.unusedVariables false

section
variable {m : Int} {ps : List GEditStep} {k : Nat}
theorem stepB_noform (h : formB m (gE ps k) = false) : stepB m ps k = false := by unfold stepB; rw [h]; rfl
theorem stepB_undo0 (h3 : (gE ps k).kd = 3) (h0 : (liveE ps k).length = 0) : stepB m ps k = false := by unfold stepB; rw [decide_eq_true h3, decide_eq_true h0]; simp
theorem stepB_undo (h : formB m (gE ps k) = true) (h3 : (gE ps k).kd = 3) (h0 : ¬ (liveE ps k).length = 0) : stepB m ps k = true := by unfold stepB; rw [h, decide_eq_false h0, decide_eq_false (show ¬ (gE ps k).kd = 2 by omega)]; simp
theorem stepB_shift {b : Bool} (h : formB m (gE ps k) = true) (h2 : (gE ps k).kd = 2) (hb : inR (shiftE ps (gE ps k).mr (liveE ps k) + (gE ps k).sh) (-500) 500 = b) : stepB m ps k = b := by unfold stepB; rw [h, hb, decide_eq_true h2, decide_eq_false (show ¬ (gE ps k).kd = 3 by omega)]; simp
theorem stepB_other (h : formB m (gE ps k) = true) (h3 : (gE ps k).kd ≠ 3) (h2 : (gE ps k).kd ≠ 2) : stepB m ps k = true := by unfold stepB; rw [h, decide_eq_false h2, decide_eq_false h3]; simp
theorem goodE_bad (h : stepB m ps k = false) (hk : k < ps.length) : goodE m ps = false := by unfold goodE; rw [goodTo_bad h hk, Bool.and_false]
theorem goodE_no1 (h : inR m 1 15 = false) : goodE m ps = false := by unfold goodE; rw [h]; rfl
theorem goodE_no2 (h : ¬ ps.length ≤ 20) : goodE m ps = false := by unfold goodE; rw [decide_eq_false h]; simp
theorem goodE_yes (h1 : inR m 1 15 = true) (h2 : ps.length ≤ 20) (h : goodTo m ps ps.length = true) : goodE m ps = true := by unfold goodE; rw [h1, h, decide_eq_true h2]; rfl
theorem goodTo_sh (h : goodTo m ps k = true) : ∀ i, i < k → -100 ≤ (gE ps i).sh ∧ (gE ps i).sh ≤ 100 := fun i hi => kind_sh (form_kind (stepB_form (goodTo_step h hi)))
end
/-- The box of a step. -/
theorem box_step {w : World} (p : GEditStep) (t : TypeId) : (w.alloc (.cells #[.int .i64 p.kd, .int .i64 p.mr, .int .i64 p.sh, .string p.rs] t)).cell? ⟨w.heap.size, 0, none⟩ = some (.int .i64 p.kd) ∧
    (w.alloc (.cells #[.int .i64 p.kd, .int .i64 p.mr, .int .i64 p.sh, .string p.rs] t)).cell? ⟨w.heap.size, 1, none⟩ = some (.int .i64 p.mr) ∧
    (w.alloc (.cells #[.int .i64 p.kd, .int .i64 p.mr, .int .i64 p.sh, .string p.rs] t)).cell? ⟨w.heap.size, 2, none⟩ = some (.int .i64 p.sh) ∧
    (w.alloc (.cells #[.int .i64 p.kd, .int .i64 p.mr, .int .i64 p.sh, .string p.rs] t)).cell? ⟨w.heap.size, 3, none⟩ = some (.string p.rs) := EditStep_cells p w t
/-- A block that holds a step. -/
def Holds4 (w : World) (g : Nat) (p : GEditStep) : Prop := w.cell? ⟨g, 0, none⟩ = some (.int .i64 p.kd) ∧ w.cell? ⟨g, 1, none⟩ = some (.int .i64 p.mr) ∧ w.cell? ⟨g, 2, none⟩ = some (.int .i64 p.sh) ∧ w.cell? ⟨g, 3, none⟩ = some (.string p.rs)
theorem Holds4.below {w w' : World} {g N : Nat} {p : GEditStep} (h : Holds4 w g p) (hb : Below N w w') (hg : g < N) : Holds4 w' g p :=
  ⟨(hb.cell (p := ⟨g, 0, none⟩) hg).trans h.1, (hb.cell (p := ⟨g, 1, none⟩) hg).trans h.2.1, (hb.cell (p := ⟨g, 2, none⟩) hg).trans h.2.2.1, (hb.cell (p := ⟨g, 3, none⟩) hg).trans h.2.2.2⟩
theorem Holds4.new (w : World) (p : GEditStep) (t : TypeId) : Holds4 (w.alloc (.cells #[.int .i64 p.kd, .int .i64 p.mr, .int .i64 p.sh, .string p.rs] t)) w.heap.size p := EditStep_cells p w t

set_option maxHeartbeats 4000000 in
set_option maxRecDepth 100000 in
theorem l14Good_any {A : Option Addr} {c lo hi : Nat} {m : Int} {ps : List GEditStep} {w : World} (hr : RdE w lo hi A ps) (hh : hi ≤ w.heap.size) (hcap : ps.length ≤ c) (hl : ps.length ≤ 2097152) (hsz : ∀ p ∈ ps, p.rs.size ≤ maxLen) :
    Calls Try.prog 46 #[.int .i64 m, .slice A ps.length c] w (RetB (goodE m ps) w) := by
  have HSZ := Lib.hid hsz
  clear hsz
  rcases hm : inR m 1 15 with _ | _
  · have HB := Lib.hid (goodE_no1 (ps := ps) hm)
    go_enter Try.func46, Try.ntmps46
    go_wp2_with (go_at_call 53; refine (l1In_any _ _ _ _).mono ?_; rintro e w' ⟨rfl, rfl⟩)
    go_ret
    exact ⟨ret_bool HB.out.symm, Below.refl _ _⟩
  by_cases hn : ps.length ≤ 20
  rotate_left
  · have HB := Lib.hid (goodE_no2 (m := m) hn)
    have q1 : (20 : Int) < (ps.length : Int) := by omega
    go_enter Try.func46, Try.ntmps46
    go_wp2_with (go_at_call 53; refine (l1In_any _ _ _ _).mono ?_; rintro e w' ⟨rfl, rfl⟩)
    go_ret
    exact ⟨ret_bool HB.out.symm, Below.refl _ _⟩
  have hmm := inR_true.1 hm
  have q1 : ¬ (20 : Int) < (ps.length : Int) := by omega
  go_enter Try.func46, Try.ntmps46
  go_wp2_with (go_at_call 53; refine (l1In_any _ _ _ _).mono ?_; rintro e w' ⟨rfl, rfl⟩)
  have HM := Lib.hid hm
  clear hm
  go_loopw [5] (fun i wr => ∃ j : Nat, j ≤ ps.length ∧ i = .int .i64 j ∧ goodTo m ps j = true ∧ Below w.heap.size w wr) (fun i _ => ps.length - (intOf i).toNat)
  case atStart => exact ⟨0, Nat.zero_le _, rfl, rfl, Below.refl _ _⟩
  case round => as_aux_lemma =>
    obtain ⟨j, hj, rfl, hgt, hb⟩ := hrel
    have HG := Lib.hid hgt
    clear hgt
    by_cases hlt : j < ps.length
    rotate_left
    · obtain rfl : j = ps.length := by omega
      have HE := Lib.hid (goodE_yes HM.out hn HG.out)
      go_wp2_with fail
      go_ret
      exact ⟨ret_bool HE.out.symm, hb⟩
    have hRr := hr.below hb hh
    have hsr := hb.size
    obtain ⟨b, off, p, rfl, _, hbh, hp, c0, c1, c2, c3⟩ := hRr.getEditStep hlt
    have hps : p.rs.size ≤ maxLen := HSZ.out p (List.mem_of_getElem? hp)
    have hg := gE_of hp
    have q2 : (j : Int) < (ps.length : Int) := by omega
    have hjc : (j : Int) ≤ (c : Int) := by omega
    have B1 := below_alloc1 wr (.cells #[.int .i64 p.kd, .int .i64 p.mr, .int .i64 p.sh, .string p.rs] 42)
    have H1 := Holds4.new wr p 42
    have R1 := hRr.below B1 (by omega)
    have hz1 : wr.heap.size < (wr.alloc (.cells #[.int .i64 p.kd, .int .i64 p.mr, .int .i64 p.sh, .string p.rs] 42)).heap.size := by simp
    clear hRr hp
    have hfc : ∀ b, formB m p = b → Calls Try.prog 57 #[.int .i64 m, .agg #[.int .i64 p.kd, .int .i64 p.mr, .int .i64 p.sh, .string p.rs]] (wr.alloc (.cells #[.int .i64 p.kd, .int .i64 p.mr, .int .i64 p.sh, .string p.rs] 42)) (RetB b (wr.alloc (.cells #[.int .i64 p.kd, .int .i64 p.mr, .int .i64 p.sh, .string p.rs] 42))) := fun b hb => by rw [← hb]; exact l14Form_any m p _ hps hmm
    have HFC := Lib.hid hfc
    clear hfc
    rcases hf : formB m p with _ | _
    · have HB := Lib.hid (goodE_bad (stepB_noform (by rw [hg]; exact hf)) hlt)
      have HF := Lib.hid hf
      clear hf hg
      go_wp2_with fail
      refine (HFC.out _ HF.out).mono ?_
      rintro e w2 ⟨rfl, B2⟩
      go_wp2_with fail
      go_ret
      exact ⟨ret_bool HB.out.symm, hb.trans ((B1.mono hsr).trans (B2.mono (by omega)))⟩
    have HF := Lib.hid hf
    by_cases h3 : p.kd = 3
    · have t3 : (p.kd == 3) = true := by simpa using h3
      have t2 : (p.kd == 2) = false := by rw [h3]; rfl
      have hnl := natL_len (liveE ps j)
      by_cases h0 : (natL (liveE ps j)).length = 0
      · have HB := Lib.hid (goodE_bad (m := m) (stepB_undo0 (by rw [hg]; exact h3) (by rw [← hnl]; exact h0)) hlt)
        have e0 : (((natL (liveE ps j)).length : Int) == 0) = true := by simpa using h0
        clear hf hg h3 h0 hnl
        go_wp2_with fail
        refine (HFC.out _ HF.out).mono ?_
        rintro e w2 ⟨rfl, B2⟩
        have H2 := H1.below B2 hz1
        have R2 := R1.below B2 (by omega)
        obtain ⟨d0, d1, d2, d3⟩ := H2
        have hs2 := B2.size
        go_wp2_with fail
        refine (l14Live_any R2 (by omega) (Nat.le_of_lt hlt) (by omega)).mono ?_
        rintro e w3 ⟨A3, c3', rfl, O3, B3⟩
        go_wp2_with fail
        go_ret
        exact ⟨ret_bool HB.out.symm, hb.trans ((B1.mono hsr).trans ((B2.mono (by omega)).trans (B3.mono (by omega))))⟩
      · have HS := Lib.hid (stepB_undo (m := m) (by rw [hg]; exact hf) (by rw [hg]; exact h3) (by rw [← hnl]; exact h0))
        have e0 : (((natL (liveE ps j)).length : Int) == 0) = false := by simpa using h0
        clear hf hg h3 h0 hnl
        go_wp2_with fail
        refine (HFC.out _ HF.out).mono ?_
        rintro e w2 ⟨rfl, B2⟩
        have H2 := H1.below B2 hz1
        have R2 := R1.below B2 (by omega)
        have hs2 := B2.size
        have K2 := H2
        obtain ⟨d0, d1, d2, d3⟩ := K2
        go_wp2_with fail
        refine (l14Live_any R2 (by omega) (Nat.le_of_lt hlt) (by omega)).mono ?_
        rintro e w3 ⟨A3, c3', rfl, O3, B3⟩
        have hs3 := B3.size
        obtain ⟨f0, f1, f2, f3⟩ := H2.below B3 (by omega)
        have BB := hb.trans ((B1.mono hsr).trans ((B2.mono (by omega)).trans (B3.mono (by omega))))
        clear d0 d1 d2 d3
        go_wp2_with fail
        go_quiet (fail)
        go_wp2_with fail
        go_roundw
        case rel => exact ⟨j + 1, by omega, by go_num, goodTo_succ.2 ⟨HG.out, HS.out⟩, below_drewN BB _⟩
        case measure => simp [intOf]; omega
    have t3 : (p.kd == 3) = false := by simpa using h3
    by_cases h2 : p.kd = 2
    rotate_left
    · have t2 : (p.kd == 2) = false := by simpa using h2
      have HS := Lib.hid (stepB_other (m := m) (by rw [hg]; exact hf) (by rw [hg]; exact h3) (by rw [hg]; exact h2))
      clear hf hg h3 h2
      go_wp2_with fail
      refine (HFC.out _ HF.out).mono ?_
      rintro e w2 ⟨rfl, B2⟩
      obtain ⟨d0, d1, d2, d3⟩ := H1.below B2 hz1
      have BB := hb.trans ((B1.mono hsr).trans (B2.mono (by omega)))
      go_wp2_with fail
      go_quiet (fail)
      go_wp2_with fail
      go_roundw
      case rel => exact ⟨j + 1, by omega, by go_num, goodTo_succ.2 ⟨HG.out, HS.out⟩, below_drewN BB _⟩
      case measure => simp [intOf]; omega
    have t2 : (p.kd == 2) = true := by simpa using h2
    have hsb := shiftE_bound (ps := ps) (mark := p.mr) (liveE ps j) (fun x hx => goodTo_sh HG.out x (liveE_mem hx).1)
    have hll := liveE_len (ps := ps) j
    have hpsh := kind_sh (form_kind hf)
    have HSS := Lib.hid (fun b (h : inR (shiftE ps p.mr (liveE ps j) + p.sh) (-500) 500 = b) => stepB_shift (m := m) (ps := ps) (k := j) (b := b) (by rw [hg]; exact hf) (by rw [hg]; exact h2) (by rw [hg]; exact h))
    have HSC := Lib.hid (fun (W : World) (hR : RdE W lo hi (some ⟨b, off, none⟩) ps) (hW : hi ≤ W.heap.size) => l14Shift_any (mark := p.mr) (c := c) hR hW (Nat.le_of_lt hlt) (by omega) (goodTo_sh HG.out))
    generalize shiftE ps p.mr (liveE ps j) = S at HSS HSC hsb
    clear hf hg h3 h2
    have HB := Lib.hid (fun (h : stepB m ps j = false) => goodE_bad h hlt)
    rcases hin : inR (S + p.sh) (-500) 500 with _ | _
    all_goals
      have HIN := Lib.hid ((HSS.out _ rfl).trans hin)
      go_wp2_with fail
      refine (HFC.out _ HF.out).mono ?_
      rintro e w2 ⟨rfl, B2⟩
      have H2 := H1.below B2 hz1
      have R2 := R1.below B2 (by omega)
      have hs2 := B2.size
      have hhw : hi ≤ w2.heap.size := by omega
      have BB := hb.trans ((B1.mono hsr).trans (B2.mono (by omega)))
      obtain ⟨d0, d1, d2, d3⟩ := H2
      obtain ⟨N, hNN⟩ : ∃ N, N = w2.heap.size := ⟨_, rfl⟩
      have hN : N ≤ w2.heap.size := by omega
      have hNw : w.heap.size ≤ N := by rw [hNN]; exact BB.size
      have D0 : ∀ s : Bw N w2, s.v.cell? ⟨wr.heap.size, 0, none⟩ = some (.int .i64 p.kd) := fun s => s.cell (show wr.heap.size < N from by omega) d0
      have D1 : ∀ s : Bw N w2, s.v.cell? ⟨wr.heap.size, 1, none⟩ = some (.int .i64 p.mr) := fun s => s.cell (show wr.heap.size < N from by omega) d1
      have D2 : ∀ s : Bw N w2, s.v.cell? ⟨wr.heap.size, 2, none⟩ = some (.int .i64 p.sh) := fun s => s.cell (show wr.heap.size < N from by omega) d2
      have HRD := Lib.hid (fun (s : Bw N w2) => HSC.out s.v (R2.below s.h (by omega)) (by have := s.h.size; omega))
      go_wp2_with fail
      clear d0 d1 d2 d3
      have q3 : IntKind.i64.wrap (S + p.sh) = S + p.sh := wr64 (by omega) (by omega)
      refine wp_region_bw (Below.refl N _) (by kernel_rfl) (by kernel_rfl) ?_
      repeat (go_big_quiet_step ((first | (go_at_call 52; exact bw_left hN (HRD.out _)) | (go_at_call 53; exact bw_same (l1In_any _ _ _ _)))))
      refine wpQuiet_nil ?_
      rintro _ ⟨⟨wz, hwz⟩, rfl⟩
      clear q3
      have hbz := BB.trans (hwz.mono hNw)
    · go_wp2_with fail
      go_ret
      exact ⟨ret_bool (HB.out HIN.out).symm, hbz⟩
    · go_wp2_with fail
      go_roundw
      case rel => exact ⟨j + 1, by omega, by go_num, goodTo_succ.2 ⟨HG.out, HIN.out⟩, hbz⟩
      case measure => simp [intOf]; omega

end Go.Proofs.Ytdcbgahfbcemnaa
