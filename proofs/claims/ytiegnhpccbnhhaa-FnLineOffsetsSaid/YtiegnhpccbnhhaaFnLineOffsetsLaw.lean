/-
  This file proves the walk of the law 'FnLineOffsets': called with any code it returns true, and nothing that was in memory before has turned.
  Conditions: that the code reads as data, as the row's frame hands it over.
-/
import Derived.Test.YtiegnhpccbnhhaaLineLaw
import Derived.Test.YtiegnhpccbnhhaaCrossS
import Derived.Test.YtiegnhpccbnhhaaLawHelp
import Derived.Test.YtiegnhpccbnhhaaLawHelpC
import Derived.Deep.DeepCutAuto
namespace Go.Proofs.Ytiegnhpccbnhhaa
open Go.RowKit
set_option linter.unusedSimpArgs false
set_option linter.unusedVariables false

theorem offset_cases (ps : List GCrossing) (l : Int) : (vOffsetOfLine ps l = (0, 0, false)) ∨ (isCL ps = true ∧ 0 < (ownL ps l).length ∧ vOffsetOfLine ps l = (redN (sumD (ownL ps l)) (ownL ps l).length, redD (sumD (ownL ps l)) (ownL ps l).length, true)) := by
  by_cases h : isCL ps = true ∧ 0 < (ownL ps l).length
  · exact .inr ⟨h.1, h.2, offset_yes h.1 h.2⟩
  · exact .inl (by unfold vOffsetOfLine; rw [if_neg h])
theorem correct_cases (ps : List GCrossing) (l dy : Int) : (vCorrectLine ps l dy = ([], false)) ∨ (isCL (corr ps l dy) = true ∧ vCorrectLine ps l dy = (corr ps l dy, true)) := by
  by_cases h : isCL ps = true ∧ 0 < (ownL ps l).length ∧ inR dy (-30000) 30000 = true ∧ isCL (corr ps l dy) = true
  · exact .inr ⟨h.2.2.2, by unfold vCorrectLine; rw [if_pos h]⟩
  · exact .inl (by unfold vCorrectLine; rw [if_neg h])
theorem worst_cases (ps : List GCrossing) : (vWorstLine ps = (0, false)) ∨ (isCL ps = true ∧ 0 < ps.length ∧ vWorstLine ps = ((wLine ps 99).1, true)) := by
  by_cases h : isCL ps = true ∧ 0 < ps.length
  · exact .inr ⟨h.1, h.2, by unfold vWorstLine; rw [if_pos h]⟩
  · exact .inl (by unfold vWorstLine; rw [if_neg h])
theorem red_small {ps : List GCrossing} {l : Int} (h : isCL ps = true) (hn : 0 < (ownL ps l).length) : -210000 ≤ redN (sumD (ownL ps l)) (ownL ps l).length ∧ redN (sumD (ownL ps l)) (ownL ps l).length ≤ 210000 ∧ 1 ≤ redD (sumD (ownL ps l)) (ownL ps l).length ∧ redD (sumD (ownL ps l)) (ownL ps l).length ≤ 10 := by
  have h1 := own_bound (l := l) h
  obtain ⟨r1, r2, r3, r4⟩ := red_facts (sumD (ownL ps l)) (ownL ps l).length (by omega)
  omega

set_option maxHeartbeats 4000000 in
set_option maxRecDepth 100000 in
theorem fnLineOffsets_walk (A : Option Addr) (c : Nat) (xs : List Int) (w : World) (hrd : Rd w 0 w.heap.size 1 A xs.length (bytesV xs)) (hby : ∀ n ∈ xs, (Lit.int .u8 n).wf = true) :
    Calls Try.prog 11 #[.slice A xs.length c] w fun e w' => e = .returned (.bool true) ∧ Below w.heap.size w w' := by
  by_cases hbig : 65536 < xs.length
  · go_enter Try.func11, Try.ntmps11
    go_wp2_with fail
    refine (vBig_any).mono ?_
    rintro e w' ⟨rfl, rfl⟩
    rw [decide_eq_true hbig]
    go_wp2_with fail
    go_ret
    exact ⟨rfl, Below.refl _ _⟩
  have hcode : Code8 w A xs := ⟨hrd, fun x hx => by have h := hby x hx; simp [Lit.wf, IntKind.min, IntKind.max, IntKind.signed, IntKind.bits] at h; omega, by omega⟩
  have HB := Lib.hid hbig
  clear hrd hby hbig
  go_enter Try.func11, Try.ntmps11
  go_wp2_with fail
  refine (vBig_any).mono ?_
  rintro e w' ⟨rfl, rfl⟩
  rw [decide_eq_false HB.out]
  go_wp2_with fail
  refine (drawOffset_any hcode).mono ?_
  rintro e w1 ⟨A1, c1, ps, l, rfl, hpl, O1, B1⟩
  have s1 := B1.size
  have hcode1 := hcode.below B1
  obtain ⟨ov, hov⟩ : ∃ ov, vOffsetOfLine ps l = ov := ⟨_, rfl⟩
  have HOC := Lib.hid (offset_cases ps l)
  rw [hov] at HOC
  have HOV := Lib.hid hov
  clear hov
  obtain ⟨num, den, ok⟩ := ov
  go_wp2_with fail
  refine (iOffsetOfLine (l := l) O1.rd (by omega) (Nat.le_refl _) O1.cap).mono ?_
  rintro e w2 h
  rw [HOV.out] at h
  obtain ⟨rfl, B2⟩ := h
  have s2 := B2.size
  have O2 := O1.below B2 (Nat.le_refl _)
  have BB2 := B1.trans (B2.mono s1)
  have hcode2 := hcode1.below B2
  go_wp2_with fail
  refine (sOffsetOfLine (l := l) O2.rd (by omega) s2).mono ?_
  rintro e w3 h
  rw [HOV.out] at h
  obtain ⟨rfl, B3⟩ := h
  have s3 := B3.size
  have O3 := O2.below B3 s2
  have BB3 := BB2.trans (B3.mono (by omega))
  have hcode3 := hcode2.below B3
  clear O1 O2 BB2 hcode hcode1 hcode2 B1 B2 B3
  obtain ⟨tb, htb⟩ : ∃ tb : Bool, tb = (ok && decide (den = 1)) := ⟨_, rfl⟩
  have HTB := Lib.hid htb
  clear htb
  go_upto_region 8 with fail
  go_cut [80] (fun s80 wx => s80 = .bool tb ∧ Code8 wx A xs ∧ Below w.heap.size w wx ∧ Own wx 59 w.heap.size w1.heap.size 4 A1 ps.length c1 (cellsCrossing ps) ∧ w1.heap.size ≤ wx.heap.size)
  case first => as_aux_lemma =>
    have hw13 : w1.heap.size ≤ w3.heap.size := by omega
    rcases ok with _ | _
    · have HT := Lib.hid (show tb = false from by rw [HTB.out]; rfl)
      go_wp2_with fail
      go_meet
      exact ⟨by rw [HT.out], hcode3, BB3, O3, hw13⟩
    · by_cases h2 : den = 1
      · have HT := Lib.hid (show tb = true from by rw [HTB.out, decide_eq_true h2]; rfl)
        have q1 : (den == 1) = true := by simpa using h2
        clear h2
        go_wp2_with fail
        go_meet
        exact ⟨by rw [HT.out], hcode3, BB3, O3, hw13⟩
      · have HT := Lib.hid (show tb = false from by rw [HTB.out, decide_eq_false h2]; rfl)
        have q1 : (den == 1) = false := by simpa using h2
        clear h2
        go_wp2_with fail
        go_meet
        exact ⟨by rw [HT.out], hcode3, BB3, O3, hw13⟩
  case rest => as_aux_lemma =>
    obtain ⟨rfl, hcode4, BB4, O4, hw4⟩ := hcut
    clear hcode3 BB3 O3 s1 s2 s3
    go_upto_if 80 with fail
    go_cut [] (fun wx => Code8 wx A xs ∧ Below w.heap.size w wx)
    case first => as_aux_lemma =>
      rcases htb : tb with _ | _
      · go_wp2_with fail
        go_meet
        exact ⟨hcode4, BB4⟩
      · have h12 : ok = true ∧ den = 1 := by have := HTB.out; rw [htb] at this; simpa using this.symm
        have hgood : isCL ps = true ∧ 0 < (ownL ps l).length ∧ num = redN (sumD (ownL ps l)) (ownL ps l).length ∧ redD (sumD (ownL ps l)) (ownL ps l).length = 1 := by
          rcases HOC.out with h | ⟨h1, h2, h3⟩
          · injection h with _ h; injection h with _ h; rw [h12.1] at h; cases h
          · injection h3 with a1 a2; injection a2 with a2 a3; exact ⟨h1, h2, a1, by rw [← a2]; exact h12.2⟩
        have hbw : w.heap.size ≤ wc.heap.size := BB4.size
        rcases correct_cases ps l num with hcc | ⟨hcc1, hcc2⟩
        · have HCC := Lib.hid hcc
          clear hgood h12 hcc
          go_wp2_with fail
          refine (iCorrectLine (l := l) (dy := num) O4.rd (by omega) hw4 O4.cap).mono ?_
          rintro e w7 h
          rw [HCC.out] at h
          obtain ⟨A7, c7, rfl, O7, B7⟩ := h
          have BB7 := BB4.trans (B7.mono hbw)
          have hcode7 := hcode4.below B7
          go_wp2_with fail
          go_meet
          exact ⟨hcode7, BB7⟩
        · have HCC := Lib.hid hcc2
          have hnone : vOffsetOfLine (corr ps l num) l = (0, 1, true) := by
            have h := offset_none (ps := ps) (l := l) hgood.2.1 hgood.2.2.2 (by rw [← hgood.2.2.1]; exact hcc1)
            rwa [← hgood.2.2.1] at h
          have HNO := Lib.hid hnone
          have hcl : (corr ps l num).length ≤ 20 := by rw [corr_len]; exact hpl
          clear hgood h12 hcc1 hcc2 hnone
          obtain ⟨cp, hcp⟩ : ∃ cp, corr ps l num = cp := ⟨_, rfl⟩
          rw [hcp] at HCC HNO hcl
          clear hcp
          go_wp2_with fail
          refine (iCorrectLine (l := l) (dy := num) O4.rd (by omega) hw4 O4.cap).mono ?_
          rintro e w7 h
          rw [HCC.out] at h
          obtain ⟨A7, c7, rfl, O7, B7⟩ := h
          have s7 := B7.size
          have BB7 := BB4.trans (B7.mono hbw)
          have hcode7 := hcode4.below B7
          go_wp2_with fail
          refine (iOffsetOfLine (l := l) O7.rd (by omega) (Nat.le_refl _) O7.cap).mono ?_
          rintro e w8 h
          rw [HNO.out] at h
          obtain ⟨rfl, B8⟩ := h
          have BB8 := BB7.trans (B8.mono (by omega))
          have hcode8 := hcode7.below B8
          go_wp2_with fail
          go_meet
          exact ⟨hcode8, BB8⟩
    case rest => as_aux_lemma =>
      obtain ⟨hcodeA, BBA⟩ := hcut
      clear hcode4 BB4 O4 HTB HOC HOV hw4
      obtain ⟨wa, rfl⟩ : ∃ wa : World, wa = wc := ⟨_, rfl⟩
      go_wp2_with fail
      refine (drawWorst_any hcodeA).mono ?_
      rintro e v1 ⟨Ab, cb, us, rfl, hul, Ob, Bb1⟩
      have t1 := Bb1.size
      have BBb := BBA.trans (Bb1.mono BBA.size)
      have hcodeb := hcodeA.below Bb1
      obtain ⟨wv, hwv⟩ : ∃ wv, vWorstLine us = wv := ⟨_, rfl⟩
      have HWC := Lib.hid (worst_cases us)
      rw [hwv] at HWC
      have HWV := Lib.hid hwv
      clear hwv
      obtain ⟨worst, told⟩ := wv
      go_wp2_with fail
      refine (iWorstLine Ob.rd (by omega) (Nat.le_refl _) Ob.cap).mono ?_
      rintro e v2 h
      rw [HWV.out] at h
      obtain ⟨rfl, Bb2⟩ := h
      have t2 := Bb2.size
      have Ob2 := Ob.below Bb2 (Nat.le_refl _)
      have BBb2 := BBb.trans (Bb2.mono BBb.size)
      have hcodeb2 := hcodeb.below Bb2
      go_wp2_with fail
      refine (sWorstLine Ob2.rd (by omega) t2).mono ?_
      rintro e v3 h
      rw [HWV.out] at h
      obtain ⟨rfl, Bb3⟩ := h
      have t3 := Bb3.size
      have Ob3 := Ob2.below Bb3 t2
      have BBb3 := BBb2.trans (Bb3.mono BBb2.size)
      have hcodeb3 := hcodeb2.below Bb3
      have hv13 : v1.heap.size ≤ v3.heap.size := by omega
      clear Ob Ob2 BBb BBb2 hcodeb hcodeb2 Bb1 Bb2 Bb3 hcodeA BBA t1 t2 t3
      go_upto_if 126 with fail
      go_cut [] (fun wx => Code8 wx A xs ∧ Below w.heap.size w wx)
      case first => as_aux_lemma =>
        rcases told with _ | _
        · go_wp2_with fail
          go_meet
          exact ⟨hcodeb3, BBb3⟩
        · have hgood : isCL us = true ∧ 0 < us.length ∧ worst = (wLine us 99).1 := by
            rcases HWC.out with h | ⟨h1, h2, h3⟩
            · injection h with _ h; cases h
            · injection h3 with a1 a2; exact ⟨h1, h2, a1⟩
          have hlaw := worst_law hgood.1 hgood.2.1
          rw [← hgood.2.2] at hlaw
          have hoy := offset_yes (l := worst) hgood.1 hlaw.1
          have hsm := red_small hgood.1 hlaw.1
          obtain ⟨a, ha⟩ : ∃ a, redN (sumD (ownL us worst)) (ownL us worst).length = a := ⟨_, rfl⟩
          obtain ⟨b, hb⟩ : ∃ b, redD (sumD (ownL us worst)) (ownL us worst).length = b := ⟨_, rfl⟩
          rw [ha, hb] at hoy hsm hlaw
          have HOY := Lib.hid hoy
          have HLW := Lib.hid hlaw.2
          have HCL := Lib.hid hgood.1
          clear ha hb hoy hlaw hgood
          go_wp2_with fail
          refine (iOffsetOfLine (l := worst) Ob3.rd (by omega) hv13 Ob3.cap).mono ?_
          rintro e v4 h
          rw [HOY.out] at h
          obtain ⟨rfl, B4⟩ := h
          have O9 := Ob3.below B4 hv13
          have hcap9 := O9.cap
          have R9 := O9.rd
          have BB9 := BBb3.trans (B4.mono BBb3.size)
          have hcode9 := hcodeb3.below B4
          have hh9 : v1.heap.size ≤ v4.heap.size := by have := B4.size; omega
          clear O9 Ob3 BBb3 hcodeb3 B4 hv13
          generalize wa.heap.size = lo9 at R9
          obtain ⟨hi9, hhi9⟩ : ∃ hi9, hi9 = v1.heap.size := ⟨_, rfl⟩
          rw [← hhi9] at R9 hh9
          clear hhi9
          go_wp2_with fail
          go_loopw [24] (fun i wr => ∃ k : Nat, k ≤ us.length ∧ i = .int .i64 k ∧ Code8 wr A xs ∧ Below w.heap.size w wr ∧ RdC wr lo9 hi9 Ab us ∧ hi9 ≤ wr.heap.size) (fun i _ => us.length - (intOf i).toNat)
          case atStart => exact ⟨0, Nat.zero_le _, rfl, hcode9, BB9, R9, hh9⟩
          case round => as_aux_lemma =>
            clear hcode9 BB9 R9 hh9
            obtain ⟨k, hk, rfl, hcd, hbl, hRd, hhr⟩ := hrel
            by_cases hlt : k < us.length
            rotate_left
            · go_wp2_with fail
              go_meet
              exact ⟨hcd, hbl⟩
            have q1 : (k : Int) < (us.length : Int) := by omega
            obtain ⟨b0, off, q, rfl, _, _, hq, c0', c1', c2', c3'⟩ := hRd.getCrossing hlt
            have hle := HLW.out k q hq
            have hown := own_has hq
            have hoy := offset_yes (l := q.ln) HCL.out hown
            have hsq := red_small HCL.out hown
            obtain ⟨x, hx⟩ : ∃ x, redN (sumD (ownL us q.ln)) (ownL us q.ln).length = x := ⟨_, rfl⟩
            obtain ⟨d, hd⟩ : ∃ d, redD (sumD (ownL us q.ln)) (ownL us q.ln).length = d := ⟨_, rfl⟩
            rw [hx, hd] at hoy hsq hle
            have HOQ := Lib.hid hoy
            have x1 := absI_nonneg x
            have x2 := absI_le (n := x) (b := 210000) (by omega) (by omega)
            have a1 := absI_nonneg a
            have a2 := absI_le (n := a) (b := 210000) (by omega) (by omega)
            have m1 : 0 ≤ absI x * b := Int.mul_nonneg x1 (by omega)
            have m2 : absI x * b ≤ 210000 * 10 := Int.mul_le_mul x2 (by omega) (by omega) (by omega)
            have m3 : 0 ≤ absI a * d := Int.mul_nonneg a1 (by omega)
            have m4 : absI a * d ≤ 210000 * 10 := Int.mul_le_mul a2 (by omega) (by omega) (by omega)
            have q2 : IntKind.i64.wrap (absI x * b) = absI x * b := wr64 (by omega) (by omega)
            have q3 : IntKind.i64.wrap (absI a * d) = absI a * d := wr64 (by omega) (by omega)
            clear hx hd hoy hq hown
            go_wp2_with fail
            refine (iOffsetOfLine (l := q.ln) hRd (by omega) hhr hcap9).mono ?_
            rintro e v5 h
            rw [HOQ.out] at h
            obtain ⟨rfl, B5⟩ := h
            have R5 := hRd.below B5 hhr
            have BB5 := hbl.trans (B5.mono hbl.size)
            have hcode5 := hcd.below B5
            have hh5 : hi9 ≤ v5.heap.size := by have := B5.size; omega
            have HCX := Lib.hid (fun (w : World) => vSize_any x w (by omega) (by omega))
            have HCA := Lib.hid (fun (w : World) => vSize_any a w (by omega) (by omega))
            go_wp2_with fail
            refine (HCX.out _).mono ?_
            rintro e w' ⟨rfl, rfl⟩
            go_wp2_with fail
            refine (HCA.out _).mono ?_
            rintro e w' ⟨rfl, rfl⟩
            go_wp2_with fail
            go_roundw
            case rel => exact ⟨k + 1, by omega, by go_num, hcode5, BB5, R5, hh5⟩
            case measure => simp [intOf]; omega
      case rest => as_aux_lemma =>
        obtain ⟨hcodeA, BBA⟩ := hcut
        clear hcodeb3 BBb3 Ob3 HWC HWV hv13
        go_wp2_with fail
        refine (drawCorrect_any hcodeA).mono ?_
        rintro e x1 ⟨Ad, cd, ys, l2, dy, rfl, hyl, Od, Bd1⟩
        have r1 := Bd1.size
        have BBd := BBA.trans (Bd1.mono BBA.size)
        have hcoded := hcodeA.below Bd1
        obtain ⟨yc, hyc⟩ : ∃ yc, (vCorrectLine ys l2 dy).1 = yc := ⟨_, rfl⟩
        obtain ⟨yb, hyb⟩ : ∃ yb, (vCorrectLine ys l2 dy).2 = yb := ⟨_, rfl⟩
        have hycl : yc.length ≤ 20 := by rw [← hyc]; exact Nat.le_trans (vCorrectLine_len0 _ _ _) hyl
        have HYC := Lib.hid hyc
        have HYB := Lib.hid hyb
        clear hyc hyb
        go_wp2_with fail
        refine (iCorrectLine (l := l2) (dy := dy) Od.rd (by omega) (Nat.le_refl _) Od.cap).mono ?_
        rintro e x2 h
        rw [HYC.out, HYB.out] at h
        obtain ⟨Ag, cg, rfl, Og, Bd2⟩ := h
        have r2 := Bd2.size
        have Od2 := Od.below Bd2 (Nat.le_refl _)
        have BBd2 := BBd.trans (Bd2.mono BBd.size)
        have hcoded2 := hcoded.below Bd2
        go_wp2_with fail
        refine (sCorrectLine (l := l2) (dy := dy) Od2.rd (by omega) r2).mono ?_
        rintro e x3 h
        rw [HYC.out, HYB.out] at h
        obtain ⟨Ah, ch, rfl, Oh, Bd3⟩ := h
        have r3 := Bd3.size
        have Og2 := Og.below Bd3 (Nat.le_refl _)
        have BBd3 := BBd2.trans (Bd3.mono BBd2.size)
        have hcoded3 := hcoded2.below Bd3
        go_wp2_with fail
        refine (vCrossings_same Og2.rd Oh.rd (by omega)).mono ?_
        rintro e x4 ⟨rfl, n4, hn4⟩
        have B4 := below_of_quiet (B := x3.heap.size) hn4
        clear hn4
        have BBd4 := BBd3.trans (B4.mono BBd3.size)
        have hcoded4 := hcoded3.below B4
        clear Od Od2 Og Og2 Oh BBd BBd2 BBd3 hcoded hcoded2 hcoded3 Bd1 Bd2 Bd3 B4 hcodeA BBA r1 r2 r3
        go_wp2_with fail
        refine (drawMean_any hcoded4).mono ?_
        rintro e y1 ⟨Ae, ce, zs, rfl, hzl, Oe, Be1⟩
        have r4 := Be1.size
        have BBe := BBd4.trans (Be1.mono BBd4.size)
        obtain ⟨mv, hmv⟩ : ∃ mv, vMeanDifference zs = mv := ⟨_, rfl⟩
        have HMV := Lib.hid hmv
        clear hmv
        obtain ⟨ma, mb, mk⟩ := mv
        go_wp2_with fail
        refine (iMeanDifference Oe.rd (by omega) (Nat.le_refl _) Oe.cap).mono ?_
        rintro e y2 h
        rw [HMV.out] at h
        obtain ⟨rfl, Be2⟩ := h
        have r5 := Be2.size
        have Oe2 := Oe.below Be2 (Nat.le_refl _)
        have BBe2 := BBe.trans (Be2.mono BBe.size)
        go_wp2_with fail
        refine (sMeanDifference Oe2.rd (by omega) r5).mono ?_
        rintro e y3 h
        rw [HMV.out] at h
        obtain ⟨rfl, Be3⟩ := h
        have BBe3 := BBe2.trans (Be3.mono BBe2.size)
        go_wp2_with fail
        go_ret
        exact ⟨by simp, BBe3⟩

end Go.Proofs.Ytiegnhpccbnhhaa
