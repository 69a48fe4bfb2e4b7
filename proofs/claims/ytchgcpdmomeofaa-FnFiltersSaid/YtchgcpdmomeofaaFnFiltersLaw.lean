/-
  This file proves the walk of the law 'FnFilters': called with any code it returns true, and nothing that was in memory before has turned.
  Conditions: that the code reads as data, as the row's frame hands it over.
-/
import Derived.Test.YtchgcpdmomeofaaTrackL
import Derived.Test.YtchgcpdmomeofaaFilterLaw
import Derived.Test.YtchgcpdmomeofaaLawHelp
import Derived.Deep.DeepCutAuto
namespace Go.Proofs.Ytchgcpdmomeofaa
open Go.RowKit
set_option linter.unusedSimpArgs false
set_option linter.unusedVariables false

theorem Code8.drewN {w : World} {A : Option Addr} {xs : List Int} (h : Code8 w A xs) (n : Nat) : Code8 (w.drewN n) A xs := ⟨h.rd, h.by8, h.len⟩
theorem where_len (xs ys : List Int) : (vWhereShoaler xs ys).1.length ≤ xs.length := by
  unfold vWhereShoaler
  split
  · exact gath_le _ _ _
  · exact Nat.zero_le _
theorem smooth_cases (xs : List Int) (lim : Int) : ∃ (a m : Nat) (b : Bool), vLongestSmooth xs lim = ((a : Int), (m : Int), b) ∧ a + m ≤ xs.length ∧ (b = false → a = 0 ∧ m = 0) := by
  unfold vLongestSmooth
  split
  · have h := (smo_smooth xs lim xs.length).2.2
    exact ⟨_, _, true, rfl, h, fun h => by cases h⟩
  · exact ⟨0, 0, false, rfl, by omega, fun _ => ⟨rfl, rfl⟩⟩

set_option maxHeartbeats 4000000 in
set_option maxRecDepth 100000 in
theorem fnFilters_walk (A : Option Addr) (c : Nat) (xs : List Int) (w : World) (hrd : Rd w 0 w.heap.size 1 A xs.length (bytesV xs)) (hby : ∀ n ∈ xs, (Lit.int .u8 n).wf = true) :
    Calls Try.prog 4 #[.slice A xs.length c] w fun e w' => e = .returned (.bool true) ∧ Below w.heap.size w w' := by
  by_cases hbig : 65536 < xs.length
  · go_enter Try.func4, Try.ntmps4
    go_wp2_with fail
    refine (vBig_any).mono ?_
    rintro e w' ⟨rfl, rfl⟩
    rw [decide_eq_true hbig]
    go_wp2_with fail
    go_ret
    exact ⟨rfl, Below.refl _ _⟩
  have hcode : Code8 w A xs := ⟨hrd, fun x hx => by have h := hby x hx; simp [Lit.wf, IntKind.min, IntKind.max, IntKind.signed, IntKind.bits] at h; omega, by omega⟩
  have HB := Lib.hid hbig
  clear hrd hby hbig
  have BB : Below w.heap.size w w := Below.refl _ _
  go_enter Try.func4, Try.ntmps4
  go_wp2_with fail
  refine (vBig_any).mono ?_
  rintro e w' ⟨rfl, rfl⟩
  rw [decide_eq_false HB.out]
  go_wp2_with fail
  refine (drawShoalFilter_any hcode).mono ?_
  rintro e w1 ⟨A1, c1, tr, rc, rfl, htl, O1, B1⟩
  have s_w1 := B1.size
  replace hcode := hcode.below B1
  replace BB := BB.trans (B1.mono BB.size)
  obtain ⟨sv, hsv⟩ : ∃ sv, vShoalFilter tr rc = sv := ⟨_, rfl⟩
  have HSV := Lib.hid hsv
  obtain ⟨sl, sb⟩ := sv
  have hsl := shoal_law hsv
  have hsl1 := hsl.1
  have HSL := Lib.hid hsl.2
  clear hsv hsl
  go_wp2_with fail
  refine (iShoalFilter (reach := rc) O1.rd (by omega) (Nat.le_refl _) O1.cap).mono ?_
  rintro e w2 h
  rw [HSV.out] at h
  obtain ⟨A2, c2, rfl, O2, B2⟩ := h
  have s_w2 := B2.size
  replace hcode := hcode.below B2
  replace O1 := O1.below B2 (by omega)
  replace BB := BB.trans (B2.mono BB.size)
  go_wp2_with fail
  refine (sShoalFilter (reach := rc) O1.rd (by omega) (by omega)).mono ?_
  rintro e w3 h
  rw [HSV.out] at h
  obtain ⟨A3, c3, rfl, O3, B3⟩ := h
  have s_w3 := B3.size
  replace hcode := hcode.below B3
  replace O1 := O1.below B3 (by omega)
  replace O2 := O2.below B3 (by omega)
  replace BB := BB.trans (B3.mono BB.size)
  go_wp2_with fail
  refine (vInts_same O2.rd O3.rd (by omega)).mono ?_
  rintro e w4 ⟨rfl, n4, hn4⟩
  have B4 := below_of_quiet (B := w3.heap.size) hn4
  clear hn4 O3
  have s_w4 := B4.size
  replace hcode := hcode.below B4
  replace O1 := O1.below B4 (by omega)
  replace O2 := O2.below B4 (by omega)
  replace BB := BB.trans (B4.mono BB.size)
  clear B1 B2 B3 B4
  go_wp2_with fail
  go_loopw [9] (fun i wr => ∃ k : Nat, k ≤ sl.length ∧ i = .int .i64 k ∧ Code8 wr A xs ∧ Below w.heap.size w wr ∧ OwnI wr 3 w.heap.size w1.heap.size A1 c1 tr ∧ OwnI wr 3 w1.heap.size w2.heap.size A2 c2 sl) (fun i _ => sl.length - (intOf i).toNat)
  case atStart => exact ⟨0, Nat.zero_le _, rfl, hcode, BB, O1, O2⟩
  case round => as_aux_lemma =>
    clear hcode BB O1 O2 s_w1 s_w2 s_w3 s_w4
    obtain ⟨k, hk, rfl, hcode, BB, O1, O2⟩ := hrel
    by_cases hlt : k < sl.length
    · obtain ⟨b1, o1, x, rfl, hx, hc1⟩ := O2.rd.geti hlt
      obtain ⟨b2, o2, y, rfl, hy, hc2⟩ := O1.rd.geti (show k < tr.length by omega)
      have hxy := HSL.out k x y hx hy
      have q1 : (k : Int) < (sl.length : Int) := by omega
      have q2 : (k : Int) < (tr.length : Int) := by omega
      have q3 : ¬ y < x := by omega
      have q4 : (decide (y < x)) = false := by simpa using hxy
      clear hx hy hxy
      go_wp2_with fail
      go_quiet (fail)
      go_wp2_with fail
      go_roundw
      case rel => exact ⟨k + 1, by omega, by go_num, hcode.drewN _, below_drewN BB _, O1.drewN _, O2.drewN _⟩
      case measure => simp [intOf]; omega
    clear O1 O2 hsl1 HSL HSV htl
    obtain ⟨v0, rfl⟩ : ∃ v0 : World, v0 = wr := ⟨_, rfl⟩
    go_wp2_with fail
    refine (drawRoughnessOf_any hcode).mono ?_
    rintro e v1 ⟨A4, c4, tx, rfl, hxl, O4, B1⟩
    have s_v1 := B1.size
    replace hcode := hcode.below B1
    replace BB := BB.trans (B1.mono BB.size)
    obtain ⟨rv, hrv⟩ : ∃ rv, vRoughnessOf tx = rv := ⟨_, rfl⟩
    have HRV := Lib.hid hrv
    obtain ⟨rg, told⟩ := rv
    clear hrv
    go_wp2_with fail
    refine (iRoughnessOf O4.rd (by omega) (Nat.le_refl _)).mono ?_
    rintro e v2 h
    rw [HRV.out] at h
    obtain ⟨rfl, B2⟩ := h
    have s_v2 := B2.size
    replace hcode := hcode.below B2
    replace O4 := O4.below B2 (by omega)
    replace BB := BB.trans (B2.mono BB.size)
    go_wp2_with fail
    refine (sRoughnessOf O4.rd (by omega) (by omega)).mono ?_
    rintro e v3 h
    rw [HRV.out] at h
    obtain ⟨rfl, B3⟩ := h
    have s_v3 := B3.size
    replace hcode := hcode.below B3
    replace O4 := O4.below B3 (by omega)
    replace BB := BB.trans (B3.mono BB.size)
    clear B1 B2 B3
    go_upto_if 100 with fail
    go_cut [] (fun wx => Code8 wx A xs ∧ Below w.heap.size w wx)
    case first => as_aux_lemma =>
      rcases told with _ | _
      · go_wp2_with fail
        go_meet
        exact ⟨hcode, BB⟩
      · have htx : isTrk tx = true := by
          have h := HRV.out
          unfold vRoughnessOf at h
          split at h
          · rename_i hc; exact hc
          · injection h with _ h; cases h
        have hlaw := rough_law htx
        have hrg : rsum (stepSize tx) (tx.length - 1) = rg := by have h := hlaw.2.2.1; rw [HRV.out] at h; injection h with h _; exact h.symm
        rw [hrg] at hlaw
        have HM1 := Lib.hid hlaw.1
        have HM2 := Lib.hid hlaw.2.1
        have hle := hlaw.2.2.2
        have hml : (medL tx).length ≤ 31 := by rw [medL_length]; exact hxl
        generalize rsum (stepSize (medL tx)) (tx.length - 1) = rm at HM2 hle
        generalize medL tx = mx at HM1 HM2 hml
        have q1 : ¬ rg < rm := by omega
        have q2 : decide (rg < rm) = false := by simpa using hle
        clear htx hlaw hrg hle
        go_wp2_with fail
        refine (iMedianFilter O4.rd (by omega) (by omega) O4.cap).mono ?_
        rintro e v4 h
        rw [HM1.out] at h
        obtain ⟨A5, c5, rfl, O5, B4⟩ := h
        have s_v4 := B4.size
        replace hcode := hcode.below B4
        replace BB := BB.trans (B4.mono BB.size)
        go_wp2_with fail
        refine (iRoughnessOf O5.rd (by omega) (Nat.le_refl _)).mono ?_
        rintro e v5 h
        rw [HM2.out] at h
        obtain ⟨rfl, B5⟩ := h
        have s_v5 := B5.size
        replace hcode := hcode.below B5
        replace BB := BB.trans (B5.mono BB.size)
        go_wp2_with fail
        go_meet
        exact ⟨hcode, BB⟩
    case rest => as_aux_lemma =>
      clear hcode BB O4 HRV
      obtain ⟨hcode, BB⟩ := hcut
      obtain ⟨x0, rfl⟩ : ∃ wz : World, wz = wc := ⟨_, rfl⟩
      go_wp2_with fail
      refine (drawLongestSmooth_any hcode).mono ?_
      rintro e x1 ⟨A6, c6, ty, ly, rfl, hyl, O6, B1⟩
      have s_x1 := B1.size
      replace hcode := hcode.below B1
      replace BB := BB.trans (B1.mono BB.size)
      obtain ⟨a, m, fine, hsm, ham, hno⟩ := smooth_cases ty ly
      have HSM := Lib.hid hsm
      have HNO := Lib.hid hno
      have HSL := Lib.hid (fun (h : fine = true) => smooth_law (xs := ty) (lim := ly) (at_ := (a : Int)) (n := (m : Int)) (by rw [hsm, h]))
      clear hsm hno
      go_wp2_with fail
      refine (iLongestSmooth (lim := ly) O6.rd (by omega) (Nat.le_refl _)).mono ?_
      rintro e x2 h
      rw [HSM.out] at h
      obtain ⟨rfl, B2⟩ := h
      have s_x2 := B2.size
      replace hcode := hcode.below B2
      replace O6 := O6.below B2 (by omega)
      replace BB := BB.trans (B2.mono BB.size)
      go_wp2_with fail
      refine (sLongestSmooth (lim := ly) O6.rd (by omega) (by omega)).mono ?_
      rintro e x3 h
      rw [HSM.out] at h
      obtain ⟨rfl, B3⟩ := h
      have s_x3 := B3.size
      replace hcode := hcode.below B3
      replace O6 := O6.below B3 (by omega)
      replace BB := BB.trans (B3.mono BB.size)
      clear B1 B2 B3
      go_wp2_with fail
      go_loopw [27] (fun i wr => ∃ k : Nat, i = .int .i64 k ∧ a + 1 ≤ k ∧ k ≤ 40 ∧ Code8 wr A xs ∧ Below w.heap.size w wr ∧ OwnI wr 3 x0.heap.size x1.heap.size A6 c6 ty) (fun i _ => 41 - (intOf i).toNat)
      case atStart => exact ⟨a + 1, by go_num, Nat.le_refl _, by omega, hcode, BB, O6⟩
      case round => as_aux_lemma =>
        clear hcode BB O6 s_x1 s_x2 s_x3
        obtain ⟨k, rfl, hk1, hk2, hcode, BB, O6⟩ := hrel
        by_cases hlt : k < a + m
        · have hf : fine = true := by
            rcases fine with _ | _
            · have := HNO.out rfl; omega
            · rfl
          subst hf
          obtain ⟨k', rfl⟩ : ∃ k', k = k' + 1 := ⟨k - 1, by omega⟩
          obtain ⟨b1, o1, x, rfl, hx, hc1⟩ := O6.rd.geti (show k' + 1 < ty.length by omega)
          obtain ⟨b2, o2, y, hrow, hy, hc2⟩ := O6.rd.geti (show k' < ty.length by omega)
          injection hrow with hrow
          injection hrow with hb hof hpath
          subst hb
          subst hof
          have hsl := HSL.out rfl
          have hxy := hsl.2.2.2.2 (k' + 1) x y (by omega) (by omega) hx hy
          have hbx := allDepth_get hsl.2.2.2.1 hx
          have hby := allDepth_get hsl.2.2.2.1 hy
          have q1 : ((k' + 1 : Nat) : Int) < (a : Int) + (m : Int) := by omega
          have q2 : ((k' + 1 : Nat) : Int) - 1 = (k' : Int) := by omega
          have q3 : (0 : Int) ≤ ((k' + 1 : Nat) : Int) := by omega
          have q4 : ((k' + 1 : Nat) : Int) < (ty.length : Int) := by omega
          have q5 : (k' : Int) < (ty.length : Int) := by omega
          have q6 : IntKind.i64.wrap (((k' + 1 : Nat) : Int) - 1) = (k' : Int) := by rw [q2]; exact wr64 (by omega) (by omega)
          have q7 : IntKind.i64.wrap (x - y) = x - y := wr64 (by omega) (by omega)
          have q8 : IntKind.i64.wrap ((a : Int) + (m : Int)) = (a : Int) + (m : Int) := wr64 (by omega) (by omega)
          have q9 : decide (absI (x - y) > ly) = false := by rw [decide_eq_false_iff_not]; omega
          have q10 : ¬ ly < absI (x - y) := by omega
          have b1' : -4611686018427387904 ≤ x - y := by omega
          have b2' : x - y ≤ 4611686018427387904 := by omega
          clear hx hy hxy hbx hby hsl q2
          go_wp2_with fail
          go_quiet ((go_at_call 34; exact Calls.quiet_of_same ((vSize_any _ _ b1' b2').mono fun _ _ h => ⟨h.1, h.2.symm⟩)))
          go_wp2_with fail
          go_roundw
          case rel => exact ⟨k' + 1 + 1, by go_num, by omega, by omega, hcode.drewN _, below_drewN BB _, O6.drewN _⟩
          case measure => simp [intOf]; omega
        clear O6 HSM HNO HSL hyl
        obtain ⟨y0, rfl⟩ : ∃ y0 : World, y0 = wr := ⟨_, rfl⟩
        have q1 : ¬ (k : Int) < (a : Int) + (m : Int) := by omega
        have q8 : IntKind.i64.wrap ((a : Int) + (m : Int)) = (a : Int) + (m : Int) := wr64 (by omega) (by omega)
        go_wp2_with fail
        refine (drawWhereShoaler_any hcode).mono ?_
        rintro e y1 ⟨B7, C7, d7, h7, tp, tq, rfl, hpl, hql, O7, O8, B1⟩
        have s_y1 := B1.size
        replace hcode := hcode.below B1
        replace BB := BB.trans (B1.mono BB.size)
        obtain ⟨wv, hwv⟩ : ∃ wv, vWhereShoaler tp tq = wv := ⟨_, rfl⟩
        have hwl := where_len tp tq
        rw [hwv] at hwl
        have HWV := Lib.hid hwv
        obtain ⟨wl, known⟩ := wv
        simp only at hwl
        clear hwv
        go_wp2_with fail
        refine (iWhereShoaler O7.rd (by omega) (by omega) O8.rd (by omega) (by omega)).mono ?_
        rintro e y2 h
        rw [HWV.out] at h
        obtain ⟨A9, c9, rfl, O9, B2⟩ := h
        have s_y2 := B2.size
        replace hcode := hcode.below B2
        replace O7 := O7.below B2 (by omega)
        replace O8 := O8.below B2 (by omega)
        replace BB := BB.trans (B2.mono BB.size)
        go_wp2_with fail
        refine (sWhereShoaler O7.rd (by omega) (by omega) O8.rd (by omega) (by omega)).mono ?_
        rintro e y3 h
        rw [HWV.out] at h
        obtain ⟨Aa, ca, rfl, Oa, B3⟩ := h
        have s_y3 := B3.size
        replace hcode := hcode.below B3
        replace O7 := O7.below B3 (by omega)
        replace O8 := O8.below B3 (by omega)
        replace O9 := O9.below B3 (by omega)
        replace BB := BB.trans (B3.mono BB.size)
        go_wp2_with fail
        refine (vInts_same O9.rd Oa.rd (by omega)).mono ?_
        rintro e y4 ⟨rfl, n4, hn4⟩
        have B4 := below_of_quiet (B := y3.heap.size) hn4
        clear hn4 Oa
        have s_y4 := B4.size
        replace hcode := hcode.below B4
        replace O7 := O7.below B4 (by omega)
        replace O8 := O8.below B4 (by omega)
        replace O9 := O9.below B4 (by omega)
        replace BB := BB.trans (B4.mono BB.size)
        clear B1 B2 B3 B4
        rcases known with _ | _
        · go_wp2_with fail
          go_ret
          exact ⟨rfl, BB⟩
        obtain ⟨r, hr, hrl, hno⟩ := where_law HWV.out
        have HR := Lib.hid hr
        have HNO := Lib.hid hno
        clear hr hno
        go_wp2_with fail
        refine (iWhereShoaler O8.rd (by omega) (by omega) O7.rd (by omega) (by omega)).mono ?_
        rintro e y5 h
        rw [HR.out] at h
        obtain ⟨Ab, cb, rfl, Ob, B5⟩ := h
        have s_y5 := B5.size
        replace O9 := O9.below B5 (by omega)
        replace BB := BB.trans (B5.mono BB.size)
        go_wp2_with fail
        go_loop [36] (fun i => ∃ k : Nat, k ≤ wl.length ∧ i = .int .i64 k) (fun i => wl.length - (intOf i).toNat)
        case atStart => exact ⟨0, Nat.zero_le _, rfl⟩
        case round =>
          obtain ⟨j, hj, rfl⟩ := hrel
          by_cases hlt2 : j < wl.length
          · obtain ⟨b0, off, x, rfl, hx, hcell⟩ := O9.rd.geti hlt2
            have HM := Lib.hid (HNO.out x (List.mem_of_getElem? hx))
            have q1 : (j : Int) < (wl.length : Int) := by omega
            clear hx
            go_wp2_with fail
            refine (vHas_any (x := x) Ob.rd (by omega)).mono ?_
            rintro e w' ⟨rfl, rfl⟩
            rw [HM.out]
            go_wp2_with fail
            go_round
            case rel => exact ⟨j + 1, by omega, by go_num⟩
            case measure => simp [intOf]; omega
          · go_wp2_with fail
            go_ret
            exact ⟨rfl, BB⟩

end Go.Proofs.Ytchgcpdmomeofaa
