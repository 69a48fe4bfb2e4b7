/-
  This file proves the walk of the law 'FnPasses': called with any code it returns true, and nothing that was in memory before has turned.
  Conditions: that the code reads as data, as the row's frame hands it over.
-/
import Derived.Test.YtaehfcdcdjlanaaPassH3
import Derived.Test.YtaehfcdcdjlanaaPassLaw
import Derived.Test.YtaehfcdcdjlanaaLawHelpR
import Derived.Test.YtaehfcdcdjlanaaPassF
import Derived.Deep.DeepCutAuto
namespace Go.Proofs.Ytaehfcdcdjlanaa
open Go.RowKit
set_option linter.unusedSimpArgs false
set_option linter.unusedVariables false

theorem Code8.drewN {w : World} {A : Option Addr} {xs : List Int} (h : Code8 w A xs) (n : Nat) : Code8 (w.drewN n) A xs := ⟨h.rd, h.by8, h.len⟩

set_option maxHeartbeats 4000000 in
set_option maxRecDepth 100000 in
theorem fnPasses_walk (A : Option Addr) (c : Nat) (xs : List Int) (w : World) (hrd : Rd w 0 w.heap.size 1 A xs.length (bytesV xs)) (hby : ∀ n ∈ xs, (Lit.int .u8 n).wf = true) :
    Calls Try.prog 3 #[.slice A xs.length c] w fun e w' => e = .returned (.bool true) ∧ Below w.heap.size w w' := by
  by_cases hbig : 65536 < xs.length
  · go_enter Try.func3, Try.ntmps3
    go_wp2_with fail
    refine (rBig_any).mono ?_
    rintro e w' ⟨rfl, rfl⟩
    rw [decide_eq_true hbig]
    go_wp2_with fail
    go_ret
    exact ⟨rfl, Below.refl _ _⟩
  have hcode : Code8 w A xs := ⟨hrd, fun x hx => by have h := hby x hx; simp [Lit.wf, IntKind.min, IntKind.max, IntKind.signed, IntKind.bits] at h; omega, by omega⟩
  have HB := Lib.hid hbig
  clear hrd hby hbig
  have BB : Below w.heap.size w w := Below.refl _ _
  go_enter Try.func3, Try.ntmps3
  go_wp2_with fail
  refine (rBig_any).mono ?_
  rintro e w' ⟨rfl, rfl⟩
  rw [decide_eq_false HB.out]
  go_wp2_with fail
  refine (drawLinesToRepeat_any hcode).mono ?_
  rintro e w1 ⟨A1, A2, c1, c2, ps, pl, rfl, hl1, hl2, O1, O2, B1⟩
  have s_w1 := B1.size
  replace hcode := hcode.below B1
  replace BB := BB.trans (B1.mono BB.size)
  clear B1
  obtain ⟨v_LR, h_LR⟩ : ∃ v, vLinesToRepeat ps pl = v := ⟨_, rfl⟩
  have HLR := Lib.hid h_LR
  obtain ⟨R, ok⟩ := v_LR
  obtain ⟨v_SL, h_SL⟩ : ∃ v, vSailedLines ps = v := ⟨_, rfl⟩
  have HSL := Lib.hid h_SL
  obtain ⟨S, fine⟩ := v_SL
  have hRl := vLinesToRepeat_len0 ps pl
  rw [h_LR] at hRl
  simp only at hRl
  obtain ⟨hfl, hSl, _⟩ := sailed_flag h_SL
  have HFL := Lib.hid hfl.symm
  have HREP := Lib.hid (fun (h : ok = true) => repeat_law (by rw [h_LR, h]) h_SL)
  have HSH := Lib.hid (share_law h_SL)
  clear h_LR h_SL hfl
  go_wp2_with fail
  refine (iLinesToRepeat O1.rd (by omega) (by omega) O2.rd (by omega) (by omega)).mono ?_
  rintro e w2 h
  rw [HLR.out] at h
  obtain ⟨A3, c3, rfl, O3, B2⟩ := h
  have s_w2 := B2.size
  replace hcode := hcode.below B2
  replace O1 := O1.below B2 (by omega)
  replace O2 := O2.below B2 (by omega)
  replace BB := BB.trans (B2.mono BB.size)
  clear B2
  go_wp2_with fail
  refine (sLinesToRepeat O1.rd (by omega) (by omega) O2.rd (by omega) (by omega)).mono ?_
  rintro e w3 h
  rw [HLR.out] at h
  obtain ⟨A4, c4, rfl, O4, B3⟩ := h
  have s_w3 := B3.size
  replace hcode := hcode.below B3
  replace O1 := O1.below B3 (by omega)
  replace O2 := O2.below B3 (by omega)
  replace O3 := O3.below B3 (by omega)
  replace BB := BB.trans (B3.mono BB.size)
  clear B3
  go_wp2_with fail
  refine (rInts_same O3.rd O4.rd (by omega)).mono ?_
  rintro e w4 ⟨rfl, nq, hnq⟩
  have B4 := below_of_quiet (B := w3.heap.size) hnq
  clear hnq
  have s_w4 := B4.size
  replace hcode := hcode.below B4
  replace O1 := O1.below B4 (by omega)
  replace O2 := O2.below B4 (by omega)
  replace O3 := O3.below B4 (by omega)
  replace O4 := O4.below B4 (by omega)
  replace BB := BB.trans (B4.mono BB.size)
  clear B4
  clear O4
  go_wp2_with fail
  refine (iSailedLines O1.rd (by omega) (by omega)).mono ?_
  rintro e w5 h
  rw [HSL.out] at h
  obtain ⟨A5, c5, rfl, O5, B5⟩ := h
  have s_w5 := B5.size
  replace hcode := hcode.below B5
  replace O1 := O1.below B5 (by omega)
  replace O2 := O2.below B5 (by omega)
  replace O3 := O3.below B5 (by omega)
  replace BB := BB.trans (B5.mono BB.size)
  clear B5
  go_wp2_with fail
  refine (sSailedLines O1.rd (by omega) (by omega)).mono ?_
  rintro e w6 h
  rw [HSL.out] at h
  obtain ⟨A6, c6, rfl, O6, B6⟩ := h
  have s_w6 := B6.size
  replace hcode := hcode.below B6
  replace O1 := O1.below B6 (by omega)
  replace O2 := O2.below B6 (by omega)
  replace O3 := O3.below B6 (by omega)
  replace O5 := O5.below B6 (by omega)
  replace BB := BB.trans (B6.mono BB.size)
  clear B6
  go_wp2_with fail
  refine (rInts_same O5.rd O6.rd (by omega)).mono ?_
  rintro e w7 ⟨rfl, nq, hnq⟩
  have B7 := below_of_quiet (B := w6.heap.size) hnq
  clear hnq
  have s_w7 := B7.size
  replace hcode := hcode.below B7
  replace O1 := O1.below B7 (by omega)
  replace O2 := O2.below B7 (by omega)
  replace O3 := O3.below B7 (by omega)
  replace O5 := O5.below B7 (by omega)
  replace O6 := O6.below B7 (by omega)
  replace BB := BB.trans (B7.mono BB.size)
  clear B7
  clear O6
  go_wp2_with fail
  refine (arePasses_any O1.rd (by omega) (by omega)).mono ?_
  rintro e w8 h
  rw [HFL.out] at h
  obtain ⟨rfl, B8⟩ := h
  have s_w8 := B8.size
  replace hcode := hcode.below B8
  replace O1 := O1.below B8 (by omega)
  replace O2 := O2.below B8 (by omega)
  replace O3 := O3.below B8 (by omega)
  replace O5 := O5.below B8 (by omega)
  replace BB := BB.trans (B8.mono BB.size)
  clear B8
  go_wp2_with fail
  go_loopw [13] (fun i wr => ∃ k : Nat, k ≤ pl.length ∧ i = .int .i64 k ∧ Code8 wr A xs ∧ Below w.heap.size w wr ∧ Own wr 40 w.heap.size w1.heap.size 6 A1 ps.length c1 (passCells ps) ∧ OwnI wr 3 w.heap.size w1.heap.size A2 c2 pl ∧ OwnI wr 3 w1.heap.size w2.heap.size A3 c3 R ∧ OwnI wr 3 w4.heap.size w5.heap.size A5 c5 S ∧ w5.heap.size ≤ wr.heap.size) (fun i _ => pl.length - (intOf i).toNat)
  case atStart => exact ⟨0, Nat.zero_le _, rfl, hcode, BB, O1, O2, O3, O5, by omega⟩
  case round => as_aux_lemma =>
    have sz5 : w1.heap.size ≤ w2.heap.size ∧ w2.heap.size ≤ w4.heap.size ∧ w4.heap.size ≤ w5.heap.size := by omega
    clear hcode BB O1 O2 O3 O5 s_w2 s_w3 s_w4 s_w5 s_w6 s_w7 s_w8 HLR HSL HFL
    obtain ⟨k, hk, rfl, hcode, BB, O1, O2, O3, O5, hsz⟩ := hrel
    obtain ⟨tb, htb⟩ : ∃ tb : Bool, tb = (decide (k < pl.length) && ok) := ⟨_, rfl⟩
    have HTB := Lib.hid htb
    clear htb
    go_upto_region 13 with fail
    go_cut [97] (fun s wx => s = .bool tb ∧ wx = wr)
    case first => as_aux_lemma =>
      by_cases hlt : k < pl.length
      · have q1 : (k : Int) < (pl.length : Int) := by omega
        have HT := Lib.hid (show tb = ok from by rw [HTB.out, decide_eq_true hlt]; rfl)
        go_wp2_with fail
        go_meet
        exact ⟨by rw [HT.out], rfl⟩
      · have q1 : ¬ (k : Int) < (pl.length : Int) := by omega
        have HT := Lib.hid (show tb = false from by rw [HTB.out, decide_eq_false hlt]; rfl)
        go_wp2_with fail
        go_meet
        exact ⟨by rw [HT.out], rfl⟩
    case rest => as_aux_lemma =>
      obtain ⟨rfl, rfl⟩ := hcut
      obtain ⟨x0, rfl⟩ : ∃ wz : World, wz = wc := ⟨_, rfl⟩
      rcases htb : tb with _ | _
      rotate_left
      · have h12 : k < pl.length ∧ ok = true := by have := HTB.out; rw [htb] at this; simpa using this.symm
        obtain ⟨hlt, hok⟩ := h12
        obtain ⟨b1, o1, x, rfl, hx, hc1⟩ := O2.rd.geti hlt
        have hrx := HREP.out hok x (List.mem_of_getElem? hx)
        obtain ⟨bs, hbs⟩ : ∃ bs : Bool, decide (x ∈ S) = bs := ⟨_, rfl⟩
        rw [hbs] at hrx
        have HCP := Lib.hid (fun (n : Nat) => show Calls Try.prog 16 #[.slice A3 R.length c3, .int .i64 x] (x0.drewN n) (fun e w' => e = .returned (.bool (!bs)) ∧ x0.drewN n = w') from by
          have h := rHas_any (c := c3) (x := x) (O3.rd.drewN n) (by omega)
          rw [hrx] at h
          exact h)
        have HCQ := Lib.hid (fun (n : Nat) => show Calls Try.prog 16 #[.slice A5 S.length c5, .int .i64 x] (x0.drewN n) (fun e w' => e = .returned (.bool bs) ∧ x0.drewN n = w') from by
          have h := rHas_any (c := c5) (x := x) (O5.rd.drewN n) (by omega)
          rw [hbs] at h
          exact h)
        have q1 : (k : Int) < (pl.length : Int) := by omega
        clear hx hrx hbs hok HTB HREP HSH
        rcases bs with _ | _
        · go_wp2_with fail
          go_quiet ((first | (go_at_call 16; with_reducible exact quiet_left (HCP.out _)) | (go_at_call 16; with_reducible exact quiet_left (HCQ.out _))))
          go_wp2_with fail
          go_roundw
          case rel => exact ⟨k + 1, by omega, by go_num, hcode.drewN _, below_drewN BB _, O1.drewN _, O2.drewN _, O3.drewN _, O5.drewN _, hsz⟩
          case measure => simp [intOf]; omega
        · go_wp2_with fail
          go_quiet ((first | (go_at_call 16; with_reducible exact quiet_left (HCP.out _)) | (go_at_call 16; with_reducible exact quiet_left (HCQ.out _))))
          go_wp2_with fail
          go_roundw
          case rel => exact ⟨k + 1, by omega, by go_num, hcode.drewN _, below_drewN BB _, O1.drewN _, O2.drewN _, O3.drewN _, O5.drewN _, hsz⟩
          case measure => simp [intOf]; omega
      clear HTB HREP O2 O3 htb
      go_wp2_with fail
      go_loopw [14] (fun i wr => ∃ k : Nat, k ≤ S.length ∧ i = .int .i64 k ∧ Code8 wr A xs ∧ Below w.heap.size w wr ∧ Own wr 40 w.heap.size w1.heap.size 6 A1 ps.length c1 (passCells ps) ∧ OwnI wr 3 w4.heap.size w5.heap.size A5 c5 S ∧ w5.heap.size ≤ wr.heap.size) (fun i _ => S.length - (intOf i).toNat)
      case atStart => exact ⟨0, Nat.zero_le _, rfl, hcode, BB, O1, O5, hsz⟩
      case round => as_aux_lemma =>
        clear hcode BB O1 O5 hsz
        obtain ⟨k, hk, rfl, hcode, BB, O1, O5, hsz⟩ := hrel
        by_cases hlt : k < S.length
        · obtain ⟨b1, o1, x, rfl, hx, hc1⟩ := O5.rd.geti hlt
          obtain ⟨num, den, hgs, hno, hnb, hdb⟩ := HSH.out x (List.mem_of_getElem? hx)
          have HGS := Lib.hid hgs
          have q1 : (k : Int) < (S.length : Int) := by omega
          have q2 : decide (10 * num < 9 * den) = false := by rw [decide_eq_false_iff_not]; omega
          clear hx hgs HSH
          go_wp2_with fail
          refine (iGoodShare (line := x) O1.rd (by omega) (by omega)).mono ?_
          rintro e z1 h
          rw [HGS.out] at h
          obtain ⟨rfl, B1⟩ := h
          have sz1 := B1.size
          replace hcode := hcode.below B1
          replace O1 := O1.below B1 (by omega)
          replace O5 := O5.below B1 (by omega)
          replace BB := BB.trans (B1.mono BB.size)
          clear B1
          go_wp2_with fail
          go_roundw
          case rel => exact ⟨k + 1, by omega, by go_num, hcode, BB, O1, O5, by omega⟩
          case measure => simp [intOf]; omega
        clear O1 O5 HSH hsz
        obtain ⟨y0, rfl⟩ : ∃ wz : World, wz = wr := ⟨_, rfl⟩
        go_wp2_with fail
        refine (drawBusyShare_any hcode).mono ?_
        rintro e y1 ⟨A7, c7, qs, fa, fb, rfl, hql, O7, B9⟩
        have s_y1 := B9.size
        replace hcode := hcode.below B9
        replace BB := BB.trans (B9.mono BB.size)
        clear B9
        obtain ⟨v3, h3⟩ : ∃ v, vBusyShare qs fa fb = v := ⟨_, rfl⟩
        have HBS := Lib.hid h3
        obtain ⟨num, den, told⟩ := v3
        have HBL := Lib.hid (fun (h : told = true) => busy_law (by rw [h3, h]))
        clear h3
        go_wp2_with fail
        refine (iBusyShare (a := fa) (b := fb) O7.rd (by omega) (by omega)).mono ?_
        rintro e y2 h
        rw [HBS.out] at h
        obtain ⟨rfl, B10⟩ := h
        have s_y2 := B10.size
        replace hcode := hcode.below B10
        replace O7 := O7.below B10 (by omega)
        replace BB := BB.trans (B10.mono BB.size)
        clear B10
        go_wp2_with fail
        refine (sBusyShare (a := fa) (b := fb) O7.rd (by omega) (by omega)).mono ?_
        rintro e y3 h
        rw [HBS.out] at h
        obtain ⟨rfl, B11⟩ := h
        have s_y3 := B11.size
        replace hcode := hcode.below B11
        replace O7 := O7.below B11 (by omega)
        replace BB := BB.trans (B11.mono BB.size)
        clear B11
        go_upto_region 26 with fail
        go_cut [184] (fun s wx => s = .bool false ∧ wx = y3)
        case first => as_aux_lemma =>
          rcases told with _ | _
          · go_wp2_with fail
            go_meet
            exact ⟨rfl, rfl⟩
          · obtain ⟨h0, h1, _⟩ := HBL.out rfl
            have q1 : ¬ num < 0 := by omega
            have q2 : ¬ den < num := by omega
            have q3 : decide (num < 0) = false := decide_eq_false q1
            have q4 : decide (den < num) = false := decide_eq_false q2
            go_wp2_with fail
            go_meet
            exact ⟨rfl, rfl⟩
        case rest => as_aux_lemma =>
          obtain ⟨rfl, hwy⟩ := hcut
          subst hwy
          go_upto_if 185 with fail
          go_cut [] (fun wx => Code8 wx A xs ∧ Below w.heap.size w wx)
          case first => as_aux_lemma =>
            rcases told with _ | _
            · go_wp2_with fail
              go_meet
              exact ⟨hcode, BB⟩
            obtain ⟨_, _, hip, hsb, al, un, hbl, hmul, halb, hunb⟩ := HBL.out rfl
            have HAL := Lib.hid hbl
            have HMUL := Lib.hid hmul
            have HSB := Lib.hid hsb
            have HPB := Lib.hid (fun (k : Nat) (p : GPass) (hp : qs[k]? = some p) => isPs_bound (isPL_get hip hp).1)
            clear hbl hmul hsb HBL hip
            go_wp2_with fail
            refine (iBusyShare (a := 0) (b := 10000) O7.rd (by omega) (by omega)).mono ?_
            rintro e y4 h
            rw [HAL.out] at h
            obtain ⟨rfl, B4⟩ := h
            have sz4 := B4.size
            replace hcode := hcode.below B4
            replace O7 := O7.below B4 (by omega)
            replace BB := BB.trans (B4.mono BB.size)
            clear B4 HAL HBS
            go_wp2_with fail
            go_loopw [30, 31] (fun t i wr => ∃ k : Nat, k ≤ qs.length ∧ i = .int .i64 k ∧ t = .int .i64 (rsum (fL qs) k) ∧ Code8 wr A xs ∧ Below w.heap.size w wr ∧ Own wr 40 y0.heap.size y1.heap.size 6 A7 qs.length c7 (passCells qs)) (fun _ i _ => qs.length - (intOf i).toNat)
            case atStart => exact ⟨0, Nat.zero_le _, rfl, rfl, hcode, BB, O7⟩
            case round => as_aux_lemma =>
              clear hcode BB O7 s_y1 s_y2 s_y3
              obtain ⟨k, hk, rfl, rfl, hcode, BB, O7⟩ := hrel
              have hsk := HSB.out k hk
              by_cases hlt : k < qs.length
              · obtain ⟨b1, o1, p, rfl, _, _, hp, e0, e1, e2, e3, e4, e5⟩ := Rd.getp O7.rd hlt
                have hsk1 := HSB.out (k + 1) (by omega)
                have hst : rsum (fL qs) (k + 1) = rsum (fL qs) k + (p.en - p.bg) := by rw [rsum_succ]; unfold fL; rw [gP_of hp]
                have hpb := HPB.out k p hp
                rw [hst] at hsk1
                have HST := Lib.hid hst
                obtain ⟨s, hs⟩ : ∃ s, s = rsum (fL qs) k := ⟨_, rfl⟩
                rw [← hs] at hsk hsk1 ⊢
                have HS := Lib.hid hs
                have q1 : (k : Int) < (qs.length : Int) := by omega
                have q2 : IntKind.i64.wrap (s + p.en) = s + p.en := wr64 (by omega) (by omega)
                have q3 : IntKind.i64.wrap (s + p.en - p.bg) = s + p.en - p.bg := wr64 (by omega) (by omega)
                clear hp hst hs
                go_wp2_with fail
                go_quiet (fail)
                go_wp2_with fail
                go_roundw
                case rel => exact ⟨k + 1, by omega, by go_num, by rw [HST.out, ← HS.out]; go_num, hcode.drewN _, below_drewN BB _, O7.drewN _⟩
                case measure => simp [intOf]; omega
              obtain rfl : k = qs.length := by omega
              have hmul := HMUL.out
              obtain ⟨s, hs⟩ : ∃ s, s = rsum (fL qs) qs.length := ⟨_, rfl⟩
              rw [← hs] at hmul hsk ⊢
              obtain ⟨P, hP⟩ : ∃ P, s * un = P := ⟨_, rfl⟩
              rw [hP] at hmul
              have q2 : IntKind.i64.wrap (al * 10000) = P := by rw [hmul]; exact wr64 (by omega) (by omega)
              have q3 : IntKind.i64.wrap (s * un) = P := by rw [hP]; exact wr64 (by omega) (by omega)
              clear hP hs hmul HMUL HSB O7
              go_wp2_with fail
              go_meet
              exact ⟨hcode, BB⟩
          case rest => as_aux_lemma =>
            clear hcode BB O7 HBS HBL
            obtain ⟨hcode, BB⟩ := hcut
            obtain ⟨z0, rfl⟩ : ∃ wz : World, wz = wc := ⟨_, rfl⟩
            clear s_y1 s_y2 s_y3
            go_wp2_with fail
            refine (drawMinutesOn_any hcode).mono ?_
            rintro e z1 ⟨A9, c9, us, ln, rfl, hul, O9, B12⟩
            have s_z1 := B12.size
            replace hcode := hcode.below B12
            replace BB := BB.trans (B12.mono BB.size)
            clear B12
            obtain ⟨v4, h4⟩ : ∃ v, vMinutesOn us ln = v := ⟨_, rfl⟩
            have HMN := Lib.hid h4
            obtain ⟨mn, known⟩ := v4
            clear h4
            go_wp2_with fail
            refine (iMinutesOn (line := ln) O9.rd (by omega) (by omega)).mono ?_
            rintro e z2 h
            rw [HMN.out] at h
            obtain ⟨rfl, B13⟩ := h
            have s_z2 := B13.size
            replace hcode := hcode.below B13
            replace O9 := O9.below B13 (by omega)
            replace BB := BB.trans (B13.mono BB.size)
            clear B13
            go_wp2_with fail
            refine (sMinutesOn (line := ln) O9.rd (by omega) (by omega)).mono ?_
            rintro e z3 h
            rw [HMN.out] at h
            obtain ⟨rfl, B14⟩ := h
            have s_z3 := B14.size
            replace hcode := hcode.below B14
            replace O9 := O9.below B14 (by omega)
            replace BB := BB.trans (B14.mono BB.size)
            clear B14
            rcases known with _ | _
            · go_wp2_with fail
              go_ret
              exact ⟨rfl, BB⟩
            · go_wp2_with fail
              go_ret
              exact ⟨rfl, BB⟩

end Go.Proofs.Ytaehfcdcdjlanaa
