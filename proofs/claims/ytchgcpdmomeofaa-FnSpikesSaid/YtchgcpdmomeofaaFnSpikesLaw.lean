/-
  This file proves the walk of the law 'FnSpikes': called with any code it returns true, and nothing that was in memory before has turned.
  Conditions: that the code reads as data, as the row's frame hands it over.
-/
import Derived.Test.YtchgcpdmomeofaaTrackK
import Derived.Test.YtchgcpdmomeofaaSpikeLaw
import Derived.Deep.DeepCutAuto
namespace Go.Proofs.Ytchgcpdmomeofaa
open Go.RowKit
set_option linter.unusedSimpArgs false
set_option linter.unusedVariables false

theorem spikes_cases (tr : List Int) (lim : Int) : (isTrk tr = true ∧ inR lim 1 5000 = true ∧ vSpikesIn tr lim = (upOf tr lim (tr.length - 1), downOf tr lim (tr.length - 1), true) ∧ vRejectDown tr lim = (keepL tr lim, true)) ∨ (vSpikesIn tr lim = ([], [], false) ∧ vRejectDown tr lim = ([], false)) := by
  by_cases h : isTrk tr = true ∧ inR lim 1 5000 = true
  · exact .inl ⟨h.1, h.2, by unfold vSpikesIn; rw [if_pos h], by unfold vRejectDown; rw [if_pos h]; rfl⟩
  · exact .inr ⟨by unfold vSpikesIn; rw [if_neg h], by unfold vRejectDown; rw [if_neg h]⟩
theorem flat_cases (tr : List Int) (lim : Int) : (isTrk tr = true ∧ inR lim 1 5000 = true ∧ vFlattened tr lim = ((flat lim 30 tr).1, ((flat lim 30 tr).2 : Int), true)) ∨ (vFlattened tr lim = ([], 0, false)) := by
  by_cases h : isTrk tr = true ∧ inR lim 1 5000 = true
  · exact .inl ⟨h.1, h.2, by unfold vFlattened; rw [if_pos h]⟩
  · exact .inr (by unfold vFlattened; rw [if_neg h])
theorem kept_vs (tr ks : List Int) : (vKeptDepths tr ks).1.length ≤ ks.length := vKeptDepths_len0 tr ks

set_option maxHeartbeats 4000000 in
set_option maxRecDepth 100000 in
theorem fnSpikes_walk (A : Option Addr) (c : Nat) (xs : List Int) (w : World) (hrd : Rd w 0 w.heap.size 1 A xs.length (bytesV xs)) (hby : ∀ n ∈ xs, (Lit.int .u8 n).wf = true) :
    Calls Try.prog 3 #[.slice A xs.length c] w fun e w' => e = .returned (.bool true) ∧ Below w.heap.size w w' := by
  by_cases hbig : 65536 < xs.length
  · go_enter Try.func3, Try.ntmps3
    go_wp2_with fail
    refine (vBig_any).mono ?_
    rintro e w' ⟨rfl, rfl⟩
    rw [decide_eq_true hbig]
    go_wp2_with fail
    go_ret
    exact ⟨rfl, Below.refl _ _⟩
  have hcode : Code8 w A xs := ⟨hrd, fun x hx => by have h := hby x hx; simp [Lit.wf, IntKind.min, IntKind.max, IntKind.signed, IntKind.bits] at h; omega, by omega⟩
  have HB := Lib.hid hbig
  clear hrd hby hbig
  have BB : Below w.heap.size w w := Below.refl _ _
  go_enter Try.func3, Try.ntmps3
  go_wp2_with fail
  refine (vBig_any).mono ?_
  rintro e w' ⟨rfl, rfl⟩
  rw [decide_eq_false HB.out]
  go_wp2_with fail
  refine (drawSpikesIn_any hcode).mono ?_
  rintro e w1 ⟨A1, c1, tr, lim, rfl, htl, O1, B1⟩
  have s_w1 := B1.size
  replace hcode := hcode.below B1
  replace BB := BB.trans (B1.mono BB.size)
  obtain ⟨sv, hsv⟩ : ∃ sv, vSpikesIn tr lim = sv := ⟨_, rfl⟩
  obtain ⟨kv, hkv⟩ : ∃ kv, vRejectDown tr lim = kv := ⟨_, rfl⟩
  have hul := vSpikesIn_len0 tr lim
  have hdl := vSpikesIn_len1 tr lim
  have hkl := vRejectDown_len0 tr lim
  have hcs := spikes_cases tr lim
  rw [hsv, hkv] at hcs
  rw [hsv] at hul hdl
  rw [hkv] at hkl
  have HSV := Lib.hid hsv
  have HKV := Lib.hid hkv
  obtain ⟨up, dn, ok⟩ := sv
  obtain ⟨kp, told⟩ := kv
  simp only at hul hdl hkl
  have htold : told = ok := by
    rcases hcs with ⟨_, _, h1, h2⟩ | ⟨h1, h2⟩ <;> (injection h1 with _ h1; injection h1 with _ h1; injection h2 with _ h2; rw [h1, h2])
  subst htold
  have HCS := Lib.hid hcs
  clear hsv hkv hcs
  go_wp2_with fail
  refine (iSpikesIn (lim := lim) O1.rd (by omega) (Nat.le_refl _)).mono ?_
  rintro e w2 h
  rw [HSV.out] at h
  obtain ⟨Au, cu, Ad, cd, l1, h1, l2, h2, rfl, Ou, Od, i1, i1b, i2, i3, i3b, i4, i5, B2⟩ := h
  have s_w2 := B2.size
  replace hcode := hcode.below B2
  replace O1 := O1.below B2 (by omega)
  replace BB := BB.trans (B2.mono BB.size)
  go_wp2_with fail
  refine (sSpikesIn (lim := lim) O1.rd (by omega) (by omega)).mono ?_
  rintro e w3 h
  rw [HSV.out] at h
  obtain ⟨Au', cu', Ad', cd', l1', h1', l2', h2', rfl, Ou', Od', j1, j1b, j2, j3, j3b, j4, j5, B3⟩ := h
  have s_w3 := B3.size
  replace hcode := hcode.below B3
  replace O1 := O1.below B3 (by omega)
  replace Ou := Ou.below B3 (by omega)
  replace Od := Od.below B3 (by omega)
  replace BB := BB.trans (B3.mono BB.size)
  go_wp2_with fail
  refine (vInts_same Ou.rd Ou'.rd (by omega)).mono ?_
  rintro e w4 ⟨rfl, n4, hn4⟩
  have B4 := below_of_quiet (B := w3.heap.size) hn4
  clear hn4
  have s_w4 := B4.size
  replace hcode := hcode.below B4
  replace O1 := O1.below B4 (by omega)
  replace Ou := Ou.below B4 (by omega)
  replace Od := Od.below B4 (by omega)
  replace Od' := Od'.below B4 (by omega)
  replace BB := BB.trans (B4.mono BB.size)
  go_wp2_with fail
  refine (vInts_same Od.rd Od'.rd (by omega)).mono ?_
  rintro e w5 ⟨rfl, n5, hn5⟩
  have B5 := below_of_quiet (B := w4.heap.size) hn5
  clear hn5 Ou' Od'
  have s_w5 := B5.size
  replace hcode := hcode.below B5
  replace O1 := O1.below B5 (by omega)
  replace Ou := Ou.below B5 (by omega)
  replace Od := Od.below B5 (by omega)
  replace BB := BB.trans (B5.mono BB.size)
  obtain ⟨tv, htv⟩ : ∃ tv, vIsTrack tr = tv := ⟨_, rfl⟩
  have HTV := Lib.hid htv
  clear htv
  go_wp2_with fail
  refine (iIsTrack O1.rd (by omega) (by omega)).mono ?_
  rintro e w6 h
  rw [HTV.out] at h
  obtain ⟨rfl, B6⟩ := h
  have s_w6 := B6.size
  replace hcode := hcode.below B6
  replace O1 := O1.below B6 (by omega)
  replace Ou := Ou.below B6 (by omega)
  replace Od := Od.below B6 (by omega)
  replace BB := BB.trans (B6.mono BB.size)
  go_wp2_with fail
  refine (sIsTrack O1.rd (by omega) (by omega)).mono ?_
  rintro e w7 h
  rw [HTV.out] at h
  obtain ⟨rfl, B7⟩ := h
  have s_w7 := B7.size
  replace hcode := hcode.below B7
  replace O1 := O1.below B7 (by omega)
  replace Ou := Ou.below B7 (by omega)
  replace Od := Od.below B7 (by omega)
  replace BB := BB.trans (B7.mono BB.size)
  go_wp2_with fail
  refine (iRejectDown (lim := lim) O1.rd (by omega) (by omega)).mono ?_
  rintro e w8 h
  rw [HKV.out] at h
  obtain ⟨Ak, ck, rfl, Ok, B8⟩ := h
  have s_w8 := B8.size
  replace hcode := hcode.below B8
  replace O1 := O1.below B8 (by omega)
  replace Ou := Ou.below B8 (by omega)
  replace Od := Od.below B8 (by omega)
  replace BB := BB.trans (B8.mono BB.size)
  go_wp2_with fail
  refine (sRejectDown (lim := lim) O1.rd (by omega) (by omega)).mono ?_
  rintro e w9 h
  rw [HKV.out] at h
  obtain ⟨Ak', ck', rfl, Ok', B9⟩ := h
  have s_w9 := B9.size
  replace hcode := hcode.below B9
  replace O1 := O1.below B9 (by omega)
  replace Ou := Ou.below B9 (by omega)
  replace Od := Od.below B9 (by omega)
  replace Ok := Ok.below B9 (by omega)
  replace BB := BB.trans (B9.mono BB.size)
  go_wp2_with fail
  refine (vInts_same Ok.rd Ok'.rd (by omega)).mono ?_
  rintro e wa ⟨rfl, na, hna⟩
  have Ba := below_of_quiet (B := w9.heap.size) hna
  clear hna Ok'
  have s_wa := Ba.size
  replace hcode := hcode.below Ba
  replace O1 := O1.below Ba (by omega)
  replace Ou := Ou.below Ba (by omega)
  replace Od := Od.below Ba (by omega)
  replace Ok := Ok.below Ba (by omega)
  replace BB := BB.trans (Ba.mono BB.size)
  clear B1 B2 B3 B4 B5 B6 B7 B8 B9 Ba
  go_upto_if 109 with fail
  go_cut [] (fun wx => Code8 wx A xs ∧ Below w.heap.size w wx)
  case first => as_aux_lemma =>
    rcases told with _ | _
    · go_wp2_with fail
      go_meet
      exact ⟨hcode, BB⟩
    · have hgood : isTrk tr = true ∧ inR lim 1 5000 = true ∧ up = upOf tr lim (tr.length - 1) ∧ dn = downOf tr lim (tr.length - 1) ∧ kp = keepL tr lim := by
        rcases HCS.out with ⟨g1, g2, g3, g4⟩ | ⟨g3, _⟩
        · injection g3 with a1 a2; injection a2 with a2 a3; injection g4 with b1 b2
          exact ⟨g1, g2, a1, a2, b1⟩
        · injection g3 with _ g3; injection g3 with _ g3; cases g3
      have hklaw := kept_law (lim := lim) hgood.1
      have hud := up_down (xs := tr) hgood.2.1
      have h01 : ∀ i, i < kp.length → 0 ≤ kp.getD i 0 ∧ kp.getD i 0 ≤ 1 := fun i hi => by
        rw [hgood.2.2.2.2] at hi ⊢
        rw [keepL_length] at hi
        rw [keepL_get hi]
        rcases rejF_01 tr lim i with h | h <;> omega
      have hkpl : kp.length = tr.length := by rw [hgood.2.2.2.2, keepL_length]
      rw [← hgood.2.2.2.1, ← hgood.2.2.1] at hud
      rw [← hgood.2.2.2.1, ← hgood.2.2.2.2] at hklaw
      rw [← hkpl] at hklaw
      obtain ⟨kd, hkd⟩ : ∃ kd, gath (pKeep kp) (fKeep tr) kp.length = kd := ⟨_, rfl⟩
      rw [hkd] at hklaw
      have hvk := hklaw.1
      have hsum := hklaw.2.2
      have hcnt : (((kd.length : Int) + (dn.length : Int)) != (tr.length : Int)) = false := by
        have := hklaw.2.1
        rw [bne_eq_false_iff_eq]; omega
      have hkd31 : kd.length ≤ 31 := by have := hklaw.2.1; omega
      have HVK := Lib.hid hvk
      have HSUM := Lib.hid hsum
      have HUD := Lib.hid hud
      have H01 := Lib.hid h01
      clear hgood hklaw hud h01 hkd hvk hsum hkpl
      go_wp2_with fail
      refine (iKeptDepths O1.rd (by omega) (by omega) Ok.rd (by omega) (by omega)).mono ?_
      rintro e wb h
      rw [HVK.out] at h
      obtain ⟨Ae, ce, rfl, Oe, Bb⟩ := h
      have s_wb := Bb.size
      replace hcode := hcode.below Bb
      replace Ou := Ou.below Bb (by omega)
      replace Od := Od.below Bb (by omega)
      replace Ok := Ok.below Bb (by omega)
      replace BB := BB.trans (Bb.mono BB.size)
      have hdd : IntKind.i64.wrap ((kd.length : Int) + (dn.length : Int)) = (kd.length : Int) + (dn.length : Int) := wr64 (by omega) (by omega)
      go_wp2_with fail
      refine (vSum_any Ok.rd (by omega) H01.out).mono ?_
      rintro e w' ⟨rfl, rfl⟩
      rw [HSUM.out]
      go_wp2_with fail
      go_loop [17] (fun i => ∃ k : Nat, k ≤ up.length ∧ i = .int .i64 k) (fun i => up.length - (intOf i).toNat)
      case atStart => exact ⟨0, Nat.zero_le _, rfl⟩
      case round =>
        obtain ⟨k, hk, rfl⟩ := hrel
        by_cases hlt : k < up.length
        · obtain ⟨b0, off, x, rfl, hx, hcell⟩ := Ou.rd.geti hlt
          have HM := Lib.hid (HUD.out x (List.mem_of_getElem? hx))
          have q1 : (k : Int) < (up.length : Int) := by omega
          clear hx
          go_wp2_with fail
          refine (vHas_any (x := x) Od.rd (by omega)).mono ?_
          rintro e w' ⟨rfl, rfl⟩
          rw [HM.out]
          go_wp2_with fail
          go_round
          case rel => exact ⟨k + 1, by omega, by go_num⟩
          case measure => simp [intOf]; omega
        · go_wp2_with fail
          go_meet
          exact ⟨hcode, BB⟩
  case rest => as_aux_lemma =>
    clear hcode BB O1 Ou Od Ok
    obtain ⟨hcode, BB⟩ := hcut
    obtain ⟨v0, rfl⟩ : ∃ wz : World, wz = wc := ⟨_, rfl⟩
    go_wp2_with fail
    refine (drawFlattened_any hcode).mono ?_
    rintro e v1 ⟨A2, c2, tx, lx, rfl, hxl, O2, B1⟩
    have s_v1 := B1.size
    replace hcode := hcode.below B1
    replace BB := BB.trans (B1.mono BB.size)
    obtain ⟨fv, hfv⟩ : ∃ fv, vFlattened tx lx = fv := ⟨_, rfl⟩
    have hfl := vFlattened_len0 tx lx
    have hfc := flat_cases tx lx
    rw [hfv] at hfl hfc
    have HFV := Lib.hid hfv
    have HFC := Lib.hid hfc
    obtain ⟨fl, fn, fine⟩ := fv
    simp only at hfl
    clear hfv hfc
    go_wp2_with fail
    refine (iFlattened (lim := lx) O2.rd (by omega) (Nat.le_refl _) O2.cap).mono ?_
    rintro e v2 h
    rw [HFV.out] at h
    obtain ⟨Af, cf, rfl, Of, B2⟩ := h
    have s_v2 := B2.size
    replace hcode := hcode.below B2
    replace O2 := O2.below B2 (by omega)
    replace BB := BB.trans (B2.mono BB.size)
    go_wp2_with fail
    refine (sFlattened (lim := lx) O2.rd (by omega) (by omega)).mono ?_
    rintro e v3 h
    rw [HFV.out] at h
    obtain ⟨Af', cf', rfl, Of', B3⟩ := h
    have s_v3 := B3.size
    replace hcode := hcode.below B3
    replace Of := Of.below B3 (by omega)
    replace BB := BB.trans (B3.mono BB.size)
    go_wp2_with fail
    refine (vInts_same Of.rd Of'.rd (by omega)).mono ?_
    rintro e v4 ⟨rfl, n4, hn4⟩
    have B4 := below_of_quiet (B := v3.heap.size) hn4
    clear hn4 Of' O2
    have s_v4 := B4.size
    replace hcode := hcode.below B4
    replace Of := Of.below B4 (by omega)
    replace BB := BB.trans (B4.mono BB.size)
    clear B1 B2 B3 B4
    obtain ⟨tb, htb⟩ : ∃ tb : Bool, tb = (fine && decide (fn < 30)) := ⟨_, rfl⟩
    have HTB := Lib.hid htb
    clear htb
    go_upto_region 26 with fail
    go_cut [184] (fun s184 wx => s184 = .bool tb ∧ Code8 wx A xs ∧ Below w.heap.size w wx ∧ OwnI wx 3 v1.heap.size v2.heap.size Af cf fl ∧ v2.heap.size ≤ wx.heap.size)
    case first => as_aux_lemma =>
      rcases fine with _ | _
      · have HT := Lib.hid (show tb = false from by rw [HTB.out]; rfl)
        go_wp2_with fail
        go_meet
        exact ⟨by rw [HT.out], hcode, BB, Of, by omega⟩
      · by_cases h2 : fn < 30
        · have HT := Lib.hid (show tb = true from by rw [HTB.out, decide_eq_true h2]; rfl)
          go_wp2_with fail
          go_meet
          exact ⟨by rw [HT.out], hcode, BB, Of, by omega⟩
        · have HT := Lib.hid (show tb = false from by rw [HTB.out, decide_eq_false h2]; rfl)
          go_wp2_with fail
          go_meet
          exact ⟨by rw [HT.out], hcode, BB, Of, by omega⟩
    case rest => as_aux_lemma =>
      clear hcode BB Of
      obtain ⟨rfl, hcode, BB, Of, hszf⟩ := hcut
      go_upto_if 184 with fail
      go_cut [] (fun wx => Code8 wx A xs ∧ Below w.heap.size w wx)
      case first => as_aux_lemma =>
        rcases htb : tb with _ | _
        · go_wp2_with fail
          go_meet
          exact ⟨hcode, BB⟩
        · have h12 : fine = true ∧ fn < 30 := by have := HTB.out; rw [htb] at this; simpa using this.symm
          have hflat : vSpikesIn fl lx = ([], [], true) := by
            rcases HFC.out with ⟨g1, g2, g3⟩ | g3
            · injection g3 with a1 a2
              injection a2 with a2 a3
              rw [a1]
              exact flat_law g1 g2 (by have := h12.2; omega)
            · injection g3 with _ g3; injection g3 with _ g3; rw [h12.1] at g3; cases g3
          have HFL := Lib.hid hflat
          clear h12 hflat htb
          go_wp2_with fail
          refine (iSpikesIn (lim := lx) Of.rd (by omega) (by omega)).mono ?_
          rintro e v5 h
          rw [HFL.out] at h
          obtain ⟨Au, cu, Ad, cd, l1, h1, l2, h2, rfl, Ou, Od, i1, i1b, i2, i3, i3b, i4, i5, B5⟩ := h
          have s_v5 := B5.size
          replace hcode := hcode.below B5
          replace BB := BB.trans (B5.mono BB.size)
          go_wp2_with fail
          go_meet
          exact ⟨hcode, BB⟩
      case rest => as_aux_lemma =>
        clear hcode BB Of
        obtain ⟨hcode, BB⟩ := hcut
        obtain ⟨x0, rfl⟩ : ∃ wz : World, wz = wc := ⟨_, rfl⟩
        go_wp2_with fail
        refine (drawKeptDepths_any hcode).mono ?_
        rintro e x1 ⟨A3, A4, c3, c4, ty, ky, rfl, hyl, hkyl, O3, O4, B1⟩
        have s_x1 := B1.size
        replace hcode := hcode.below B1
        replace BB := BB.trans (B1.mono BB.size)
        obtain ⟨kv, hkv⟩ : ∃ kv, vKeptDepths ty ky = kv := ⟨_, rfl⟩
        have hkl2 := kept_vs ty ky
        rw [hkv] at hkl2
        have HKV2 := Lib.hid hkv
        obtain ⟨kl, kb⟩ := kv
        simp only at hkl2
        clear hkv
        go_wp2_with fail
        refine (iKeptDepths O3.rd (by omega) (Nat.le_refl _) O4.rd (by omega) (Nat.le_refl _)).mono ?_
        rintro e x2 h
        rw [HKV2.out] at h
        obtain ⟨A5, c5, rfl, O5, B2⟩ := h
        have s_x2 := B2.size
        replace hcode := hcode.below B2
        replace O3 := O3.below B2 (by omega)
        replace O4 := O4.below B2 (by omega)
        replace BB := BB.trans (B2.mono BB.size)
        go_wp2_with fail
        refine (sKeptDepths O3.rd (by omega) (by omega) O4.rd (by omega) (by omega)).mono ?_
        rintro e x3 h
        rw [HKV2.out] at h
        obtain ⟨A6, c6, rfl, O6, B3⟩ := h
        have s_x3 := B3.size
        replace hcode := hcode.below B3
        replace O5 := O5.below B3 (by omega)
        replace BB := BB.trans (B3.mono BB.size)
        go_wp2_with fail
        refine (vInts_same O5.rd O6.rd (by omega)).mono ?_
        rintro e x4 ⟨rfl, n4, hn4⟩
        have B4 := below_of_quiet (B := x3.heap.size) hn4
        clear hn4 O3 O4 O5 O6
        have s_x4 := B4.size
        replace hcode := hcode.below B4
        replace BB := BB.trans (B4.mono BB.size)
        go_wp2_with fail
        refine (drawMedianFilter_any hcode).mono ?_
        rintro e x5 ⟨A7, c7, tz, rfl, hzl, O7, B5⟩
        have s_x5 := B5.size
        replace hcode := hcode.below B5
        replace BB := BB.trans (B5.mono BB.size)
        obtain ⟨mv, hmv⟩ : ∃ mv, vMedianFilter tz = mv := ⟨_, rfl⟩
        have hml := vMedianFilter_len0 tz
        rw [hmv] at hml
        have HMV := Lib.hid hmv
        obtain ⟨ml, mb⟩ := mv
        simp only at hml
        clear hmv
        go_wp2_with fail
        refine (iMedianFilter O7.rd (by omega) (Nat.le_refl _) O7.cap).mono ?_
        rintro e x6 h
        rw [HMV.out] at h
        obtain ⟨A8, c8, rfl, O8, B6⟩ := h
        have s_x6 := B6.size
        replace O7 := O7.below B6 (by omega)
        replace BB := BB.trans (B6.mono BB.size)
        go_wp2_with fail
        refine (sMedianFilter O7.rd (by omega) (by omega)).mono ?_
        rintro e x7 h
        rw [HMV.out] at h
        obtain ⟨A9, c9, rfl, O9, B7⟩ := h
        have s_x7 := B7.size
        replace O8 := O8.below B7 (by omega)
        replace BB := BB.trans (B7.mono BB.size)
        go_wp2_with fail
        refine (vInts_same O8.rd O9.rd (by omega)).mono ?_
        rintro e x8 ⟨rfl, n8, hn8⟩
        have B8 := below_of_quiet (B := x7.heap.size) hn8
        clear hn8
        have s_x8 := B8.size
        replace BB := BB.trans (B8.mono BB.size)
        go_wp2_with fail
        go_ret
        exact ⟨by simp, BB⟩

end Go.Proofs.Ytchgcpdmomeofaa
