/-
  This file proves the walk of the law 'FnHypotheses': called with any code it returns true, and nothing that was in memory before has turned.
  Conditions: that the code reads as data, as the row's frame hands it over.
-/
import Derived.Test.YtdllhdfoinobjaaHypM
import Derived.Test.YtdllhdfoinobjaaHypN
import Derived.Test.YtdllhdfoinobjaaHypLaw2
import Derived.Test.YtdllhdfoinobjaaHypK
import Derived.Test.YtdllhdfoinobjaaLawHelp
import Derived.Deep.DeepCutAuto
namespace Go.Proofs.Ytdllhdfoinobjaa
open Go.RowKit
set_option linter.unusedSimpArgs false
set_option linter.unusedVariables false

theorem Code8.drewN {w : World} {A : Option Addr} {xs : List Int} (h : Code8 w A xs) (n : Nat) : Code8 (w.drewN n) A xs := ⟨h.rd, h.by8, h.len⟩

theorem mul_bound {a b : Int} (h1 : -100 ≤ a) (h2 : a ≤ 100) (h3 : 0 ≤ b) (h4 : b ≤ 20) : -2000 ≤ a * b ∧ a * b ≤ 2000 := by
  have e := Int.natAbs_mul a b
  have h : a.natAbs * b.natAbs ≤ 100 * 20 := Nat.mul_le_mul (by omega) (by omega)
  omega

set_option maxHeartbeats 4000000 in
set_option maxRecDepth 100000 in
theorem fnHypotheses_walk (A : Option Addr) (c : Nat) (xs : List Int) (w : World) (hrd : Rd w 0 w.heap.size 1 A xs.length (bytesV xs)) (hby : ∀ n ∈ xs, (Lit.int .u8 n).wf = true) :
    Calls Try.prog 3 #[.slice A xs.length c] w fun e w' => e = .returned (.bool true) ∧ Below w.heap.size w w' := by
  by_cases hbig : 65536 < xs.length
  · go_enter Try.func3, Try.ntmps3
    go_wp2_with fail
    refine (vBig_any).mono ?_
    rintro e w' ⟨rfl, rfl⟩
    rw [decide_eq_true hbig]
    go_wp2_with fail
    go_ret
    exact ⟨rfl, Below.refl _ _⟩
  have hcode : Code8 w A xs := ⟨hrd, fun x hx => by have h := hby x hx; simp [Lit.wf, IntKind.min, IntKind.max, IntKind.signed, IntKind.bits] at h; omega, by omega⟩
  have HB := Lib.hid hbig
  clear hrd hby hbig
  have BB : Below w.heap.size w w := Below.refl _ _
  go_enter Try.func3, Try.ntmps3
  go_wp2_with fail
  refine (vBig_any).mono ?_
  rintro e w' ⟨rfl, rfl⟩
  rw [decide_eq_false HB.out]
  go_wp2_with fail
  refine (drawHypothesesOf_any hcode).mono ?_
  rintro e w1 ⟨A1, c1, vs, wd, rfl, hl1, O1, B1⟩
  have s_w1 := B1.size
  replace hcode := hcode.below B1
  replace BB := BB.trans (B1.mono BB.size)
  clear B1
  obtain ⟨v_HV, h_HV⟩ : ∃ v, vHypothesesOf vs wd = v := ⟨_, rfl⟩
  have HHV := Lib.hid h_HV
  obtain ⟨F, ok⟩ := v_HV
  obtain ⟨hF20, G, hsp, hG20, hok⟩ := hypotheses_law h_HV
  have HSP := Lib.hid hsp
  have HOK := Lib.hid hok
  clear h_HV hsp hok
  go_wp2_with fail
  refine (iHypothesesOf (wd := wd) O1.rd (by omega) (by omega)).mono ?_
  rintro e w2 h
  rw [HHV.out] at h
  obtain ⟨A2, c2, rfl, O2, B2⟩ := h
  have s_w2 := B2.size
  replace hcode := hcode.below B2
  replace O1 := O1.below B2 (by omega)
  replace BB := BB.trans (B2.mono BB.size)
  clear B2
  go_wp2_with fail
  refine (sHypothesesOf (wd := wd) O1.rd (by omega) (by omega)).mono ?_
  rintro e w3 h
  rw [HHV.out] at h
  obtain ⟨A3, c3, rfl, O3, B3⟩ := h
  have s_w3 := B3.size
  replace hcode := hcode.below B3
  replace O1 := O1.below B3 (by omega)
  replace O2 := O2.below B3 (by omega)
  replace BB := BB.trans (B3.mono BB.size)
  clear B3
  go_wp2_with fail
  refine (vHypotheses_same O2.rd O3.rd (by omega)).mono ?_
  rintro e w4 ⟨rfl, nq, hnq⟩
  have B4 := below_of_quiet (B := w3.heap.size) hnq
  clear hnq
  have s_w4 := B4.size
  replace hcode := hcode.below B4
  replace O1 := O1.below B4 (by omega)
  replace O2 := O2.below B4 (by omega)
  replace O3 := O3.below B4 (by omega)
  replace BB := BB.trans (B4.mono BB.size)
  clear B4
  clear O3
  go_wp2_with fail
  refine (iAreVotes O1.rd (by omega) (by omega)).mono ?_
  rintro e w5 h
  obtain ⟨rfl, B5⟩ := h
  have s_w5 := B5.size
  replace hcode := hcode.below B5
  replace O1 := O1.below B5 (by omega)
  replace O2 := O2.below B5 (by omega)
  replace BB := BB.trans (B5.mono BB.size)
  clear B5
  go_wp2_with fail
  refine (sAreVotes O1.rd (by omega) (by omega)).mono ?_
  rintro e w6 h
  obtain ⟨rfl, B6⟩ := h
  have s_w6 := B6.size
  replace hcode := hcode.below B6
  replace O1 := O1.below B6 (by omega)
  replace O2 := O2.below B6 (by omega)
  replace BB := BB.trans (B6.mono BB.size)
  clear B6
  go_wp2_with fail
  refine (iSplitsAt (wd := wd) O1.rd (by omega) (by omega)).mono ?_
  rintro e w7 h
  rw [HSP.out] at h
  obtain ⟨A7, c7, rfl, O7, B7⟩ := h
  have s_w7 := B7.size
  replace hcode := hcode.below B7
  replace O1 := O1.below B7 (by omega)
  replace O2 := O2.below B7 (by omega)
  replace BB := BB.trans (B7.mono BB.size)
  clear B7
  go_wp2_with fail
  refine (sSplitsAt (wd := wd) O1.rd (by omega) (by omega)).mono ?_
  rintro e w8 h
  rw [HSP.out] at h
  obtain ⟨A8, c8, rfl, O8, B8⟩ := h
  have s_w8 := B8.size
  replace hcode := hcode.below B8
  replace O1 := O1.below B8 (by omega)
  replace O2 := O2.below B8 (by omega)
  replace O7 := O7.below B8 (by omega)
  replace BB := BB.trans (B8.mono BB.size)
  clear B8
  go_wp2_with fail
  refine (vPairs_same O7.rd O8.rd (by omega)).mono ?_
  rintro e w9 ⟨rfl, nq, hnq⟩
  have B9 := below_of_quiet (B := w8.heap.size) hnq
  clear hnq
  have s_w9 := B9.size
  replace hcode := hcode.below B9
  replace O1 := O1.below B9 (by omega)
  replace O2 := O2.below B9 (by omega)
  replace O7 := O7.below B9 (by omega)
  replace O8 := O8.below B9 (by omega)
  replace BB := BB.trans (B9.mono BB.size)
  clear B9
  clear O7 O8
  go_upto_if 104 with fail
  go_cut [] (fun wx => Code8 wx A xs ∧ Below w.heap.size w wx)
  case first => as_aux_lemma =>
    rcases ok with _ | _
    · go_wp2_with fail
      go_meet
      exact ⟨hcode, BB⟩
    obtain ⟨hGl, hF1, hn1, hn20, hw0, hw1, hsum, hbd, hap, bq, num, den, hst, ham, hred, hv0, hv1, hm0, hm1, hd0, hd1, hfew⟩ := HOK.out rfl
    have HSUM := Lib.hid hsum
    have HBD := Lib.hid hbd
    have HAP := Lib.hid hap
    have HST := Lib.hid hst
    have HAM := Lib.hid ham
    have HRED := Lib.hid hred
    have HFEW := Lib.hid hfew
    have HGL := Lib.hid hGl
    clear hsum hbd hap hst ham hred hfew hGl HOK HSP
    go_wp2_with fail
    go_loopw [13, 14] (fun t i wr => ∃ k : Nat, k ≤ F.length ∧ i = .int .i64 k ∧ t = .int .i64 (sumV (F.take k)) ∧ Code8 wr A xs ∧ Below w.heap.size w wr ∧ OwnI wr 3 w.heap.size w1.heap.size A1 c1 vs ∧ Own wr 37 w1.heap.size w2.heap.size 3 A2 F.length c2 (cellsHypothesis F) ∧ w2.heap.size ≤ wr.heap.size) (fun _ i _ => F.length - (intOf i).toNat)
    case atStart => exact ⟨0, Nat.zero_le _, rfl, rfl, hcode, BB, O1, O2, by omega⟩
    case round => as_aux_lemma =>
      have s_2 : w1.heap.size ≤ w2.heap.size := s_w2
      clear hcode BB O1 O2 s_w2 s_w3 s_w4 s_w5 s_w6 s_w7 s_w8 s_w9
      obtain ⟨k, hk, rfl, rfl, hcode, BB, O1, O2, hsz⟩ := hrel
      have hsb := sumV_bound HBD.out k
      obtain ⟨s, hs⟩ : ∃ s, s = sumV (F.take k) := ⟨_, rfl⟩
      rw [← hs] at hsb ⊢
      have HS := Lib.hid hs
      clear hs
      by_cases hlt : k < F.length
      · obtain ⟨b1, o1, p, rfl, _, _, hp, e0, e1, e2⟩ := O2.rd.getHypothesis hlt
        have HSS := Lib.hid (sumV_take hp)
        have hpb := HBD.out p (List.mem_of_getElem? hp)
        unfold hB at hpb
        have q1 : (k : Int) < (F.length : Int) := by omega
        have q2 : IntKind.i64.wrap (s + p.vt) = s + p.vt := wr64 (by omega) (by omega)
        rcases k with _ | j
        · have HSS' : sumV (F.take (0 + 1)) = s + p.vt := by rw [HSS.out, ← HS.out]
          have HSZ := Lib.hid HSS'
          clear hp HSS'
          go_wp2_with fail
          go_quiet (fail)
          go_wp2_with fail
          go_roundw
          case rel => exact ⟨0 + 1, by omega, by go_num, by rw [HSZ.out], hcode.drewN _, below_drewN BB _, O1.drewN _, O2.drewN _, hsz⟩
          case measure => simp [intOf]; omega
        · obtain ⟨b2, o2, p', hrow, _, _, hp', d0, d1, d2⟩ := O2.rd.getHypothesis (show j < F.length by omega)
          injection hrow with hrow
          injection hrow with hb hof hpath
          subst hb
          subst hof
          have hpb' := HBD.out p' (List.mem_of_getElem? hp')
          unfold hB at hpb'
          have hno := HAP.out j p' p hp hp'
          have HSZ := Lib.hid (show sumV (F.take (j + 1 + 1)) = s + p.vt from by rw [HSS.out, ← HS.out])
          have q3 : (0 : Int) < ((j + 1 : Nat) : Int) := by omega
          have q4 : ((j + 1 : Nat) : Int) - 1 = (j : Int) := by omega
          have q5 : (j : Int) < (F.length : Int) := by omega
          have q6 : IntKind.i64.wrap (((j + 1 : Nat) : Int) - 1) = (j : Int) := by rw [q4]; exact wr64 (by omega) (by omega)
          have q7 : IntKind.i64.wrap (p.lw - p'.hg) = p.lw - p'.hg := wr64 (by omega) (by omega)
          have q8 : decide (p.lw - p'.hg ≤ wd) = false := by simpa using hno
          clear hp hp'
          go_wp2_with fail
          go_quiet (fail)
          go_wp2_with fail
          go_roundw
          case rel => exact ⟨j + 1 + 1, by omega, by go_num, by rw [HSZ.out], hcode.drewN _, below_drewN BB _, O1.drewN _, O2.drewN _, hsz⟩
          case measure => simp [intOf]; omega
      have hse : s = (vs.length : Int) := by rw [HS.out, List.take_of_length_le (by omega)]; exact HSUM.out
      subst hse
      clear hsb HS HBD HAP HSUM O2
      obtain ⟨x0, rfl⟩ : ∃ x0 : World, x0 = wr := ⟨_, rfl⟩
      go_wp2_with fail
      refine (iStrongestOf (wd := wd) O1.rd (by omega) (by omega)).mono ?_
      rintro e x1 h
      rw [HST.out] at h
      obtain ⟨rfl, B10⟩ := h
      have s_x1 := B10.size
      replace hcode := hcode.below B10
      replace O1 := O1.below B10 (by omega)
      replace BB := BB.trans (B10.mono BB.size)
      clear B10
      have D := Cells3.new x1 bq 37
      have Bx := below_alloc1 x1 (.cells #[.int .i64 bq.lw, .int .i64 bq.hg, .int .i64 bq.vt] 37)
      obtain ⟨gb, hgb⟩ : ∃ gb, gb = x1.heap.size := ⟨_, rfl⟩
      go_wp2_with fail
      generalize hx2 : x1.alloc (.cells #[.int .i64 bq.lw, .int .i64 bq.hg, .int .i64 bq.vt] 37) = x2 at D Bx ⊢
      clear hx2
      have s_x2 := Bx.size
      replace hcode := hcode.below Bx
      replace O1 := O1.below Bx (by omega)
      replace BB := BB.trans (Bx.mono BB.size)
      clear Bx
      rw [← hgb] at D ⊢
      clear hgb
      refine (iAmbiguityOf (wd := wd) O1.rd (by omega) (by omega)).mono ?_
      rintro e x3 h
      rw [HAM.out] at h
      obtain ⟨rfl, B3⟩ := h
      replace D := D.below B3 D.lt
      have s_x3 := B3.size
      replace hcode := hcode.below B3
      replace O1 := O1.below B3 (by omega)
      replace BB := BB.trans (B3.mono BB.size)
      clear B3
      obtain ⟨⟨d0, d1, d2⟩, _, _, _⟩ := D
      have hpr := mul_bound hm0 hm1 (b := (vs.length : Int)) (by omega) (by omega)
      obtain ⟨P, hP⟩ : ∃ P, num * (vs.length : Int) = P := ⟨_, rfl⟩
      rw [hP] at hpr
      have q1 : IntKind.i64.wrap ((F.length : Int) - 1) = (G.length : Int) := by have := HGL.out; rw [wr64 (by omega) (by omega)]; omega
      have q2 : IntKind.i64.wrap (num * (vs.length : Int)) = P := by rw [hP]; exact wr64 (by omega) (by omega)
      have q3 : IntKind.i64.wrap ((vs.length : Int) - bq.vt) = (vs.length : Int) - bq.vt := wr64 (by omega) (by omega)
      have q4 : IntKind.i64.wrap (((vs.length : Int) - bq.vt) * den) = P := by rw [← HRED.out, hP]; exact wr64 (by omega) (by omega)
      have HP := Lib.hid hP
      clear hP hpr
      by_cases hlt2 : wd < 1000
      · obtain ⟨F', hF', hle⟩ := HFEW.out hlt2
        have HF' := Lib.hid hF'
        have q5 : IntKind.i64.wrap (wd + 1) = wd + 1 := wr64 (by omega) (by omega)
        have q6 : decide ((F.length : Int) < (F'.length : Int)) = false := by rw [decide_eq_false_iff_not]; omega
        have q7 : decide (F.length < F'.length) = false := by rw [decide_eq_false_iff_not]; omega
        clear hF'
        go_wp2_with fail
        refine (iHypothesesOf (wd := wd + 1) O1.rd (by omega) (by omega)).mono ?_
        rintro e x4 h
        rw [HF'.out] at h
        obtain ⟨A9, c9, rfl, O9, B11⟩ := h
        have s_x4 := B11.size
        replace hcode := hcode.below B11
        replace O1 := O1.below B11 (by omega)
        replace BB := BB.trans (B11.mono BB.size)
        clear B11
        go_wp2_with fail
        go_meet
        exact ⟨hcode, BB⟩
      · go_wp2_with fail
        go_meet
        exact ⟨hcode, BB⟩
  case rest => as_aux_lemma =>
    clear hcode BB O1 O2 HHV HSP HOK
    obtain ⟨hcode, BB⟩ := hcut
    obtain ⟨y0, rfl⟩ : ∃ wz : World, wz = wc := ⟨_, rfl⟩
    clear s_w1 s_w2 s_w3 s_w4 s_w5 s_w6 s_w7 s_w8 s_w9
    go_wp2_with fail
    refine (drawNarrowestSingle_any hcode).mono ?_
    rintro e y1 ⟨A4, c4, ts, rfl, htl, O4, B12⟩
    have s_y1 := B12.size
    replace hcode := hcode.below B12
    replace BB := BB.trans (B12.mono BB.size)
    clear B12
    obtain ⟨v_NV, h_NV⟩ : ∃ v, vNarrowestSingle ts = v := ⟨_, rfl⟩
    have HNV := Lib.hid h_NV
    obtain ⟨n, fine⟩ := v_NV
    clear h_NV
    go_wp2_with fail
    refine (iNarrowestSingle O4.rd (by omega) (by omega)).mono ?_
    rintro e y2 h
    rw [HNV.out] at h
    obtain ⟨rfl, B13⟩ := h
    have s_y2 := B13.size
    replace hcode := hcode.below B13
    replace O4 := O4.below B13 (by omega)
    replace BB := BB.trans (B13.mono BB.size)
    clear B13
    go_wp2_with fail
    refine (sNarrowestSingle O4.rd (by omega) (by omega)).mono ?_
    rintro e y3 h
    rw [HNV.out] at h
    obtain ⟨rfl, B14⟩ := h
    have s_y3 := B14.size
    replace hcode := hcode.below B14
    replace O4 := O4.below B14 (by omega)
    replace BB := BB.trans (B14.mono BB.size)
    clear B14
    obtain ⟨tb, htb⟩ : ∃ tb : Bool, tb = (fine && decide (n ≤ 1000)) := ⟨_, rfl⟩
    have HTB := Lib.hid htb
    clear htb
    go_upto_region 33 with fail
    go_cut [225] (fun s wx => s = .bool tb ∧ Code8 wx A xs ∧ Below w.heap.size w wx ∧ OwnI wx 3 y0.heap.size y1.heap.size A4 c4 ts ∧ y1.heap.size ≤ wx.heap.size)
    case first => as_aux_lemma =>
      rcases fine with _ | _
      · have HT := Lib.hid (show tb = false from by rw [HTB.out]; rfl)
        go_wp2_with fail
        go_meet
        exact ⟨by rw [HT.out], hcode, BB, O4, by omega⟩
      · by_cases h2 : n ≤ 1000
        · have HT := Lib.hid (show tb = true from by rw [HTB.out, decide_eq_true h2]; rfl)
          go_wp2_with fail
          go_meet
          exact ⟨by rw [HT.out], hcode, BB, O4, by omega⟩
        · have HT := Lib.hid (show tb = false from by rw [HTB.out, decide_eq_false h2]; rfl)
          go_wp2_with fail
          go_meet
          exact ⟨by rw [HT.out], hcode, BB, O4, by omega⟩
    case rest => as_aux_lemma =>
      clear hcode BB O4 s_y2 s_y3
      obtain ⟨rfl, hcode, BB, O4, hsz⟩ := hcut
      obtain ⟨z0, rfl⟩ : ∃ wz : World, wz = wc := ⟨_, rfl⟩
      go_upto_if 225 with fail
      go_cut [] (fun wx => Code8 wx A xs ∧ Below w.heap.size w wx)
      case first => as_aux_lemma =>
        rcases htb : tb with _ | _
        · go_wp2_with fail
          go_meet
          exact ⟨hcode, BB⟩
        · have h12 : fine = true ∧ n ≤ 1000 := by have := HTB.out; rw [htb] at this; simpa using this.symm
          obtain ⟨p, hp⟩ := single_law (xs := ts) (n := n) (by rw [HNV.out, h12.1]) h12.2
          have HP := Lib.hid hp
          have q1 : (([p] : List GHypothesis).length : Int) = 1 := rfl
          clear hp h12
          go_wp2_with fail
          refine (iHypothesesOf (wd := n) O4.rd (by omega) (by omega)).mono ?_
          rintro e z1 h
          rw [HP.out] at h
          obtain ⟨A9, c9, rfl, O9, B15⟩ := h
          have s_z1 := B15.size
          replace hcode := hcode.below B15
          replace O4 := O4.below B15 (by omega)
          replace BB := BB.trans (B15.mono BB.size)
          clear B15
          go_wp2_with fail
          go_meet
          exact ⟨hcode, BB⟩
      case rest => as_aux_lemma =>
        clear hcode BB O4 HNV HTB hsz
        obtain ⟨hcode, BB⟩ := hcut
        obtain ⟨u0, rfl⟩ : ∃ wz : World, wz = wc := ⟨_, rfl⟩
        clear s_y1
        go_wp2_with fail
        refine (drawStrongestOf_any hcode).mono ?_
        rintro e u1 ⟨A5, c5, ys, wy, rfl, hyl, O5, B16⟩
        have s_u1 := B16.size
        replace hcode := hcode.below B16
        replace BB := BB.trans (B16.mono BB.size)
        clear B16
        obtain ⟨v_SV, h_SV⟩ : ∃ v, vStrongestOf ys wy = v := ⟨_, rfl⟩
        have HSV := Lib.hid h_SV
        obtain ⟨sq, known⟩ := v_SV
        clear h_SV
        go_wp2_with fail
        refine (iStrongestOf (wd := wy) O5.rd (by omega) (by omega)).mono ?_
        rintro e u2 h
        rw [HSV.out] at h
        obtain ⟨rfl, B17⟩ := h
        have s_u2 := B17.size
        replace hcode := hcode.below B17
        replace O5 := O5.below B17 (by omega)
        replace BB := BB.trans (B17.mono BB.size)
        clear B17
        have D := Cells3.new u2 sq 37
        have Bx := below_alloc1 u2 (.cells #[.int .i64 sq.lw, .int .i64 sq.hg, .int .i64 sq.vt] 37)
        obtain ⟨gb, hgb⟩ : ∃ gb, gb = u2.heap.size := ⟨_, rfl⟩
        go_wp2_with fail
        generalize hx2 : u2.alloc (.cells #[.int .i64 sq.lw, .int .i64 sq.hg, .int .i64 sq.vt] 37) = u3 at D Bx ⊢
        clear hx2
        have s_u3 := Bx.size
        replace hcode := hcode.below Bx
        replace O5 := O5.below Bx (by omega)
        replace BB := BB.trans (Bx.mono BB.size)
        clear Bx
        rw [← hgb] at D ⊢
        clear hgb
        refine (sStrongestOf (wd := wy) O5.rd (by omega) (by omega)).mono ?_
        rintro e u4 h
        rw [HSV.out] at h
        obtain ⟨rfl, B4⟩ := h
        have hgl := D.lt
        replace D := D.below B4 D.lt
        have s_u4 := B4.size
        replace hcode := hcode.below B4
        replace O5 := O5.below B4 (by omega)
        replace BB := BB.trans (B4.mono BB.size)
        clear B4
        have E := Cells3.new u4 sq 37
        have Bx := below_alloc1 u4 (.cells #[.int .i64 sq.lw, .int .i64 sq.hg, .int .i64 sq.vt] 37)
        replace D := D.below Bx D.lt
        replace hcode := hcode.below Bx
        replace BB := BB.trans (Bx.mono BB.size)
        clear Bx O5
        obtain ⟨⟨d0, d1, d2⟩, _, _, _⟩ := D
        obtain ⟨⟨e0, e1, e2⟩, _, _, _⟩ := E
        go_wp2_with fail
        generalize hx5 : u4.alloc (.cells #[.int .i64 sq.lw, .int .i64 sq.hg, .int .i64 sq.vt] 37) = u5 at hcode BB ⊢
        clear hx5 d0 d1 d2 e0 e1 e2
        refine (drawAmbiguityOf_any hcode).mono ?_
        rintro e u6 ⟨A6, c6, zs, wz, rfl, hzl, O6, B6⟩
        have s_u6 := B6.size
        replace hcode := hcode.below B6
        replace BB := BB.trans (B6.mono BB.size)
        clear B6
        obtain ⟨av, hav⟩ : ∃ v, vAmbiguityOf zs wz = v := ⟨_, rfl⟩
        have HAV := Lib.hid hav
        obtain ⟨a1, a2, a3⟩ := av
        clear hav
        go_wp2_with fail
        refine (iAmbiguityOf (wd := wz) O6.rd (by omega) (by omega)).mono ?_
        rintro e u7 h
        rw [HAV.out] at h
        obtain ⟨rfl, B18⟩ := h
        have s_u7 := B18.size
        replace hcode := hcode.below B18
        replace O6 := O6.below B18 (by omega)
        replace BB := BB.trans (B18.mono BB.size)
        clear B18
        go_wp2_with fail
        refine (sAmbiguityOf (wd := wz) O6.rd (by omega) (by omega)).mono ?_
        rintro e u8 h
        rw [HAV.out] at h
        obtain ⟨rfl, B19⟩ := h
        have s_u8 := B19.size
        replace hcode := hcode.below B19
        replace O6 := O6.below B19 (by omega)
        replace BB := BB.trans (B19.mono BB.size)
        clear B19
        go_wp2_with fail
        go_ret
        exact ⟨rfl, BB⟩

end Go.Proofs.Ytdllhdfoinobjaa
