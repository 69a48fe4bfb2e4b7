/-
  This file proves the walk of the law 'FnSafeDepths': called with any code it returns true, and nothing that was in memory before has turned.
  Conditions: that the code reads as data, as the row's frame hands it over.
-/
import Derived.Test.YtdllhdfoinobjaaHypM
import Derived.Test.YtdllhdfoinobjaaSafeLaw
import Derived.Test.YtdllhdfoinobjaaLawHelp
import Derived.Deep.DeepCutAuto
namespace Go.Proofs.Ytdllhdfoinobjaa
open Go.RowKit
set_option linter.unusedSimpArgs false
set_option linter.unusedVariables false

set_option maxHeartbeats 4000000 in
set_option maxRecDepth 100000 in
theorem fnSafeDepths_walk (A : Option Addr) (c : Nat) (xs : List Int) (w : World) (hrd : Rd w 0 w.heap.size 1 A xs.length (bytesV xs)) (hby : ∀ n ∈ xs, (Lit.int .u8 n).wf = true) :
    Calls Try.prog 7 #[.slice A xs.length c] w fun e w' => e = .returned (.bool true) ∧ Below w.heap.size w w' := by
  by_cases hbig : 65536 < xs.length
  · go_enter Try.func7, Try.ntmps7
    go_wp2_with fail
    refine (vBig_any).mono ?_
    rintro e w' ⟨rfl, rfl⟩
    rw [decide_eq_true hbig]
    go_wp2_with fail
    go_ret
    exact ⟨rfl, Below.refl _ _⟩
  have hcode : Code8 w A xs := ⟨hrd, fun x hx => by have h := hby x hx; simp [Lit.wf, IntKind.min, IntKind.max, IntKind.signed, IntKind.bits] at h; omega, by omega⟩
  have HB := Lib.hid hbig
  clear hrd hby hbig
  have BB : Below w.heap.size w w := Below.refl _ _
  go_enter Try.func7, Try.ntmps7
  go_wp2_with fail
  refine (vBig_any).mono ?_
  rintro e w' ⟨rfl, rfl⟩
  rw [decide_eq_false HB.out]
  go_wp2_with fail
  refine (drawSafeDepth_any hcode).mono ?_
  rintro e w1 ⟨A1, c1, vs, wd, sg, rfl, hl1, O1, B1⟩
  have s_w1 := B1.size
  replace hcode := hcode.below B1
  replace BB := BB.trans (B1.mono BB.size)
  clear B1
  have hlaw := safe_law vs wd sg
  obtain ⟨v_SD, h_SD⟩ : ∃ v, vSafeDepth vs wd sg = v := ⟨_, rfl⟩
  have HSD := Lib.hid h_SD
  obtain ⟨n, ok⟩ := v_SD
  obtain ⟨v_WW, h_WW⟩ : ∃ v, vWithoutWeak vs wd sg = v := ⟨_, rfl⟩
  have HWW := Lib.hid h_WW
  obtain ⟨lf, told⟩ := v_WW
  rw [h_SD, h_WW] at hlaw
  clear h_SD h_WW
  obtain ⟨ht, hlf1, hlf2, hok⟩ := hlaw
  simp only at ht hlf1 hlf2 hok
  subst ht
  have HOK := Lib.hid hok
  clear hok
  go_wp2_with fail
  refine (iSafeDepth (wd := wd) (s := sg) O1.rd (by omega) (by omega)).mono ?_
  rintro e w2 h
  rw [HSD.out] at h
  obtain ⟨rfl, B2⟩ := h
  have s_w2 := B2.size
  replace hcode := hcode.below B2
  replace O1 := O1.below B2 (by omega)
  replace BB := BB.trans (B2.mono BB.size)
  clear B2
  go_wp2_with fail
  refine (sSafeDepth (wd := wd) (s := sg) O1.rd (by omega) (by omega)).mono ?_
  rintro e w3 h
  rw [HSD.out] at h
  obtain ⟨rfl, B3⟩ := h
  have s_w3 := B3.size
  replace hcode := hcode.below B3
  replace O1 := O1.below B3 (by omega)
  replace BB := BB.trans (B3.mono BB.size)
  clear B3
  go_wp2_with fail
  refine (iWithoutWeak (wd := wd) (s := sg) O1.rd (by omega) (by omega)).mono ?_
  rintro e w4 h
  rw [HWW.out] at h
  obtain ⟨A4, c4, rfl, O4, B4⟩ := h
  have s_w4 := B4.size
  replace hcode := hcode.below B4
  replace O1 := O1.below B4 (by omega)
  replace BB := BB.trans (B4.mono BB.size)
  clear B4
  go_wp2_with fail
  refine (sWithoutWeak (wd := wd) (s := sg) O1.rd (by omega) (by omega)).mono ?_
  rintro e w5 h
  rw [HWW.out] at h
  obtain ⟨A5, c5, rfl, O5, B5⟩ := h
  have s_w5 := B5.size
  replace hcode := hcode.below B5
  replace O1 := O1.below B5 (by omega)
  replace O4 := O4.below B5 (by omega)
  replace BB := BB.trans (B5.mono BB.size)
  clear B5
  go_wp2_with fail
  refine (vInts_same O4.rd O5.rd (by omega)).mono ?_
  rintro e w6 ⟨rfl, nq, hnq⟩
  have B6 := below_of_quiet (B := w5.heap.size) hnq
  clear hnq
  have s_w6 := B6.size
  replace hcode := hcode.below B6
  replace O1 := O1.below B6 (by omega)
  replace O4 := O4.below B6 (by omega)
  replace O5 := O5.below B6 (by omega)
  replace BB := BB.trans (B6.mono BB.size)
  clear B6
  clear O5
  go_upto_if 88 with fail
  go_cut [] (fun wx => Code8 wx A xs ∧ Below w.heap.size w wx)
  case first => as_aux_lemma =>
    rcases told with _ | _
    · go_wp2_with fail
      go_meet
      exact ⟨hcode, BB⟩
    obtain ⟨hn20, hs1, hsl, hmem, hall⟩ := HOK.out rfl
    have hnb := hall n hmem
    have HALL := Lib.hid hall
    have HMEM := Lib.hid hmem
    clear hall hmem HOK HSD HWW
    go_wp2_with fail
    go_loopw [14, 15] (fun t i wr => ∃ (k : Nat) (m : Int), k ≤ lf.length ∧ i = .int .i64 k ∧ t = .int .i64 m ∧ n ≤ m ∧ m ≤ 20000 ∧ (m = 20000 ∨ m ∈ lf.take k) ∧ (∀ x ∈ lf.take k, m ≤ x) ∧ Code8 wr A xs ∧ Below w.heap.size w wr ∧ OwnI wr 3 w3.heap.size w4.heap.size A4 c4 lf ∧ w4.heap.size ≤ wr.heap.size) (fun _ i _ => lf.length - (intOf i).toNat)
    case atStart => exact ⟨0, 20000, Nat.zero_le _, rfl, rfl, by omega, by omega, .inl rfl, by simp, hcode, BB, O4, by omega⟩
    case round => as_aux_lemma =>
      clear hcode BB O1 O4 s_w5 s_w6
      obtain ⟨k, m, hk, rfl, rfl, hm0, hm1, hm2, hm3, hcode, BB, O4, hsz⟩ := hrel
      have HM2 := Lib.hid hm2
      have HM3 := Lib.hid hm3
      clear hm2 hm3
      by_cases hlt : k < lf.length
      · obtain ⟨b1, o1, x, rfl, hx, hc1⟩ := O4.rd.geti hlt
        have hxb := HALL.out x (List.mem_of_getElem? hx)
        have HT := Lib.hid (take_snoc hx)
        have q1 : (k : Int) < (lf.length : Int) := by omega
        clear hx
        by_cases hxm : x < m
        · have HR := Lib.hid (show (x = 20000 ∨ x ∈ lf.take (k + 1)) ∧ ∀ y ∈ lf.take (k + 1), x ≤ y from by
            rw [HT.out]
            refine ⟨.inr (by simp), fun y hy => ?_⟩
            rcases List.mem_append.1 hy with hy | hy
            · have := HM3.out y hy; omega
            · simp at hy; omega)
          go_wp2_with fail
          go_roundw
          case rel => exact ⟨k + 1, x, by omega, by go_num, rfl, by omega, by omega, HR.out.1, HR.out.2, hcode, BB, O4, hsz⟩
          case measure => simp [intOf]; omega
        · have HR := Lib.hid (show (m = 20000 ∨ m ∈ lf.take (k + 1)) ∧ ∀ y ∈ lf.take (k + 1), m ≤ y from by
            rw [HT.out]
            refine ⟨HM2.out.elim .inl fun h => .inr (List.mem_append_left _ h), fun y hy => ?_⟩
            rcases List.mem_append.1 hy with hy | hy
            · exact HM3.out y hy
            · simp at hy; omega)
          go_wp2_with fail
          go_roundw
          case rel => exact ⟨k + 1, m, by omega, by go_num, rfl, by omega, by omega, HR.out.1, HR.out.2, hcode, BB, O4, hsz⟩
          case measure => simp [intOf]; omega
      have hmn : m = n := by
        have h1 := HM3.out n (by rw [take_all hlt]; exact HMEM.out)
        rcases HM2.out with h2 | h2
        · omega
        · omega
      subst hmn
      have q1 : ¬ ((lf.length : Int) < sg) := by omega
      have q2 : decide ((lf.length : Int) < sg) = false := by simpa using q1
      have q3 : ¬ ((vs.length : Int) < (lf.length : Int)) := by omega
      have q4 : decide ((vs.length : Int) < (lf.length : Int)) = false := by simpa using q3
      have q5 : ¬ (vs.length < lf.length) := by omega
      have q6 : decide (vs.length < lf.length) = false := by simpa using q5
      clear HM2 HM3 HALL HMEM
      go_wp2_with fail
      go_meet
      exact ⟨hcode, BB⟩
  case rest => as_aux_lemma =>
    clear hcode BB O1 O4 HSD HWW HOK
    obtain ⟨hcode, BB⟩ := hcut
    obtain ⟨y0, rfl⟩ : ∃ wz : World, wz = wc := ⟨_, rfl⟩
    clear s_w1 s_w2 s_w3 s_w4 s_w5 s_w6
    go_wp2_with fail
    refine (drawAddVote_any hcode).mono ?_
    rintro e y1 ⟨A7, c7, ts, dp, rfl, htl, O7, B7⟩
    have s_y1 := B7.size
    replace hcode := hcode.below B7
    replace BB := BB.trans (B7.mono BB.size)
    clear B7
    have hav := vAddVote_len0 ts dp
    obtain ⟨v_AV, h_AV⟩ : ∃ v, vAddVote ts dp = v := ⟨_, rfl⟩
    have HAV := Lib.hid h_AV
    obtain ⟨mo, fine⟩ := v_AV
    rw [h_AV] at hav
    simp only at hav
    clear h_AV
    go_wp2_with fail
    refine (iAddVote (d := dp) O7.rd (by omega) (by omega)).mono ?_
    rintro e y2 h
    rw [HAV.out] at h
    obtain ⟨A8, c8, rfl, O8, B8⟩ := h
    have s_y2 := B8.size
    replace hcode := hcode.below B8
    replace O7 := O7.below B8 (by omega)
    replace BB := BB.trans (B8.mono BB.size)
    clear B8
    go_wp2_with fail
    refine (sAddVote (d := dp) O7.rd (by omega) (by omega)).mono ?_
    rintro e y3 h
    rw [HAV.out] at h
    obtain ⟨A9, c9, rfl, O9, B9⟩ := h
    have s_y3 := B9.size
    replace hcode := hcode.below B9
    replace O7 := O7.below B9 (by omega)
    replace O8 := O8.below B9 (by omega)
    replace BB := BB.trans (B9.mono BB.size)
    clear B9
    go_wp2_with fail
    refine (vInts_same O8.rd O9.rd (by omega)).mono ?_
    rintro e y4 ⟨rfl, nq, hnq⟩
    have B10 := below_of_quiet (B := y3.heap.size) hnq
    clear hnq
    have s_y4 := B10.size
    replace hcode := hcode.below B10
    replace O7 := O7.below B10 (by omega)
    replace O8 := O8.below B10 (by omega)
    replace O9 := O9.below B10 (by omega)
    replace BB := BB.trans (B10.mono BB.size)
    clear B10
    clear O7 O8 O9
    go_wp2_with fail
    refine (drawMedianVote_any hcode).mono ?_
    rintro e z1 ⟨Aa, ca, ys, rfl, hyl, Oa, B11⟩
    have s_z1 := B11.size
    replace hcode := hcode.below B11
    replace BB := BB.trans (B11.mono BB.size)
    clear B11
    obtain ⟨mv, hmv⟩ : ∃ v, vMedianVote ys = v := ⟨_, rfl⟩
    have HMV := Lib.hid hmv
    obtain ⟨md, known⟩ := mv
    clear hmv
    go_wp2_with fail
    refine (iMedianVote Oa.rd (by omega) (by omega)).mono ?_
    rintro e z2 h
    rw [HMV.out] at h
    obtain ⟨rfl, B12⟩ := h
    have s_z2 := B12.size
    replace hcode := hcode.below B12
    replace Oa := Oa.below B12 (by omega)
    replace BB := BB.trans (B12.mono BB.size)
    clear B12
    go_wp2_with fail
    refine (sMedianVote Oa.rd (by omega) (by omega)).mono ?_
    rintro e z3 h
    rw [HMV.out] at h
    obtain ⟨rfl, B13⟩ := h
    have s_z3 := B13.size
    replace hcode := hcode.below B13
    replace Oa := Oa.below B13 (by omega)
    replace BB := BB.trans (B13.mono BB.size)
    clear B13
    rcases known with _ | _
    · go_wp2_with fail
      go_ret
      exact ⟨rfl, BB⟩
    have hml : (2 * (ys.filter fun y => decide (y < md)).length < ys.length ∧ 2 * (ys.filter fun y => decide (md < y)).length ≤ ys.length) := by
      have h := HMV.out
      unfold vMedianVote at h
      split at h
      · rename_i hv
        injection h with h1 h2
        have := median_law ys hv
        rw [h1] at this
        exact this
      · injection h with h1 h2; cases h2
    have HML := Lib.hid hml
    clear hml HMV
    go_wp2_with fail
    go_loopw [27, 28, 29] (fun a b i wr => ∃ k : Nat, k ≤ ys.length ∧ i = .int .i64 k ∧ a = .int .i64 ((((ys.take k).filter fun y => decide (y < md)).length : Nat) : Int) ∧ b = .int .i64 ((((ys.take k).filter fun y => decide (md < y)).length : Nat) : Int) ∧ Below w.heap.size w wr ∧ OwnI wr 3 y4.heap.size z1.heap.size Aa ca ys) (fun _ _ i _ => ys.length - (intOf i).toNat)
    case atStart => exact ⟨0, Nat.zero_le _, rfl, rfl, rfl, BB, Oa⟩
    case round => as_aux_lemma =>
      clear hcode BB Oa s_y1 s_y2 s_y3 s_y4 s_z1 s_z2 s_z3
      obtain ⟨k, hk, rfl, rfl, rfl, BB, Oa⟩ := hrel
      obtain ⟨lo, hlo⟩ : ∃ lo, lo = ((ys.take k).filter fun y => decide (y < md)).length := ⟨_, rfl⟩
      obtain ⟨hg, hhg⟩ : ∃ hg, hg = ((ys.take k).filter fun y => decide (md < y)).length := ⟨_, rfl⟩
      have hlo1 : lo ≤ k := by rw [hlo]; exact Nat.le_trans (List.length_filter_le _ _) (by rw [List.length_take]; omega)
      have hhg1 : hg ≤ k := by rw [hhg]; exact Nat.le_trans (List.length_filter_le _ _) (by rw [List.length_take]; omega)
      rw [← hlo, ← hhg]
      have HLO := Lib.hid hlo
      have HHG := Lib.hid hhg
      clear hlo hhg
      by_cases hlt : k < ys.length
      · obtain ⟨b1, o1, x, rfl, hx, hc1⟩ := Oa.rd.geti hlt
        have HT := Lib.hid (take_snoc hx)
        have q1 : (k : Int) < (ys.length : Int) := by omega
        clear hx
        rcases Int.lt_trichotomy x md with h1 | h1 | h1
        · have h2 : ¬ md < x := by omega
          have HR := Lib.hid (show (((ys.take (k + 1)).filter fun y => decide (y < md)).length = lo + 1 ∧ ((ys.take (k + 1)).filter fun y => decide (md < y)).length = hg) from by
            rw [HT.out, List.filter_append, List.filter_append, List.length_append, List.length_append, ← HLO.out, ← HHG.out]
            simp [h1, h2])
          go_wp2_with fail
          go_roundw
          case rel => exact ⟨k + 1, by omega, by go_num, by rw [HR.out.1]; go_num, by rw [HR.out.2], BB, Oa⟩
          case measure => simp [intOf]; omega
        · have h2 : ¬ md < x := by omega
          have h3 : ¬ x < md := by omega
          have HR := Lib.hid (show (((ys.take (k + 1)).filter fun y => decide (y < md)).length = lo ∧ ((ys.take (k + 1)).filter fun y => decide (md < y)).length = hg) from by
            rw [HT.out, List.filter_append, List.filter_append, List.length_append, List.length_append, ← HLO.out, ← HHG.out]
            simp [h3, h2])
          clear h1
          go_wp2_with fail
          go_roundw
          case rel => exact ⟨k + 1, by omega, by go_num, by rw [HR.out.1], by rw [HR.out.2], BB, Oa⟩
          case measure => simp [intOf]; omega
        · have h3 : ¬ x < md := by omega
          have HR := Lib.hid (show (((ys.take (k + 1)).filter fun y => decide (y < md)).length = lo ∧ ((ys.take (k + 1)).filter fun y => decide (md < y)).length = hg + 1) from by
            rw [HT.out, List.filter_append, List.filter_append, List.length_append, List.length_append, ← HLO.out, ← HHG.out]
            simp [h1, h3])
          go_wp2_with fail
          go_roundw
          case rel => exact ⟨k + 1, by omega, by go_num, by rw [HR.out.1], by rw [HR.out.2]; go_num, BB, Oa⟩
          case measure => simp [intOf]; omega
      have hz : 2 * lo < ys.length ∧ 2 * hg ≤ ys.length := by rw [HLO.out, HHG.out, take_all hlt]; exact HML.out
      have q1 : 2 * (lo : Int) < (ys.length : Int) := by omega
      have q2 : 2 * (hg : Int) ≤ (ys.length : Int) := by omega
      have q3 : decide (2 * (hg : Int) ≤ (ys.length : Int)) = true := decide_eq_true q2
      clear HLO HHG HML
      go_wp2_with fail
      go_ret
      exact ⟨rfl, BB⟩

end Go.Proofs.Ytdllhdfoinobjaa
