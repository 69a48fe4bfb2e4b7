/-
  This file proves the walk of the law 'FnCrossings': called with any code it returns true, and nothing that was in memory before has turned.
  Conditions: that the code reads as data, as the row's frame hands it over.
-/
import Derived.Test.YtiegnhpccbnhhaaCrossG
import Derived.Test.YtiegnhpccbnhhaaCrossH
import Derived.Test.YtiegnhpccbnhhaaCrossP
import Derived.Test.YtiegnhpccbnhhaaCrossQ
import Derived.Test.YtiegnhpccbnhhaaLawHelp
import Derived.Deep.DeepCutAuto
namespace Go.Proofs.Ytiegnhpccbnhhaa
open Go.RowKit
set_option linter.unusedSimpArgs false
set_option linter.unusedVariables false

theorem sAreCrossings {A : Option Addr} {c lo hi : Nat} {ps : List GCrossing} {w : World} (hr : RdC w lo hi A ps) (hl : ps.length ≤ 2097152) (hh : hi ≤ w.heap.size) :
    Calls Try.prog 38 #[.slice A ps.length c] w (RetB (isCL ps) w) := by
  go_enter Try.func38, Try.ntmps38
  go_wp2_with fail
  refine (l10Good_any hr hl hh).mono ?_
  rintro e w1 ⟨rfl, B1⟩
  go_wp2_with fail
  go_ret
  exact ⟨rfl, B1⟩
/-- With a greater fixed number no more differences are not tolerated. -/
theorem not_less {ps : List GCrossing} {fx pc : Int} : ∀ x ∈ gath (pNot ps (fx + 1) pc) (fun i => (i : Int)) ps.length, x ∈ gath (pNot ps fx pc) (fun i => (i : Int)) ps.length := by
  intro x hx
  unfold gath at hx ⊢
  rw [List.mem_map] at hx ⊢
  obtain ⟨i, hi, rfl⟩ := hx
  rw [List.mem_filter] at hi
  refine ⟨i, List.mem_filter.2 ⟨hi.1, ?_⟩, rfl⟩
  have h := hi.2
  unfold pNot tol at h ⊢
  simp only [Bool.not_eq_true', decide_eq_false_iff_not] at h ⊢
  omega
theorem sfix_most {ps : List GCrossing} {pc : Int} (n : Nat) : ∀ i, i < n → needF (gC ps i) pc ≤ sfix ps pc n := by
  induction n with
  | zero => intro i hi; omega
  | succ n ih =>
    intro i hi
    rw [sfix_succ, mostI_eq]
    rcases Nat.lt_or_ge i n with h | h
    · have := ih i h; omega
    · obtain rfl : i = n := by omega
      omega
theorem sfix_has {ps : List GCrossing} {pc : Int} (n : Nat) : 0 < sfix ps pc n → ∃ i, i < n ∧ needF (gC ps i) pc = sfix ps pc n := by
  induction n with
  | zero => intro h; simp [sfix] at h
  | succ n ih =>
    intro h
    rw [sfix_succ, mostI_eq] at h ⊢
    rcases Int.lt_or_le (sfix ps pc n) (needF (gC ps n) pc) with h1 | h1
    · exact ⟨n, by omega, by omega⟩
    · obtain ⟨i, hi, he⟩ := ih (by omega)
      exact ⟨i, by omega, by omega⟩
theorem none_left {ps : List GCrossing} {pc : Int} (h : 0 ≤ sfix ps pc ps.length) : gath (pNot ps (sfix ps pc ps.length) pc) (fun i => (i : Int)) ps.length = [] := by
  unfold gath
  rw [List.map_eq_nil_iff, List.filter_eq_nil_iff]
  intro i hi
  have hi' := List.mem_range.1 hi
  unfold pNot
  rw [needF_tol h, decide_eq_true (sfix_most ps.length i hi')]
  simp
theorem some_left {ps : List GCrossing} {pc : Int} (h : 0 < sfix ps pc ps.length) : 0 < (gath (pNot ps (sfix ps pc ps.length - 1) pc) (fun i => (i : Int)) ps.length).length := by
  obtain ⟨i, hi, he⟩ := sfix_has ps.length h
  rw [List.length_pos_iff]
  intro hn
  unfold gath at hn
  rw [List.map_eq_nil_iff, List.filter_eq_nil_iff] at hn
  have := hn i (List.mem_range.2 hi)
  apply this
  unfold pNot
  rw [needF_tol (by omega), decide_eq_false (by omega)]
  rfl

theorem great_facts {ps : List GCrossing} {g : Int × Int × Bool} (h : vGreatestDifference ps = g) (hk : g.2.2 = true) : ∀ (k : Nat) (p : GCrossing), ps[k]? = some p → isCx p = true ∧ absI (p.ck - p.mn) ≤ absI g.2.1 ∧ -21000 ≤ g.2.1 ∧ g.2.1 ≤ 21000 := by
  unfold vGreatestDifference at h
  by_cases hc : isCL ps = true ∧ 0 < ps.length
  · rw [if_pos hc] at h
    subst h
    intro k p hp
    have hk := (List.getElem?_eq_some_iff.1 hp).1
    have h1 := gIdx_most (ps := ps) ps.length k hk
    rw [dC_of hp] at h1
    have hg := gIdx_lt ps.length hc.2 (Nat.le_refl _)
    have hq := isCx_bound (isCL_get hc.1 (List.getElem?_eq_getElem hg))
    refine ⟨isCL_get hc.1 hp, h1, ?_⟩
    simp only
    rw [dC_of (List.getElem?_eq_getElem hg)]
    omega
  · rw [if_neg hc] at h
    subst h
    cases hk

set_option maxHeartbeats 4000000 in
set_option maxRecDepth 100000 in
theorem fnCrossings_walk (A : Option Addr) (c : Nat) (xs : List Int) (w : World) (hrd : Rd w 0 w.heap.size 1 A xs.length (bytesV xs)) (hby : ∀ n ∈ xs, (Lit.int .u8 n).wf = true) :
    Calls Try.prog 10 #[.slice A xs.length c] w fun e w' => e = .returned (.bool true) ∧ Below w.heap.size w w' := by
  by_cases hbig : 65536 < xs.length
  · go_enter Try.func10, Try.ntmps10
    go_wp2_with fail
    refine (vBig_any).mono ?_
    rintro e w' ⟨rfl, rfl⟩
    rw [decide_eq_true hbig]
    go_wp2_with fail
    go_ret
    exact ⟨rfl, Below.refl _ _⟩
  have hcode : Code8 w A xs := ⟨hrd, fun x hx => by have h := hby x hx; simp [Lit.wf, IntKind.min, IntKind.max, IntKind.signed, IntKind.bits] at h; omega, by omega⟩
  have HB := Lib.hid hbig
  clear hrd hby hbig
  go_enter Try.func10, Try.ntmps10
  go_wp2_with fail
  refine (vBig_any).mono ?_
  rintro e w' ⟨rfl, rfl⟩
  rw [decide_eq_false HB.out]
  go_wp2_with fail
  refine (drawNot_any hcode).mono ?_
  rintro e w1 ⟨A1, c1, ps, fx, pc, rfl, hpl, O1, B1⟩
  have s1 := B1.size
  have hcode1 := hcode.below B1
  have BB1 := B1
  obtain ⟨yl, hyl⟩ : ∃ yl, (vNotTolerated ps fx pc).1 = yl := ⟨_, rfl⟩
  obtain ⟨yb, hyb⟩ : ∃ yb, (vNotTolerated ps fx pc).2 = yb := ⟨_, rfl⟩
  have hyn : yl.length ≤ 20 := by rw [← hyl]; exact Nat.le_trans (vNotTolerated_len0 _ _ _) hpl
  have HYL := Lib.hid hyl
  have HYB := Lib.hid hyb
  clear hyl hyb
  go_wp2_with fail
  refine (iNotTolerated O1.rd (by omega) (Nat.le_refl _) O1.cap).mono ?_
  rintro e w2 h
  rw [HYL.out, HYB.out] at h
  obtain ⟨A2, c2, rfl, O2, B2⟩ := h
  have s2 := B2.size
  have R2 := O1.below B2 (Nat.le_refl _)
  have BB2 := BB1.trans (B2.mono s1)
  have hcode2 := hcode1.below B2
  go_wp2_with fail
  refine (sNotTolerated R2.rd (by omega) s2).mono ?_
  rintro e w3 h
  rw [HYL.out, HYB.out] at h
  obtain ⟨A3, c3, rfl, O3, B3⟩ := h
  have s3 := B3.size
  have R3 := R2.below B3 s2
  have O23 := O2.below B3 (Nat.le_refl _)
  have BB3 := BB2.trans (B3.mono (by omega))
  have hcode3 := hcode2.below B3
  go_wp2_with fail
  refine (vInts_same O23.rd O3.rd (by omega)).mono ?_
  rintro e w4 ⟨rfl, n4, hn4⟩
  have B4 := below_of_quiet (B := w3.heap.size) hn4
  have s4 := B4.size
  clear hn4
  have R4 := R3.below B4 (by omega)
  have O24 := O23.below B4 (by omega)
  have BB4 := BB3.trans (B4.mono (by omega))
  have hcode4 := hcode3.below B4
  go_wp2_with fail
  refine (areCrossings_any R4.rd (by omega) (by omega) R4.cap).mono ?_
  rintro e w5 ⟨rfl, B5⟩
  have s5 := B5.size
  have R5 := R4.below B5 (by omega)
  have O25 := O24.below B5 (by omega)
  have BB5 := BB4.trans (B5.mono (by omega))
  have hcode5 := hcode4.below B5
  go_wp2_with fail
  refine (sAreCrossings R5.rd (by omega) (by omega)).mono ?_
  rintro e w6 ⟨rfl, B6⟩
  have s6 := B6.size
  have R6 := R5.below B6 (by omega)
  have O26 := O25.below B6 (by omega)
  have BB6 := BB5.trans (B6.mono (by omega))
  have hcode6 := hcode5.below B6
  clear O1 O2 O3 R2 R3 R4 R5 O23 O24 O25 BB1 BB2 BB3 BB4 BB5 hcode1 hcode2 hcode3 hcode4 hcode5 hcode B1 B2 B3 B4 B5 B6
  obtain ⟨tb, htb⟩ : ∃ tb : Bool, tb = (canTol ps fx pc && decide (fx < 500)) := ⟨_, rfl⟩
  have HTB := Lib.hid htb
  clear htb
  go_upto_region 8 with fail
  go_cut [80] (fun s80 wx => s80 = .bool tb ∧ Code8 wx A xs ∧ Below w.heap.size w wx ∧ Own wx 3 w1.heap.size w2.heap.size 1 A2 yl.length c2 (ints yl) ∧ Own wx 59 w.heap.size w1.heap.size 4 A1 ps.length c1 (cellsCrossing ps) ∧ w6.heap.size ≤ wx.heap.size)
  case first => as_aux_lemma =>
    by_cases h1 : canTol ps fx pc = true
    · have hb : yb = true := by rw [← HYB.out, vNotTolerated_yes h1]
      subst hb
      by_cases h2 : fx < 500
      · have HT := Lib.hid (show tb = true from by rw [HTB.out, h1, decide_eq_true h2]; rfl)
        go_wp2_with fail
        go_meet
        exact ⟨by rw [HT.out], hcode6, BB6, O26, R6, Nat.le_refl _⟩
      · have HT := Lib.hid (show tb = false from by rw [HTB.out, h1, decide_eq_false h2]; rfl)
        go_wp2_with fail
        go_meet
        exact ⟨by rw [HT.out], hcode6, BB6, O26, R6, Nat.le_refl _⟩
    · have h1' : canTol ps fx pc = false := by simpa using h1
      have hb : yb = false := by rw [← HYB.out, vNotTolerated_no h1']
      subst hb
      have HT := Lib.hid (show tb = false from by rw [HTB.out, h1']; rfl)
      go_wp2_with fail
      go_meet
      exact ⟨by rw [HT.out], hcode6, BB6, O26, R6, Nat.le_refl _⟩
  case rest => as_aux_lemma =>
    obtain ⟨rfl, hcode6', BB6', O26', R6', hw6⟩ := hcut
    clear hcode6 BB6 O26 R6
    go_upto_if 80 with fail
    go_cut [] (fun wx => Code8 wx A xs ∧ Below w.heap.size w wx)
    case first => as_aux_lemma =>
      rcases htb : tb with _ | _
      · go_wp2_with fail
        go_meet
        exact ⟨hcode6', BB6'⟩
      · have h12 : canTol ps fx pc = true ∧ fx < 500 := by have := HTB.out; rw [htb] at this; simpa using this.symm
        have h3 := canTol_iff.1 h12.1
        have hfx := inR_true.1 h3.2.1
        have h4 : canTol ps (fx + 1) pc = true := canTol_iff.2 ⟨h3.1, inR_true.2 (by omega), h3.2.2⟩
        have hyl : gath (pNot ps fx pc) (fun i => (i : Int)) ps.length = yl := by rw [← HYL.out, vNotTolerated_yes h12.1]
        have HIN := Lib.hid (not_less (ps := ps) (fx := fx) (pc := pc))
        rw [hyl] at HIN
        have H4 := Lib.hid (vNotTolerated_yes h4)
        have q1 : IntKind.i64.wrap (fx + 1) = fx + 1 := wr64 (by omega) (by omega)
        have hgl := gath_le (pNot ps (fx + 1) pc) (fun i => (i : Int)) ps.length
        clear h12 h3 h4 hyl
        go_wp2_with fail
        refine (iNotTolerated (fx := fx + 1) (pc := pc) R6'.rd (by omega) (by omega) R6'.cap).mono ?_
        rintro e w7 h
        rw [H4.out] at h
        obtain ⟨A7, c7, rfl, O7, B7⟩ := h
        have s7 := B7.size
        have O27 := O26'.below B7 (by omega)
        have BB7 := BB6'.trans (B7.mono (by have := BB6'.size; omega))
        have hcode7 := hcode6'.below B7
        go_wp2_with fail
        refine (vWithin_any O7.rd O27.rd (by omega) (by omega) HIN.out).mono ?_
        rintro e w' ⟨rfl, rfl⟩
        go_wp2_with fail
        go_meet
        exact ⟨hcode7, BB7⟩
    case rest => as_aux_lemma =>
      obtain ⟨hcodeA, BBA⟩ := hcut
      clear hcode6' BB6' O26' R6' HTB HYL HYB s1 s2 s3 s4 s5 s6
      obtain ⟨wa, rfl⟩ : ∃ wa : World, wa = wc := ⟨_, rfl⟩
      go_wp2_with fail
      refine (drawSmall_any hcodeA).mono ?_
      rintro e v1 ⟨Ab, cb, qs, pd, rfl, hql, Ob, Bb1⟩
      have t1 := Bb1.size
      have BBb := BBA.trans (Bb1.mono BBA.size)
      have hcodeb := hcodeA.below Bb1
      obtain ⟨n, hn⟩ : ∃ n, (vSmallestFixed qs pd).1 = n := ⟨_, rfl⟩
      obtain ⟨told, htold⟩ : ∃ told, (vSmallestFixed qs pd).2 = told := ⟨_, rfl⟩
      have HN := Lib.hid hn
      have HT := Lib.hid htold
      clear hn htold
      go_wp2_with fail
      refine (iSmallestFixed (pc := pd) Ob.rd (by omega) (Nat.le_refl _) Ob.cap).mono ?_
      rintro e v2 h
      rw [HN.out, HT.out] at h
      obtain ⟨rfl, Bb2⟩ := h
      have t2 := Bb2.size
      have Ob2 := Ob.below Bb2 (Nat.le_refl _)
      have BBb2 := BBb.trans (Bb2.mono BBb.size)
      have hcodeb2 := hcodeb.below Bb2
      go_wp2_with fail
      refine (sSmallestFixed (pc := pd) Ob2.rd (by omega) t2).mono ?_
      rintro e v3 h
      rw [HN.out, HT.out] at h
      obtain ⟨rfl, Bb3⟩ := h
      have t3 := Bb3.size
      have Ob3 := Ob2.below Bb3 t2
      have BBb3 := BBb2.trans (Bb3.mono BBb2.size)
      have hcodeb3 := hcodeb2.below Bb3
      clear Ob Ob2 BBb BBb2 hcodeb hcodeb2 Bb1 Bb2 Bb3 hcodeA BBA
      obtain ⟨td, htd⟩ : ∃ td : Bool, td = (told && decide (n ≤ 500)) := ⟨_, rfl⟩
      have HTD := Lib.hid htd
      clear htd
      go_upto_region 17 with fail
      go_cut [126] (fun s126 wx => s126 = .bool td ∧ Code8 wx A xs ∧ Below w.heap.size w wx ∧ Own wx 59 wa.heap.size v1.heap.size 4 Ab qs.length cb (cellsCrossing qs) ∧ v1.heap.size ≤ wx.heap.size)
      case first => as_aux_lemma =>
        have hv13 : v1.heap.size ≤ v3.heap.size := by omega
        rcases told with _ | _
        · have HD := Lib.hid (show td = false from by rw [HTD.out]; rfl)
          go_wp2_with fail
          go_meet
          exact ⟨by rw [HD.out], hcodeb3, BBb3, Ob3, hv13⟩
        · by_cases h5 : n ≤ 500
          · have HD := Lib.hid (show td = true from by rw [HTD.out, decide_eq_true h5]; rfl)
            go_wp2_with fail
            go_meet
            exact ⟨by rw [HD.out], hcodeb3, BBb3, Ob3, hv13⟩
          · have HD := Lib.hid (show td = false from by rw [HTD.out, decide_eq_false h5]; rfl)
            go_wp2_with fail
            go_meet
            exact ⟨by rw [HD.out], hcodeb3, BBb3, Ob3, hv13⟩
      case rest => as_aux_lemma =>
        obtain ⟨rfl, hcodec, BBc, Oc, hvc⟩ := hcut
        clear hcodeb3 BBb3 Ob3
        go_upto_if 126 with fail
        go_cut [] (fun wx => Code8 wx A xs ∧ Below w.heap.size w wx)
        case first => as_aux_lemma =>
          rcases htd : td with _ | _
          · go_wp2_with fail
            go_meet
            exact ⟨hcodec, BBc⟩
          · have h12 : told = true ∧ n ≤ 500 := by have := HTD.out; rw [htd] at this; simpa using this.symm
            have hgood : isCL qs = true ∧ inR pd 0 100 = true := by
              have h6 := HT.out
              rw [h12.1] at h6
              by_cases h7 : isCL qs = true ∧ inR pd 0 100 = true
              · exact h7
              · unfold vSmallestFixed at h6; rw [if_neg h7] at h6; cases h6
            have hnn : sfix qs pd qs.length = n := by rw [← HN.out, vSmall_yes hgood.1 hgood.2]
            have hsb := sfix_bound (pc := pd) hgood.1 (inR_true.1 hgood.2) qs.length (Nat.le_refl _)
            rw [hnn] at hsb
            have h4 : canTol qs n pd = true := canTol_iff.2 ⟨hgood.1, inR_true.2 (by omega), hgood.2⟩
            have H4 := Lib.hid (vNotTolerated_yes h4)
            have hnl := none_left (ps := qs) (pc := pd) (by rw [hnn]; exact hsb.1)
            rw [hnn] at hnl
            have HNL := Lib.hid hnl
            have HSL := Lib.hid (some_left (ps := qs) (pc := pd))
            rw [hnn] at HSL
            have hbw : w.heap.size ≤ wc.heap.size := BBc.size
            have H6 := Lib.hid h12
            have HG := Lib.hid hgood
            clear hnn hnl h4 h12 hgood
            go_wp2_with fail
            refine (iNotTolerated (fx := n) (pc := pd) Oc.rd (by omega) hvc Oc.cap).mono ?_
            rintro e w7 h
            rw [H4.out] at h
            obtain ⟨A7, c7, rfl, O7, B7⟩ := h
            rw [HNL.out]
            clear O7
            have s7 := B7.size
            have Oc7 := Oc.below B7 hvc
            have BB7 := BBc.trans (B7.mono hbw)
            have hcode7 := hcodec.below B7
            by_cases hz : 0 < n
            · have h8 : canTol qs (n - 1) pd = true := canTol_iff.2 ⟨HG.out.1, inR_true.2 (by have := H6.out.2; omega), HG.out.2⟩
              have H8 := Lib.hid (vNotTolerated_yes h8)
              have q1 : IntKind.i64.wrap (n - 1) = n - 1 := wr64 (by omega) (by omega)
              obtain ⟨L, hL⟩ : ∃ L, (gath (pNot qs (n - 1) pd) (fun i => (i : Int)) qs.length).length = L := ⟨_, rfl⟩
              have hLp : 0 < L := by rw [← hL]; exact HSL.out hz
              have HL := Lib.hid hL
              have hLz := eq_len hLp
              clear h8 hL
              go_wp2_with fail
              refine (iNotTolerated (fx := n - 1) (pc := pd) Oc7.rd (by omega) (by omega) Oc7.cap).mono ?_
              rintro e w8 h
              rw [H8.out] at h
              obtain ⟨A8, c8, rfl, O8, B8⟩ := h
              clear O8
              rw [show (gath (pNot qs (n - 1) pd) (fun i => (i : Int)) qs.length, true).1.length = L from HL.out]
              have BB8 := BB7.trans (B8.mono (by omega))
              have hcode8 := hcode7.below B8
              go_wp2_with fail
              go_meet
              exact ⟨hcode8, BB8⟩
            · go_wp2_with fail
              go_meet
              exact ⟨hcode7, BB7⟩
        case rest => as_aux_lemma =>
          obtain ⟨hcodeA, BBA⟩ := hcut
          clear hcodec BBc Oc HTD HT HN hvc t1 t2 t3
          go_wp2_with fail
          refine (drawPasses_any hcodeA).mono ?_
          rintro e x1 ⟨Ad, cd, zs, f1, p1, sh1, rfl, hzl, Od, Bd1⟩
          have r1 := Bd1.size
          have BBd := BBA.trans (Bd1.mono BBA.size)
          have hcoded := hcodeA.below Bd1
          obtain ⟨pa, hpa⟩ : ∃ pa, (vPassesTest zs f1 p1 sh1).1 = pa := ⟨_, rfl⟩
          obtain ⟨pb, hpb⟩ : ∃ pb, (vPassesTest zs f1 p1 sh1).2 = pb := ⟨_, rfl⟩
          have HPA := Lib.hid hpa
          have HPB := Lib.hid hpb
          clear hpa hpb
          go_wp2_with fail
          refine (iPassesTest (fx := f1) (pc := p1) (sh := sh1) Od.rd (by omega) (Nat.le_refl _) Od.cap).mono ?_
          rintro e x2 h
          rw [HPA.out, HPB.out] at h
          obtain ⟨rfl, Bd2⟩ := h
          have r2 := Bd2.size
          have Od2 := Od.below Bd2 (Nat.le_refl _)
          have BBd2 := BBd.trans (Bd2.mono BBd.size)
          have hcoded2 := hcoded.below Bd2
          go_wp2_with fail
          refine (sPassesTest (fx := f1) (pc := p1) (sh := sh1) Od2.rd (by omega) r2).mono ?_
          rintro e x3 h
          rw [HPA.out, HPB.out] at h
          obtain ⟨rfl, Bd3⟩ := h
          have BBd3 := BBd2.trans (Bd3.mono BBd2.size)
          have hcoded3 := hcoded2.below Bd3
          clear Od Od2 BBd BBd2 hcoded hcoded2 Bd1 Bd2 Bd3 hcodeA BBA r1 r2
          go_wp2_with fail
          refine (drawGreatest_any hcoded3).mono ?_
          rintro e x4 ⟨Ae, ce, us, rfl, hul, Oe, Be1⟩
          have r4 := Be1.size
          have BBe := BBd3.trans (Be1.mono BBd3.size)
          obtain ⟨gv, hgv⟩ : ∃ gv, vGreatestDifference us = gv := ⟨_, rfl⟩
          have HGF := Lib.hid (great_facts hgv)
          have HGV := Lib.hid hgv
          clear hgv
          obtain ⟨ga, gd, gk⟩ := gv
          go_wp2_with fail
          refine (iGreatestDifference Oe.rd (by omega) (Nat.le_refl _) Oe.cap).mono ?_
          rintro e x5 h
          rw [HGV.out] at h
          obtain ⟨rfl, Be2⟩ := h
          have r5 := Be2.size
          have Oe2 := Oe.below Be2 (Nat.le_refl _)
          have BBe2 := BBe.trans (Be2.mono BBe.size)
          go_wp2_with fail
          refine (sGreatestDifference Oe2.rd (by omega) r5).mono ?_
          rintro e x6 h
          rw [HGV.out] at h
          obtain ⟨rfl, Be3⟩ := h
          have BBe3 := BBe2.trans (Be3.mono BBe2.size)
          have Re3 := (Oe2.below Be3 r5).rd
          clear Oe Oe2 BBe BBe2 Be1 Be2 Be3 BBd3 hcoded3 r4 r5
          generalize x3.heap.size = lo9 at Re3
          generalize x4.heap.size = hi9 at Re3
          go_wp2_with fail
          go_loopw [37] (fun i wr => ∃ k : Nat, k ≤ us.length ∧ i = .int .i64 k ∧ (gk = false → k = 0) ∧ Below w.heap.size w wr ∧ RdC wr lo9 hi9 Ae us) (fun i _ => us.length - (intOf i).toNat)
          case atStart => exact ⟨0, Nat.zero_le _, rfl, fun _ => rfl, BBe3, Re3⟩
          case round => as_aux_lemma =>
            clear BBe3 Re3
            obtain ⟨k, hk, rfl, hk0, hb, hRd⟩ := hrel
            have HK0 := Lib.hid hk0
            clear hk0
            by_cases hlt : k < us.length
            rotate_left
            · go_wp2_with fail
              go_ret
              exact ⟨rfl, hb⟩
            have q1 : (k : Int) < (us.length : Int) := by omega
            rcases gk with _ | _
            · go_wp2_with fail
              go_ret
              exact ⟨rfl, hb⟩
            obtain ⟨b, off, p, rfl, _, _, hp, c0, c1', c2', c3'⟩ := hRd.getCrossing hlt
            obtain ⟨hx1, hx2, hx3, hx4⟩ := HGF.out rfl k p hp
            have hpb := isCx_bound hx1
            have q2 : IntKind.i64.wrap (p.ck - p.mn) = p.ck - p.mn := wr64 (by omega) (by omega)
            obtain ⟨u, hu⟩ : ∃ u, absI (p.ck - p.mn) = u := ⟨_, rfl⟩
            obtain ⟨v, hv⟩ : ∃ v, absI gd = v := ⟨_, rfl⟩
            rw [hu, hv] at hx2
            have HCP := Lib.hid (fun (w : World) => (vSize_any (p.ck - p.mn) w (by omega) (by omega)))
            have HCQ := Lib.hid (fun (w : World) => (vSize_any gd w (by omega) (by omega)))
            rw [hu] at HCP
            rw [hv] at HCQ
            clear hu hv hp hx1
            go_wp2_with fail
            go_quiet ((first | (go_at_call 45; exact quiet_left (HCP.out _)) | (go_at_call 45; exact quiet_left (HCQ.out _))))
            go_wp2_with fail
            go_roundw
            case rel => exact ⟨k + 1, by omega, by go_num, (fun h => by cases h), below_drewN hb _, hRd.drewN _⟩
            case measure => simp [intOf]; omega

end Go.Proofs.Ytiegnhpccbnhhaa
