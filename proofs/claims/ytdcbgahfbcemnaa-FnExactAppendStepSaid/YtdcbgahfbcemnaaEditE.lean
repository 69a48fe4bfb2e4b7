/-
  This file proves the contract of the program's function that follows an edit list: it tells whether the list is good, and hands over the state behind it.
  Conditions: that the steps read as a list, that it is not too long, that its texts are no longer than any string of the machine.
-/
import Derived.Test.YtdcbgahfbcemnaaEditD
import Derived.Test.YtdcbgahfbcemnaaCopy
namespace Go.Proofs.Ytdcbgahfbcemnaa
open Go.RowKit
set_option linter.unusedSimpArgs false
set_option linter.unusedVariables false

/-- The state behind a good list. -/
structure EdS (W : World) (N : Nat) (m : Nat) (ps : List GEditStep) (k : Nat) (B : Option Addr) (c r s g : Nat) : Prop where
  st : StO W m ps (liveE ps k) B (liveE ps k).length c r s g
  gr : N ≤ r
  gs : N ≤ s
  gg : N ≤ g
  lo : Own W 3 N W.heap.size 1 B (liveE ps k).length c (ints (natL (liveE ps k)))
theorem EdS.below {W W' : World} {N m k c r s g : Nat} {ps : List GEditStep} {B : Option Addr} (h : EdS W N m ps k B c r s g) (hb : Below W.heap.size W W') : EdS W' N m ps k B c r s g :=
  ⟨h.st.below hb h.st.lt.1 h.st.lt.2.1 h.st.lt.2.2, h.gr, h.gs, h.gg, (h.lo.below hb (Nat.le_refl _)).more (Nat.le_refl _) hb.size⟩
def EdP (m : Int) (ps : List GEditStep) (w : World) (e : Ending) (w' : World) : Prop :=
  ((goodE m ps = false ∧ e = .returned (.tuple #[.pointer none, .bool false])) ∨
   (goodE m ps = true ∧ ∃ (M : Nat) (B : Option Addr) (c r s g : Nat), m = (M : Int) ∧ e = .returned (.tuple #[.pointer (some ⟨g, 0, none⟩), .bool true]) ∧ EdS w' w.heap.size M ps ps.length B c r s g)) ∧ Below w.heap.size w w'
theorem live_nil (w : World) (lo hi : Nat) (A : Option Addr) : RdI w lo hi A (natL []) := Rd.nil_
theorem rd_take {w : World} {lo hi n j : Nat} {A : Option Addr} {xs : List Int} (h : Rd w lo hi 1 A n (ints xs)) (hj : j ≤ n) : Rd w lo hi 1 A j (ints (xs.take j)) := by
  refine ⟨?_, fun hn => ?_⟩
  · have := h.1; simp [ints] at this ⊢; omega
  · obtain ⟨b, off, e, h1, h2, hc⟩ := h.2 (by omega)
    refine ⟨b, off, e, h1, h2, fun i u hu => hc i u ?_⟩
    have hi : i < j := by have := (List.getElem?_eq_some_iff.1 hu).1; simp [ints] at this; omega
    simpa [ints, List.getElem?_take, hi] using hu

theorem step_go {m : Int} {ps : List GEditStep} {k : Nat} (hg : goodTo m ps k = true) (hf : formB m (gE ps k) = true) (hu : (gE ps k).kd = 3 → ¬ (liveE ps k).length = 0) : stepB m ps k = inR (shiftE ps (gE ps k).mr (liveE ps (k + 1))) (-500) 500 := by
  rw [← stepI_eq hg]
  unfold stepI
  rw [hf]
  by_cases h3 : (gE ps k).kd = 3
  · rw [decide_eq_false (hu h3)]; simp
  · rw [decide_eq_false h3]; simp

set_option maxHeartbeats 8000000 in
set_option maxRecDepth 100000 in
theorem edited_any {A : Option Addr} {c lo hi : Nat} {m : Int} {ps : List GEditStep} {w : World} (hr : RdE w lo hi A ps) (hh : hi ≤ w.heap.size) (hl : ps.length ≤ 2097152) (hsz : ∀ p ∈ ps, p.rs.size ≤ maxLen) :
    Calls Try.prog 47 #[.int .i64 m, .slice A ps.length c] w (EdP m ps w) := by
  have HSZ := Lib.hid hsz
  clear hsz
  obtain ⟨i0, hi0, hz0, hz1, hz2⟩ := info_parts int_info
  rcases hm : inR m 1 15 with _ | _
  · have HB := Lib.hid (goodE_no1 (ps := ps) hm)
    go_enter Try.func47, Try.ntmps47
    go_wp2_with (go_at_call 54; refine (inside_any _ _ _ _).mono ?_; rintro e w' ⟨rfl, rfl⟩)
    go_ret2
    exact ⟨.inl ⟨HB.out, rfl⟩, Below.refl _ _⟩
  by_cases hn : ps.length ≤ 20
  rotate_left
  · have HB := Lib.hid (goodE_no2 (m := m) hn)
    have q1 : (20 : Int) < (ps.length : Int) := by omega
    go_enter Try.func47, Try.ntmps47
    go_wp2_with (go_at_call 54; refine (inside_any _ _ _ _).mono ?_; rintro e w' ⟨rfl, rfl⟩)
    go_ret2
    exact ⟨.inl ⟨HB.out, rfl⟩, Below.refl _ _⟩
  have hmm := inR_true.1 hm
  obtain ⟨M, rfl⟩ : ∃ M : Nat, m = (M : Int) := ⟨m.toNat, by omega⟩
  have hM15 : 1 ≤ M ∧ M ≤ 15 := by omega
  have q1 : ¬ (20 : Int) < (ps.length : Int) := by omega
  have HI := Lib.hid (⟨hi0, hz0, hz1, hz2⟩ : Try.prog.info? 3 = some i0 ∧ i0.zero = some (.int .i64 0) ∧ i0.size = 1 ∧ i0.bytes = 8)
  clear hi0 hz0 hz1 hz2
  have hb0 := below_alloc1 w (.cells #[] 3)
  have hr0 := hr.below hb0 hh
  have hrow0 := row_empty w 3 1
  go_enter Try.func47, Try.ntmps47
  go_wp2_with (go_at_call 54; refine (inside_any _ _ _ _).mono ?_; rintro e w' ⟨rfl, rfl⟩)
  have HM := Lib.hid hm
  clear hm
  refine (stateOf_any (l := []) hr0 (by simp; omega) (live_nil _ 0 0 _) (by omega) hM15 hl (by simp) (by simp) (by simp) (by simp)).mono ?_
  rintro e w1 ⟨r1, s1, g1, rfl, S1, hr1, hs1, hg1, B1⟩
  have OL1 := (Own.below (show Own _ 3 w.heap.size (w.heap.size + 1) 1 (some ⟨w.heap.size, 0, none⟩) 0 0 [] from ⟨hrow0, fun a ha => by cases ha; exact Nat.lt_succ_self _⟩) B1 (by simp)).more (Nat.le_refl _) (show w.heap.size + 1 ≤ w1.heap.size by have := B1.size; simp at this; omega)
  have BB1 := hb0.trans (B1.mono (by simp))
  rw [show (w.alloc (.cells #[] 3)).heap.size = w.heap.size + 1 from by simp] at hr1 hs1 hg1
  clear hr0 hrow0 B1 hb0
  go_wp2_with fail
  go_loopw [6, 24] (fun sp i wr => ∃ (j r s g : Nat) (B : Option Addr) (c' : Nat), j ≤ ps.length ∧ i = .int .i64 (j : Nat) ∧ sp = .pointer (some ⟨g, 0, none⟩) ∧ goodTo (M : Int) ps j = true ∧ EdS wr w.heap.size M ps j B c' r s g ∧ Below w.heap.size w wr) (fun _ i _ => ps.length - (intOf i).toNat)
  case atStart => exact ⟨0, r1, s1, g1, _, 0, Nat.zero_le _, rfl, rfl, rfl, ⟨S1, by omega, by omega, by omega, OL1⟩, BB1⟩
  case round => as_aux_lemma =>
    clear S1 OL1 BB1 hr1 hs1 hg1
    obtain ⟨j, r, s, g, B, c', hj, rfl, rfl, hgt, ES, hb⟩ := hrel
    have HGT := Lib.hid hgt
    clear hgt
    by_cases hlt : j < ps.length
    rotate_left
    · obtain rfl : j = ps.length := by omega
      have HE := Lib.hid (goodE_yes HM.out hn HGT.out)
      go_wp2_with fail
      go_ret2
      exact ⟨.inr ⟨HE.out, M, B, c', r, s, g, rfl, rfl, ES⟩, hb⟩
    have hRr := hr.below hb hh
    have hsr := hb.size
    obtain ⟨b, off, p, rfl, _, hbh, hp, c0, c1, c2, c3⟩ := hRr.getEditStep hlt
    have hps : p.rs.size ≤ maxLen := HSZ.out p (List.mem_of_getElem? hp)
    have hg := gE_of hp
    obtain ⟨kd, mr, sh, rs⟩ := p
    simp only at c0 c1 c2 c3 hps
    have q2 : (j : Int) < (ps.length : Int) := by omega
    have B1 := below_alloc1 wr (.cells #[.int .i64 kd, .int .i64 mr, .int .i64 sh, .string rs] 42)
    have H1 := Holds4.new wr ⟨kd, mr, sh, rs⟩ 42
    have R1 := hRr.below B1 (by omega)
    have ES1 := ES.below B1
    have BB1 := hb.trans (B1.mono hsr)
    have hz1 : wr.heap.size < (wr.alloc (.cells #[.int .i64 kd, .int .i64 mr, .int .i64 sh, .string rs] 42)).heap.size := by simp
    clear hRr ES hb
    have hfc : ∀ b, formB (M : Int) ⟨kd, mr, sh, rs⟩ = b → Calls Try.prog 59 #[.int .i64 (M : Int), .agg #[.int .i64 kd, .int .i64 mr, .int .i64 sh, .string rs]] (wr.alloc (.cells #[.int .i64 kd, .int .i64 mr, .int .i64 sh, .string rs] 42)) (RetB b (wr.alloc (.cells #[.int .i64 kd, .int .i64 mr, .int .i64 sh, .string rs] 42))) := fun b hb => by rw [← hb]; exact isEditStep_any M ⟨kd, mr, sh, rs⟩ _ hps hmm
    have HFC := Lib.hid hfc
    clear hfc
    rcases hf : formB (M : Int) ⟨kd, mr, sh, rs⟩ with _ | _
    · have HB := Lib.hid (goodE_bad (stepB_noform (m := (M : Int)) (by rw [hg]; exact hf)) hlt)
      have HF := Lib.hid hf
      clear hf hg
      go_wp2_with fail
      refine (HFC.out _ HF.out).mono ?_
      rintro e w2 ⟨rfl, B2⟩
      go_wp2_with fail
      go_ret2
      exact ⟨.inl ⟨HB.out, rfl⟩, BB1.trans (B2.mono (by omega))⟩
    have HF := Lib.hid hf
    have hmr : 0 ≤ mr ∧ mr ≤ (M : Int) - 1 := form_mk hf
    obtain ⟨j0, rfl⟩ : ∃ j0 : Nat, mr = (j0 : Int) := ⟨mr.toNat, by omega⟩
    have hjm : j0 < M := by omega
    have q7 : (j0 : Int) < (M : Int) := by omega
    clear hmr
    have hfm : ∀ i, i < j + 1 → formB (M : Int) (gE ps i) = true := fun i hi => by
      rcases Nat.lt_or_ge i j with h | h
      · exact stepB_form (goodTo_step HGT.out h)
      · obtain rfl : i = j := by omega
        rw [hg]; exact hf
    have HFM := Lib.hid hfm
    have hstep : (kd = 3 → ¬ (liveE ps j).length = 0) → stepB (M : Int) ps j = inR (shiftE ps (j0 : Int) (liveE ps (j + 1))) (-500) 500 := fun hu => by
      have h := step_go (ps := ps) HGT.out (by rw [hg]; exact hf) (fun h => hu (by rw [hg] at h; exact h))
      rw [hg] at h
      exact h
    clear hf hfm
    have HSP := Lib.hid hstep
    clear hstep
    go_wp2_with fail
    refine (HFC.out _ HF.out).mono ?_
    rintro e w2 ⟨rfl, B2⟩
    have hs2 := B2.size
    have H2 := H1.below B2 hz1
    have R2 := R1.below B2 (by omega)
    have ES2 := ES1.below B2
    have BB2 := BB1.trans (B2.mono (by omega))
    have hz2 : wr.heap.size < w2.heap.size := by omega
    have hh2 : hi ≤ w2.heap.size := by omega
    have hBB : w.heap.size ≤ w2.heap.size := by omega
    clear H1 R1 ES1 BB1 B1 B2 HFC
    have hc2 := ES2.st.c2
    have hlt3 := ES2.st.lt
    have hll := liveE_len (ps := ps) j
    have hll2 : (natL (liveE ps j)).length ≤ j := by rw [natL_len]; exact hll
    have HRD := Lib.hid (fun (W : World) (hb : Below w2.heap.size w2 W) => (ES2.lo.below hb (Nat.le_refl _)).rd)
    go_wp2_with fail
    refine (copyIntsN_any (n := (liveE ps j).length) (HRD.out _ (Below.refl _ _)) (by omega) (Nat.le_refl _)).mono ?_
    rintro e w3 ⟨A3, c3', rfl, O3, B3⟩
    have hs3 := B3.size
    obtain ⟨i0', hi0', hz0', hz1', hz2'⟩ : ∃ i : TypeInfo, Try.prog.info? 3 = some i ∧ i.zero = some (.int .i64 0) ∧ i.size = 1 ∧ i.bytes = 8 := ⟨i0, HI.out⟩
    have hkj : j ≤ 20 := by omega
    by_cases h3 : kd = 3
    · have t3 : (kd == 3) = true := by simpa using h3
      have hlu := liveE_undo (ps := ps) (k := j) (by rw [hg]; exact h3)
      have HLU := Lib.hid (show natL (liveE ps (j + 1)) = (natL (liveE ps j)).take ((natL (liveE ps j)).length - 1) by rw [hlu]; exact natL_cut _)
      have HLL := Lib.hid (show (liveE ps (j + 1)).length = (liveE ps j).length - 1 by rw [hlu, List.length_dropLast])
      have HU0 := Lib.hid (fun h0 => goodE_bad (m := (M : Int)) (stepB_undo0 (by rw [hg]; exact h3) h0) hlt)
      have HSTEP := Lib.hid (fun (h0 : ¬ (liveE ps j).length = 0) => HSP.out (fun _ => h0))
      clear hlu h3 hg HSP
      by_cases h0 : (liveE ps j).length = 0
      · have HB := Lib.hid (HU0.out h0)
        have e0' : (((liveE ps j).length : Int) == 0) = true := by simpa using h0
        clear h0
        go_wp2_with (at_builtin; refine wpList_push _ rfl _ _ 31 rfl w2.heap.size 3 i0' (.int .i64 0) 1 8 Try.underlying31 hi0' hz0' hz1' hz2' rfl (by decide) _ _ _ rfl O3.1 [.int .i64 ↑j] rfl (one_int _) rfl (by omega) (by decide) hs3 ?_; intro v4 w4 hown4 hb4 hs4 _ _; have B24 := hb4 _ B3; obtain ⟨e0, e1, e2, e3⟩ := H2.below B24 hz2; have hc4 := ((ES2.st.below B24 hlt3.1 hlt3.2.1 hlt3.2.2).c2))
        go_ret2
        exact ⟨.inl ⟨HB.out, rfl⟩, BB2.trans (B24.mono hBB)⟩
      have HSTEP' := Lib.hid (HSTEP.out h0)
      obtain ⟨n, hn1⟩ : ∃ n, (liveE ps j).length = n + 1 := ⟨(liveE ps j).length - 1, by omega⟩
      have e0' : (((n + 1 : Nat) : Int) == 0) = false := by rw [beq_eq_false_iff_ne]; omega
      clear h0 HSTEP
      go_wp2_with (at_builtin; refine wpList_push _ rfl _ _ 31 rfl w2.heap.size 3 i0' (.int .i64 0) 1 8 Try.underlying31 hi0' hz0' hz1' hz2' rfl (by decide) _ _ _ rfl O3.1 [.int .i64 ↑j] rfl (one_int _) rfl (by omega) (by decide) hs3 ?_; intro v4 w4 hown4 hb4 hs4 _ _; have B24 := hb4 _ B3; obtain ⟨e0, e1, e2, e3⟩ := H2.below B24 hz2; have hc4 := ((ES2.st.below B24 hlt3.1 hlt3.2.1 hlt3.2.2).c2); rw [hn1] at hc4)
      have q9 : IntKind.i64.wrap (n : Int) = (n : Int) := wr64 (by omega) (by omega)
      have q10 : wrap64 (n : Int) = (n : Int) := IntWalk.wrap64_in _ ⟨by clear q9; omega, by clear q9; omega⟩
      have q11 : (n : Int) ≤ (c' : Int) := by clear q9 q10; have := ES2.lo.cap; omega
      refine wp_region_still_tail 11 (by kernel_rfl) (by kernel_rfl) ?_
      simp only [List.take_succ_cons, List.take_zero, List.drop_succ_cons, List.drop_zero]
      repeat still_step
      refine wpStill_nil ?_
      change wpList _ _ _ _ _ w4.drew
      generalize hwx : w4.drew = wx
      have B24x : Below w2.heap.size w2 wx := by rw [← hwx]; exact B24.drew
      clear hwx e0 e1 e2 e3 hc4 hown4 B24 q9 q10
      have hrd := rd_take (HRD.out wx B24x) (show n ≤ (liveE ps j).length by omega)
      rw [show (natL (liveE ps j)).take n = natL (liveE ps (j + 1)) from by rw [HLU.out, natL_len, hn1, Nat.add_sub_cancel]] at hrd
      have hn20 : n ≤ 20 := by omega
      have HN1 := Lib.hid hn1
      clear hn1
      go_wp2_with fail
      refine (copyIntsN_any hrd (by omega) B24x.size).mono ?_
      rintro e w5 ⟨A5, c5, rfl, O5, B5'⟩
      have B5 : Below w2.heap.size w2 w5 := B24x.trans (B5'.mono B24x.size)
      replace O5 := O5.more B24x.size (Nat.le_refl _)
      go_wp2_with fail
      have s5 := B5.size
      have H5 := H2.below B5 hz2
      have R5 := R2.below B5 hh2
      have hlv := liveE_len (ps := ps) (j + 1)
      rw [natL_len (liveE ps (j + 1))] at O5
      rw [natL_len (liveE ps (j + 1))]
      refine (stateOf_any (l := liveE ps (j + 1)) R5 (by omega) (by rw [RdI, natL_len]; exact O5.rd) (Nat.le_refl _) hM15 (by omega) (by omega) (fun i hi => by have := (liveE_mem hi).1; omega) (fun i hi => HFM.out i (liveE_mem hi).1) (fun i hi => (liveE_mem hi).2)).mono ?_
      rintro e w6 ⟨r6, s6, g6, rfl, S6, hr6, hs6, hg6, B6⟩
      have s6z := B6.size
      have H6 := H5.below B6 (by omega)
      have O6 := (O5.below B6 (Nat.le_refl _)).more (by omega) s6z
      have BB6 := BB2.trans ((B5.trans (B6.mono s5)).mono hBB)
      obtain ⟨d0, d1, d2, d3⟩ := H6
      have hc1 := S6.c1
      have hcs := (S6.o2.1.cellAt j0 (by omega)).trans (shL_get hjm)
      have HSI := Lib.hid (HSTEP'.out)
      generalize shiftE ps (j0 : Int) (liveE ps (j + 1)) = S at hcs HSI
      clear d0 d2 d3 O5 R5 H5 H2 R2
      rcases hin : inR S (-500) 500 with _ | _
      · have HB := Lib.hid (goodE_bad (HSI.out.trans hin) hlt)
        clear HSI
        have q8 : (0 : Int) ≤ (j0 : Int) := by omega
        go_wp2_with fail
        go_quiet ((go_at_call 54; exact Calls.quiet_of_same ((inside_any _ _ _ _).mono fun _ _ h => ⟨h.1, h.2.symm⟩)))
        go_wp2_with fail
        go_ret2
        exact ⟨.inl ⟨HB.out, rfl⟩, below_drewN BB6 _⟩
      · have HS := Lib.hid (HSI.out.trans hin)
        clear HSI
        have q8 : (0 : Int) ≤ (j0 : Int) := by omega
        go_wp2_with fail
        go_quiet ((go_at_call 54; exact Calls.quiet_of_same ((inside_any _ _ _ _).mono fun _ _ h => ⟨h.1, h.2.symm⟩)))
        go_wp2_with fail
        go_roundw
        case rel => exact ⟨j + 1, r6, s6, g6, A5, c5, by omega, by go_num, rfl, goodTo_succ.2 ⟨HGT.out, HS.out⟩, (⟨S6, by omega, by omega, by omega, O6⟩ : EdS w6 w.heap.size M ps (j + 1) A5 c5 r6 s6 g6).below (below_drewN (Below.refl _ _) _), below_drewN BB6 _⟩
        case measure => simp [intOf]; omega
    · have t3 : (kd == 3) = false := by simpa using h3
      have hlu := liveE_push (ps := ps) (k := j) (by rw [hg]; exact h3)
      have HLU := Lib.hid (show natL (liveE ps (j + 1)) = natL (liveE ps j) ++ [(j : Int)] by rw [hlu]; exact natL_snoc _ _)
      have HSTEP := Lib.hid (HSP.out (fun h => absurd h h3))
      clear hlu h3 hg HSP
      go_wp2_with (at_builtin; refine wpList_push _ rfl _ _ 31 rfl w2.heap.size 3 i0' (.int .i64 0) 1 8 Try.underlying31 hi0' hz0' hz1' hz2' rfl (by decide) _ _ _ rfl O3.1 [.int .i64 ↑j] rfl (one_int _) rfl (by omega) (by decide) hs3 ?_; intro v4 w4 hown4 hb4 hs4 _ _; have B24 := hb4 _ B3; obtain ⟨e0, e1, e2, e3⟩ := H2.below B24 hz2; have hc4 := ((ES2.st.below B24 hlt3.1 hlt3.2.1 hlt3.2.2).c2))
      obtain ⟨A5, c5, rfl, O5⟩ := Own.of_row (push_rel HLU.out hown4)
      have B5 : Below w2.heap.size w2 w4 := B24
      clear e0 e1 e2 e3 hc4 hown4 B24
      have s5 := B5.size
      have H5 := H2.below B5 hz2
      have R5 := R2.below B5 hh2
      have hlv := liveE_len (ps := ps) (j + 1)
      rw [natL_len (liveE ps (j + 1))] at O5
      rw [natL_len (liveE ps (j + 1))]
      refine (stateOf_any (l := liveE ps (j + 1)) R5 (by omega) (by rw [RdI, natL_len]; exact O5.rd) (Nat.le_refl _) hM15 (by omega) (by omega) (fun i hi => by have := (liveE_mem hi).1; omega) (fun i hi => HFM.out i (liveE_mem hi).1) (fun i hi => (liveE_mem hi).2)).mono ?_
      rintro e w6 ⟨r6, s6, g6, rfl, S6, hr6, hs6, hg6, B6⟩
      have s6z := B6.size
      have H6 := H5.below B6 (by omega)
      have O6 := (O5.below B6 (Nat.le_refl _)).more (by omega) s6z
      have BB6 := BB2.trans ((B5.trans (B6.mono s5)).mono hBB)
      obtain ⟨d0, d1, d2, d3⟩ := H6
      have hc1 := S6.c1
      have hcs := (S6.o2.1.cellAt j0 (by omega)).trans (shL_get hjm)
      have HSI := Lib.hid (HSTEP.out)
      generalize shiftE ps (j0 : Int) (liveE ps (j + 1)) = S at hcs HSI
      clear d0 d2 d3 O5 R5 H5 H2 R2
      rcases hin : inR S (-500) 500 with _ | _
      · have HB := Lib.hid (goodE_bad (HSI.out.trans hin) hlt)
        clear HSI
        have q8 : (0 : Int) ≤ (j0 : Int) := by omega
        go_wp2_with fail
        go_quiet ((go_at_call 54; exact Calls.quiet_of_same ((inside_any _ _ _ _).mono fun _ _ h => ⟨h.1, h.2.symm⟩)))
        go_wp2_with fail
        go_ret2
        exact ⟨.inl ⟨HB.out, rfl⟩, below_drewN BB6 _⟩
      · have HS := Lib.hid (HSI.out.trans hin)
        clear HSI
        have q8 : (0 : Int) ≤ (j0 : Int) := by omega
        go_wp2_with fail
        go_quiet ((go_at_call 54; exact Calls.quiet_of_same ((inside_any _ _ _ _).mono fun _ _ h => ⟨h.1, h.2.symm⟩)))
        go_wp2_with fail
        go_roundw
        case rel => exact ⟨j + 1, r6, s6, g6, A5, c5, by omega, by go_num, rfl, goodTo_succ.2 ⟨HGT.out, HS.out⟩, (⟨S6, by omega, by omega, by omega, O6⟩ : EdS w6 w.heap.size M ps (j + 1) A5 c5 r6 s6 g6).below (below_drewN (Below.refl _ _) _), below_drewN BB6 _⟩
        case measure => simp [intOf]; omega

end Go.Proofs.Ytdcbgahfbcemnaa
