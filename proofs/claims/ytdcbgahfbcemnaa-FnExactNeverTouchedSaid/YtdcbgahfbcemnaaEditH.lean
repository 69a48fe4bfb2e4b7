/-
  This file proves contracts of the reference's functions on edit lists: CleanSteps, ReasonsFor.
  Conditions: that the slice reads as a list of steps, that it is not too long, that its texts are no longer than any string of the machine.
-/
import Derived.Test.YtdcbgahfbcemnaaEditG
import Derived.Test.YtdcbgahfbcemnaaPushAt
namespace Go.Proofs.Ytdcbgahfbcemnaa
open Go.RowKit
set_option linter.unusedSimpArgs false
set_option linter.unusedVariables false

theorem keepRd {w w' : World} {l k : Nat} {B : Option Addr} {D : List Int} {V : Option Nat} (h : RdI w l k B D) (hk : ∀ b, b < w.heap.size → V ≠ some b → w'.heap[b]? = w.heap[b]?) (hv : ∀ g, V = some g → g < l ∨ k ≤ g) (hs : k ≤ w.heap.size) : RdI w' l k B D :=
  h.keep fun b off h1 h2 => World.cell?_of_block (hk b (by omega) (fun e => by have := hv b e; omega))
theorem pushOut {w : World} {v v1 : Value} {l k : Nat} (hat : v1.ownBlock = v.ownBlock ∨ ∃ g, v1.ownBlock = some g ∧ w.heap.size ≤ g)
    (h1 : ∀ g, v.ownBlock = some g → g < l ∨ k ≤ g) (hs : k ≤ w.heap.size) : ∀ g, v1.ownBlock = some g → g < l ∨ k ≤ g := by
  rcases hat with h2 | ⟨g, h2, h3⟩
  · rw [h2]
    exact h1
  · rw [h2]
    exact fun g' hg => by injection hg with hg; omega

set_option maxHeartbeats 2000000 in
set_option maxRecDepth 100000 in
theorem sCleanSteps {A : Option Addr} {c lo hi : Nat} {m : Int} {ps : List GEditStep} {w : World} (hr : RdE w lo hi A ps) (hl : ps.length ≤ 2097152) (hh : hi ≤ w.heap.size) (hcap : ps.length ≤ c) (hsz : ∀ p ∈ ps, p.rs.size ≤ maxLen) :
    Calls Try.prog 30 #[.int .i64 m, .slice A ps.length c] w (RetEditStepSB (vCleanSteps m ps).1 (vCleanSteps m ps).2 w) := by
  obtain ⟨i0, hi0, hz0, hz1, hz2⟩ := info_parts int_info
  have HGC := Lib.hid (fun b (hb : goodE m ps = b) (W : World) (hW : Below w.heap.size w W) => (show Calls Try.prog 46 #[.int .i64 m, .slice A ps.length c] W (RetB b W) from by rw [← hb]; exact l14Good_any (hr.below hW hh) (Nat.le_trans hh hW.size) hcap hl hsz))
  rcases hgd : goodE m ps with _ | _
  · have HE := Lib.hid (show vCleanSteps m ps = ([], false) from by unfold vCleanSteps; rw [if_neg (by simp [hgd])])
    have HGD := Lib.hid hgd
    clear hgd
    go_enter Try.func30, Try.ntmps30
    go_wp2_with fail
    refine (HGC.out _ HGD.out _ (by first | exact Below.refl _ _ | exact below_alloc1 _ _)).mono ?_
    rintro e w1 ⟨rfl, B1⟩
    go_wp2_with fail
    go_ret2
    rw [HE.out]
    exact retESB_of (ps := []) (row_below (row_empty w 42 4) B1) (Nat.le_refl _) ((below_alloc1 w _).trans (B1.mono (by simp)))
  have hmn := goodE_len hgd
  obtain ⟨M, rfl⟩ : ∃ M : Nat, m = (M : Int) := ⟨m.toNat, by omega⟩
  have HGD := Lib.hid hgd
  clear hgd
  go_enter Try.func30, Try.ntmps30
  go_wp2_with fail
  refine (HGC.out _ HGD.out _ (by first | exact Below.refl _ _ | exact below_alloc1 _ _)).mono ?_
  rintro e w1 ⟨rfl, B1⟩
  have HE := Lib.hid (show vCleanSteps (M : Int) ps = ((liveE ps ps.length).map (gE ps), true) from by unfold vCleanSteps; rw [if_pos HGD.out])
  obtain ⟨ie, hie, hez0, hez1, hez2⟩ := info_parts info_EditStep
  have BB1 := (below_alloc1 w (.cells #[] 42)).trans (B1.mono (by simp))
  have O0a := row_below (row_empty w 42 4) B1
  have hzw : w.heap.size + 1 ≤ w1.heap.size := by have := B1.size; simp at this; omega
  clear B1
  go_wp2_with fail
  refine (l14Live_any (hr.below BB1 hh) (by omega) (Nat.le_refl _) (by omega)).mono ?_
  rintro e w2 ⟨A2, c2, rfl, O2, B2⟩
  have O0 := row_below O0a B2
  have BB2 := BB1.trans (B2.mono (by omega))
  have hz2 := B2.size
  have RV := O2.rd
  have hnb : (natL (liveE ps ps.length)).length ≤ 20 := by rw [natL_len]; exact liveF_le HGD.out
  clear O0a BB1 B2 O2
  go_wp2_with fail
  go_loopw [6, 8] (fun v i wr => ∃ j : Nat, j ≤ (natL (liveE ps ps.length)).length ∧ i = .int .i64 j ∧ wr.ownsRow w.heap.size 42 4 v ((((liveE ps ps.length).take j).map (gE ps))).length (cellsEditStep (((liveE ps ps.length).take j).map (gE ps))) ∧ (∀ g, v.ownBlock = some g → g < w1.heap.size ∨ w2.heap.size ≤ g) ∧ RdI wr w1.heap.size w2.heap.size A2 (natL (liveE ps ps.length)) ∧ w2.heap.size ≤ wr.heap.size ∧ Below w.heap.size w wr) (fun _ i _ => (natL (liveE ps ps.length)).length - (intOf i).toNat)
  case atStart => exact ⟨0, Nat.zero_le _, rfl, O0, by intro g hg; simp [Value.ownBlock] at hg; omega, RV, Nat.le_refl _, BB2⟩
  case round => as_aux_lemma =>
    clear O0 RV BB2
    obtain ⟨j, hj, rfl, hown2, hvo, hrv, hsz2, hb⟩ := hrel
    have HVO := Lib.hid hvo
    clear hvo
    have hlen : (((liveE ps ps.length).take j).map (gE ps)).length ≤ 20 := by have := liveF_le HGD.out; simp; omega
    by_cases hlt : j < (natL (liveE ps ps.length)).length
    · obtain ⟨b, off, b', off', i, q, rfl, hbl, rfl, hbl', hik, hi, hgi, hcell, c0, c1, c2, c3⟩ := live_step (hr.below hb hh) (Nat.le_refl _) hrv hlt
      have qi : (i : Int) < (ps.length : Int) := by omega
      have qj : (j : Int) < ((natL (liveE ps ps.length)).length : Int) := by omega
      have HT := Lib.hid (take_map (ps := ps) hi)
      rw [hgi] at HT
      clear hgi hi
      go_wp2_with (at_builtin; refine wpList_push _ rfl _ _ 25 rfl w.heap.size 42 ie (.agg #[.int .i64 0, .int .i64 0, .int .i64 0, .string ByteArray.empty]) 4 40 Try.underlying25 hie hez0 hez1 hez2 rfl (by decide) _ _ _ rfl hown2 [.int .i64 q.kd, .int .i64 q.mr, .int .i64 q.sh, .string q.rs] rfl (one_step _ _ _ _) rfl (by omega) (by decide) hb.size ?_; intro v1 w3 hown1 hb1 hs1 hat1 hk1)
      have hX := keepRd (V := _) hrv hk1 HVO.out (by omega)
      have hY := pushOut hat1 HVO.out (show w2.heap.size ≤ _ from hsz2)
      go_roundw
      case rel => exact ⟨j + 1, by omega, by go_num, push_e HT.out hown1, hY, hX, by omega, hb1 _ hb⟩
      case measure => simp [intOf]; omega
    · have e : (liveE ps ps.length).take j = liveF ps := List.take_of_length_le (by rw [natL_len] at hlt; omega)
      rw [e] at hown2
      go_wp2_with fail
      go_ret2
      rw [HE.out]
      exact retESB_of hown2 (Nat.le_refl _) hb

set_option maxHeartbeats 2000000 in
set_option maxRecDepth 100000 in
theorem sReasonsFor {A : Option Addr} {c lo hi : Nat} {m mark : Int} {ps : List GEditStep} {w : World} (hr : RdE w lo hi A ps) (hl : ps.length ≤ 2097152) (hh : hi ≤ w.heap.size) (hcap : ps.length ≤ c) (hsz : ∀ p ∈ ps, p.rs.size ≤ maxLen) :
    Calls Try.prog 34 #[.int .i64 m, .slice A ps.length c, .int .i64 mark] w (RetSLB (vReasonsFor m ps mark).1 (vReasonsFor m ps mark).2 w) := by
  obtain ⟨is, his, hsz0, hsz1, hsz2i⟩ := info_parts str_info
  have HGC := Lib.hid (fun b (hb : goodE m ps = b) (W : World) (hW : Below w.heap.size w W) => (show Calls Try.prog 46 #[.int .i64 m, .slice A ps.length c] W (RetB b W) from by rw [← hb]; exact l14Good_any (hr.below hW hh) (Nat.le_trans hh hW.size) hcap hl hsz))
  rcases hgd : goodE m ps with _ | _
  · have HE := Lib.hid (show vReasonsFor m ps mark = ([], false) from by unfold vReasonsFor; rw [if_neg (by simp [hgd])])
    have HGD := Lib.hid hgd
    clear hgd
    go_enter Try.func34, Try.ntmps34
    go_wp2_with fail
    refine (HGC.out _ HGD.out _ (below_alloc1 _ _)).mono ?_
    rintro e w1 ⟨rfl, B1⟩
    go_wp2_with fail
    go_ret2
    rw [HE.out]
    exact retSLB_of (xs := []) (row_below (row_empty w 9 1) B1) (Nat.le_refl _) ((below_alloc1 w _).trans (B1.mono (by simp)))
  have hmn := goodE_len hgd
  obtain ⟨M, rfl⟩ : ∃ M : Nat, m = (M : Int) := ⟨m.toNat, by omega⟩
  have HGD := Lib.hid hgd
  clear hgd
  have qm : IntKind.i64.wrap ((M : Int) - 1) = (M : Int) - 1 := wr64 (by omega) (by omega)
  rcases hin : inR mark 0 ((M : Int) - 1) with _ | _
  · have HE := Lib.hid (show vReasonsFor (M : Int) ps mark = ([], false) from by unfold vReasonsFor; rw [if_neg (by simp [hin])])
    have HIN := Lib.hid (fun (W : World) => (show Calls Try.prog 53 #[.int .i64 mark, .int .i64 0, .int .i64 ((M : Int) - 1)] W (fun e w' => e = .returned (.bool false) ∧ W = w') from by rw [← hin]; exact l1In_any _ _ _ _))
    clear hin
    go_enter Try.func34, Try.ntmps34
    go_wp2_with fail
    refine (HGC.out _ HGD.out _ (below_alloc1 _ _)).mono ?_
    rintro e w1 ⟨rfl, B1⟩
    go_wp2_with fail
    refine (HIN.out _).mono ?_
    rintro e w' ⟨rfl, rfl⟩
    go_wp2_with fail
    go_ret2
    rw [HE.out]
    exact retSLB_of (xs := []) (row_below (row_empty w 9 1) B1) (Nat.le_refl _) ((below_alloc1 w _).trans (B1.mono (by simp)))
  have HE := Lib.hid (show vReasonsFor (M : Int) ps mark = (reasons ps mark (liveE ps ps.length), true) from by unfold vReasonsFor; rw [if_pos ⟨HGD.out, hin⟩])
  have HIN := Lib.hid (fun (W : World) => (show Calls Try.prog 53 #[.int .i64 mark, .int .i64 0, .int .i64 ((M : Int) - 1)] W (fun e w' => e = .returned (.bool true) ∧ W = w') from by rw [← hin]; exact l1In_any _ _ _ _))
  clear hin
  go_enter Try.func34, Try.ntmps34
  go_wp2_with fail
  refine (HGC.out _ HGD.out _ (below_alloc1 _ _)).mono ?_
  rintro e w1 ⟨rfl, B1⟩
  go_wp2_with fail
  refine (HIN.out _).mono ?_
  rintro e w' ⟨rfl, rfl⟩
  have BB1 := (below_alloc1 w (.cells #[] 9)).trans (B1.mono (by simp))
  have O0a := row_below (row_empty w 9 1) B1
  have hzw : w.heap.size + 1 ≤ w1.heap.size := by have := B1.size; simp at this; omega
  clear B1
  go_wp2_with fail
  refine (l14Live_any (hr.below BB1 hh) (by omega) (Nat.le_refl _) (by omega)).mono ?_
  rintro e w2 ⟨A2, c2, rfl, O2, B2⟩
  have O0 := row_below O0a B2
  have BB2 := BB1.trans (B2.mono (by omega))
  have hz2 := B2.size
  have RV := O2.rd
  have hnb : (natL (liveE ps ps.length)).length ≤ 20 := by rw [natL_len]; exact liveF_le HGD.out
  clear O0a BB1 B2 O2
  go_wp2_with fail
  go_loopw [8, 10] (fun v i wr => ∃ j : Nat, j ≤ (natL (liveE ps ps.length)).length ∧ i = .int .i64 j ∧ wr.ownsRow w.heap.size 9 1 v (reasons ps mark ((liveE ps ps.length).take j)).length (strV (reasons ps mark ((liveE ps ps.length).take j))) ∧ (∀ g, v.ownBlock = some g → g < w1.heap.size ∨ w2.heap.size ≤ g) ∧ RdI wr w1.heap.size w2.heap.size A2 (natL (liveE ps ps.length)) ∧ w2.heap.size ≤ wr.heap.size ∧ Below w.heap.size w wr) (fun _ i _ => (natL (liveE ps ps.length)).length - (intOf i).toNat)
  case atStart => exact ⟨0, Nat.zero_le _, rfl, O0, by intro g hg; simp [Value.ownBlock] at hg; omega, RV, Nat.le_refl _, BB2⟩
  case round => as_aux_lemma =>
    clear O0 RV BB2
    obtain ⟨j, hj, rfl, hown2, hvo, hrv, hsz2, hb⟩ := hrel
    have HVO := Lib.hid hvo
    clear hvo
    have hlen : (reasons ps mark ((liveE ps ps.length).take j)).length ≤ 20 := by have := liveF_le HGD.out; have := reasons_le ps mark ((liveE ps ps.length).take j); have := List.length_take_le j (liveE ps ps.length); have := List.length_take_le' j (liveE ps ps.length); omega
    by_cases hlt : j < (natL (liveE ps ps.length)).length
    · obtain ⟨b, off, b', off', i, q, rfl, hbl, rfl, hbl', hik, hi, hgi, hcell, c0, c1, c2, c3⟩ := live_step (hr.below hb hh) (Nat.le_refl _) hrv hlt
      have qi : (i : Int) < (ps.length : Int) := by omega
      have qj : (j : Int) < ((natL (liveE ps ps.length)).length : Int) := by omega
      have HTK := Lib.hid (take_nat hi)
      have hbx := below_alloc1 wr (.cells #[.int .i64 q.kd, .int .i64 q.mr, .int .i64 q.sh, .string q.rs] 42)
      replace hown2 := hown2.alloc (.cells #[.int .i64 q.kd, .int .i64 q.mr, .int .i64 q.sh, .string q.rs] 42)
      have hrv' := hrv
      replace hrv := hrv.below hbx (by omega)
      have hb' := hb
      replace hb := hb.trans (hbx.mono hb.size)
      replace hsz2 : w2.heap.size ≤ (wr.alloc (.cells #[.int .i64 q.kd, .int .i64 q.mr, .int .i64 q.sh, .string q.rs] 42)).heap.size := Nat.le_trans hsz2 (by simp)
      clear hrv' hb' hbx
      by_cases hm : q.mr = mark
      · have m1 : (q.mr == mark) = true := by simpa using hm
        have HT := Lib.hid (reasons_yes (ps := ps) (l := (liveE ps ps.length).take j) (i := i) (mark := mark) (by rw [hgi]; exact hm))
        rw [hgi, ← HTK.out] at HT
        clear hgi hi hm
        go_wp2_with (at_builtin; refine wpList_push_at _ rfl _ _ 46 rfl w.heap.size 9 is (.string ByteArray.empty) 1 16 Try.underlying46 his hsz0 hsz1 hsz2i rfl (by decide) _ _ _ rfl hown2 [.string q.rs] rfl (one_str _) _ rfl (by simp) (by omega) (by decide) hb.size ?_; intro v1 w3 hown1 hb1 hs1 hat1 hk1)
        have hX := keepRd (V := _) hrv hk1 HVO.out (by omega)
        have hY := pushOut hat1 HVO.out (show w2.heap.size ≤ _ from hsz2)
        go_roundw
        case rel => exact ⟨j + 1, by omega, by go_num, push_s HT.out hown1, hY, hX, by simp at hs1 hsz2; omega, hb1 _ hb⟩
        case measure => simp [intOf]; omega
      · have m1 : (q.mr == mark) = false := by simpa using hm
        have HT := Lib.hid (reasons_no (ps := ps) (l := (liveE ps ps.length).take j) (i := i) (mark := mark) (by rw [hgi]; exact hm))
        rw [← HTK.out] at HT
        clear hgi hi hm
        go_wp2_with fail
        go_roundw
        case rel => exact ⟨j + 1, by omega, by go_num, by rw [HT.out]; exact hown2, HVO.out, hrv, hsz2, hb⟩
        case measure => simp [intOf]; omega
    · have e : (liveE ps ps.length).take j = liveF ps := List.take_of_length_le (by rw [natL_len] at hlt; omega)
      rw [e] at hown2
      go_wp2_with fail
      go_ret2
      rw [HE.out]
      exact retSLB_of hown2 (Nat.le_refl _) hb

end Go.Proofs.Ytdcbgahfbcemnaa
