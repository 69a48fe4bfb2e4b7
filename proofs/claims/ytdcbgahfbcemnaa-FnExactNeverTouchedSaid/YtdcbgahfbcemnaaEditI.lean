/-
  This file proves contracts on edit lists: NeverTouched, of the program (with its closure and the library's two functions that call it) and of the reference.
  Conditions: that the slice reads as a list of steps, that it is not too long, that its texts are no longer than any string of the machine.
-/
import Derived.Test.YtdcbgahfbcemnaaEditH
namespace Go.Proofs.Ytdcbgahfbcemnaa
open Go.RowKit
set_option linter.unusedSimpArgs false
set_option linter.unusedVariables false

def hits (ps : List GEditStep) (mark : Int) (l : List Nat) : Bool := l.any fun i => (gE ps i).mr == mark
def vNeverTouched (m : Int) (ps : List GEditStep) : List Int × Bool := if goodE m ps = true then (gath (fun j => !hits ps (j : Int) (liveE ps ps.length)) (fun i => (i : Int)) m.toNat, true) else ([], false)
theorem vNeverTouched_len0 (m : Int) (ps : List GEditStep) : (vNeverTouched m ps).1.length ≤ 20 := by
  unfold vNeverTouched
  split
  · rename_i h
    have := goodE_len h
    exact Nat.le_trans (gath_le _ _ _) (by omega)
  · simp
theorem hits_yes {ps : List GEditStep} {mark : Int} {l : List Nat} {k i : Nat} (h : l[k]? = some i) (hm : ((gE ps i).mr == mark) = true) : hits ps mark l = true := by
  unfold hits
  rw [List.any_eq_true]
  exact ⟨i, List.mem_of_getElem? h, hm⟩
theorem hits_step {ps : List GEditStep} {mark : Int} {l : List Nat} {k i : Nat} (h : l[k]? = some i) (h0 : hits ps mark (l.take k) = false) (hm : ((gE ps i).mr == mark) = false) : hits ps mark (l.take (k + 1)) = false := by
  unfold hits at h0 ⊢
  rw [take_nat h, List.any_append, h0]
  simp only [List.any_cons, List.any_nil, hm, Bool.or_false]
theorem reasons_none {ps : List GEditStep} {mark : Int} {l : List Nat} : ((reasons ps mark l).length = 0) ↔ hits ps mark l = false := by
  unfold reasons hits
  rw [List.length_map, List.length_eq_zero_iff, List.filter_eq_nil_iff, List.any_eq_false]

/-- The closure: it holds the slice at block p, the mark at block q. -/
structure Caps (W : World) (pb qb : Nat) (A : Option Addr) (n c : Nat) (mark : Int) : Prop where
  c0 : W.cell? ⟨pb, 0, none⟩ = some (.slice A n c)
  c1 : W.cell? ⟨qb, 0, none⟩ = some (.int .i64 mark)
theorem Caps.below {W W' : World} {pb qb N n c : Nat} {A : Option Addr} {mark : Int} (h : Caps W pb qb A n c mark) (hb : Below N W W') (h1 : pb < N) (h2 : qb < N) : Caps W' pb qb A n c mark :=
  ⟨(hb.cell (p := ⟨pb, 0, none⟩) h1).trans h.c0, (hb.cell (p := ⟨qb, 0, none⟩) h2).trans h.c1⟩
theorem Caps.drewN {W : World} {pb qb n c : Nat} {A : Option Addr} {mark : Int} (h : Caps W pb qb A n c mark) (k : Nat) : Caps (W.drewN k) pb qb A n c mark := ⟨h.c0, h.c1⟩
set_option maxHeartbeats 1000000 in
theorem never1_any {W : World} {pb qb lo hi c i : Nat} {A : Option Addr} {ps : List GEditStep} {mark : Int} (hc : Caps W pb qb A ps.length c mark) (hr : RdE W lo hi A ps) (hi : i < ps.length) :
    Calls Try.prog 56 #[.int .i64 (i : Int), .pointer (some ⟨pb, 0, none⟩), .pointer (some ⟨qb, 0, none⟩)] W fun e w' => e = .returned (.bool ((gE ps i).mr == mark)) ∧ ∃ n, W.drewN n = w' := by
  obtain ⟨b, off, q, rfl, _, _, hq, c0, c1, c2, c3⟩ := hr.getEditStep hi
  have HQ := Lib.hid (gE_of hq)
  obtain ⟨k0, k1⟩ := hc
  have q1 : (i : Int) < (ps.length : Int) := by omega
  clear hq
  go_enter Try.func56, Try.ntmps56
  go_wp2_with fail
  go_quiet (fail)
  go_wp2_with fail
  go_ret
  exact ⟨ret_bool (by rw [HQ.out]), _, rfl⟩

/-- The first live step that bears the mark, if any. -/
def IdxP (b : Bool) (W : World) (e : Ending) (w' : World) : Prop := ∃ v : Int, e = .returned (.int .i64 v) ∧ decide (0 ≤ v) = b ∧ ∃ n, W.drewN n = w'
set_option maxHeartbeats 2000000 in
set_option maxRecDepth 100000 in
theorem indexF_any {W : World} {pb qb lo hi lo' hi' c c' : Nat} {A B : Option Addr} {ps : List GEditStep} {mark : Int} {l : List Nat} (hc : Caps W pb qb A ps.length c mark) (hr : RdE W lo hi A ps) (hv : RdI W lo' hi' B (natL l)) (hl : l.length ≤ 20) (hm : ∀ i ∈ l, i < ps.length) :
    Calls Try.prog 62 #[.slice B (natL l).length c', .func (.func 56) #[] #[.pointer (some ⟨pb, 0, none⟩), .pointer (some ⟨qb, 0, none⟩)]] W (IdxP (hits ps mark l) W) := by
  have HM := Lib.hid hm
  clear hm
  have hnl : (natL l).length ≤ 20 := by rw [natL_len]; exact hl
  go_enter Try.func62, Try.ntmps62
  go_wp2_with fail
  go_loopw [8] (fun i wr => ∃ k n : Nat, k ≤ (natL l).length ∧ i = .int .i64 k ∧ hits ps mark (l.take k) = false ∧ W.drewN n = wr) (fun i _ => (natL l).length - (intOf i).toNat)
  case atStart => exact ⟨0, 0, Nat.zero_le _, rfl, rfl, rfl⟩
  case round =>
    obtain ⟨k, n, hk, rfl, h0, rfl⟩ := hrel
    have H0 := Lib.hid h0
    clear h0
    by_cases hlt : k < (natL l).length
    · obtain ⟨b', off', x, rfl, hx, hcell⟩ := (hv.drewN n).geti hlt
      obtain ⟨i, rfl, hi⟩ := natL_get hx
      have hil := HM.out i (List.mem_of_getElem? hi)
      have q1 : (k : Int) < ((natL l).length : Int) := by omega
      have HC := Lib.hid (fun b (hb : ((gE ps i).mr == mark) = b) => (show Calls Try.prog 56 #[.int .i64 (i : Int), .pointer (some ⟨pb, 0, none⟩), .pointer (some ⟨qb, 0, none⟩)] (W.drewN n) (fun e w' => e = .returned (.bool b) ∧ ∃ n', (W.drewN n).drewN n' = w') from by rw [← hb]; exact never1_any (hc.drewN n) (hr.drewN n) hil))
      have HI := Lib.hid hi
      clear hx hi
      rcases hm : ((gE ps i).mr == mark) with _ | _
      · have HS := Lib.hid (hits_step HI.out H0.out hm)
        have HMM := Lib.hid hm
        clear hm
        go_wp2_with fail
        refine (HC.out _ HMM.out).mono ?_
        rintro e w' ⟨rfl, n', rfl⟩
        go_wp2_with fail
        go_roundw
        case rel => exact ⟨k + 1, n + n', by omega, by go_num, HS.out, by first | rfl | (rw [World.drewN_drewN])⟩
        case measure => simp [intOf]; omega
      · have HS := Lib.hid (hits_yes HI.out hm)
        have HMM := Lib.hid hm
        clear hm
        go_wp2_with fail
        refine (HC.out _ HMM.out).mono ?_
        rintro e w' ⟨rfl, n', rfl⟩
        go_wp2_with fail
        go_ret
        exact ⟨k, rfl, by rw [HS.out]; simp, n + n', by first | rfl | (rw [World.drewN_drewN])⟩
    · have e : l.take k = l := List.take_of_length_le (by rw [natL_len] at hlt; omega)
      have h0 := H0.out
      rw [e] at h0
      have HN := Lib.hid h0
      clear h0
      go_wp2_with fail
      go_ret
      exact ⟨-1, rfl, by rw [HN.out]; rfl, n, rfl⟩
theorem containsF_any {W : World} {pb qb lo hi lo' hi' c c' : Nat} {A B : Option Addr} {ps : List GEditStep} {mark : Int} {l : List Nat} (hc : Caps W pb qb A ps.length c mark) (hr : RdE W lo hi A ps) (hv : RdI W lo' hi' B (natL l)) (hl : l.length ≤ 20) (hm : ∀ i ∈ l, i < ps.length) :
    Calls Try.prog 55 #[.slice B (natL l).length c', .func (.func 56) #[] #[.pointer (some ⟨pb, 0, none⟩), .pointer (some ⟨qb, 0, none⟩)]] W fun e w' => e = .returned (.bool (hits ps mark l)) ∧ ∃ n, W.drewN n = w' := by
  have HM := Lib.hid hm
  clear hm
  go_enter Try.func55, Try.ntmps55
  go_wp2_with fail
  refine (indexF_any hc hr hv hl HM.out).mono ?_
  rintro e w' ⟨v, rfl, hd, n, rfl⟩
  have HD := Lib.hid hd
  clear hd
  go_wp2_with fail
  go_ret
  exact ⟨ret_bool HD.out, n, rfl⟩

set_option maxHeartbeats 2000000 in
set_option maxRecDepth 100000 in
theorem sNeverTouched {A : Option Addr} {c lo hi : Nat} {m : Int} {ps : List GEditStep} {w : World} (hr : RdE w lo hi A ps) (hl : ps.length ≤ 2097152) (hh : hi ≤ w.heap.size) (hcap : ps.length ≤ c) (hsz : ∀ p ∈ ps, p.rs.size ≤ maxLen) :
    Calls Try.prog 44 #[.int .i64 m, .slice A ps.length c] w (RetLB (vNeverTouched m ps).1 (vNeverTouched m ps).2 w) := by
  obtain ⟨i0, hi0, hz0, hz1, hz2⟩ := info_parts int_info
  have HGC := Lib.hid (fun b (hb : goodE m ps = b) (W : World) (hW : Below w.heap.size w W) => (show Calls Try.prog 46 #[.int .i64 m, .slice A ps.length c] W (RetB b W) from by rw [← hb]; exact l14Good_any (hr.below hW hh) (Nat.le_trans hh hW.size) hcap hl hsz))
  rcases hgd : goodE m ps with _ | _
  · have HE := Lib.hid (show vNeverTouched m ps = ([], false) from by unfold vNeverTouched; rw [if_neg (by simp [hgd])])
    have HGD := Lib.hid hgd
    clear hgd
    go_enter Try.func44, Try.ntmps44
    go_wp2_with fail
    refine (HGC.out _ HGD.out _ (by first | exact Below.refl _ _ | exact below_alloc1 _ _)).mono ?_
    rintro e w1 ⟨rfl, B1⟩
    go_wp2_with fail
    go_ret2
    rw [HE.out]
    exact retLB_of (row_below (row_empty w 3 1) B1) ((below_alloc1 w _).trans (B1.mono (by simp)))
  have hmn := goodE_len hgd
  obtain ⟨M, rfl⟩ : ∃ M : Nat, m = (M : Int) := ⟨m.toNat, by omega⟩
  have HGD := Lib.hid hgd
  clear hgd
  go_enter Try.func44, Try.ntmps44
  go_wp2_with fail
  refine (HGC.out _ HGD.out _ (by first | exact Below.refl _ _ | exact below_alloc1 _ _)).mono ?_
  rintro e w1 ⟨rfl, B1⟩
  have HE := Lib.hid (show vNeverTouched (M : Int) ps = (gath (fun j => !hits ps (j : Int) (liveE ps ps.length)) (fun i => (i : Int)) M, true) from by unfold vNeverTouched; rw [if_pos HGD.out]; rfl)
  have BB1 := (below_alloc1 w (.cells #[] 3)).trans (B1.mono (by simp))
  have O0 := row_below (row_empty w 3 1) B1
  clear B1
  go_wp2_with fail
  go_loopw [6, 7] (fun v i wr => ∃ j : Nat, j ≤ M ∧ i = .int .i64 j ∧ wr.ownsRow w.heap.size 3 1 v (gath (fun j => !hits ps (j : Int) (liveE ps ps.length)) (fun i => (i : Int)) j).length (ints (gath (fun j => !hits ps (j : Int) (liveE ps ps.length)) (fun i => (i : Int)) j)) ∧ Below w.heap.size w wr) (fun _ i _ => M - (intOf i).toNat)
  case atStart => exact ⟨0, Nat.zero_le _, rfl, O0, BB1⟩
  case round =>
    obtain ⟨j, hj, rfl, hown, hb⟩ := hrel
    have hgl := gath_le (fun j => !hits ps (j : Int) (liveE ps ps.length)) (fun i => (i : Int)) j
    by_cases hlt : j < M
    · have q1 : (j : Int) < (M : Int) := by omega
      have hVR : vReasonsFor (M : Int) ps (j : Int) = (reasons ps (j : Int) (liveE ps ps.length), true) := by unfold vReasonsFor; rw [if_pos ⟨HGD.out, inR_true.2 (by omega)⟩]
      have HSR := Lib.hid (fun (W : World) (hW : Below w.heap.size w W) => (show Calls Try.prog 34 #[.int .i64 (M : Int), .slice A ps.length c, .int .i64 (j : Int)] W (RetSLB (reasons ps (j : Int) (liveE ps ps.length)) true W) from by have h := sReasonsFor (m := (M : Int)) (mark := (j : Int)) (hr.below hW hh) hl (Nat.le_trans hh hW.size) hcap hsz; rw [hVR] at h; exact h))
      have hrn := reasons_none (ps := ps) (mark := (j : Int)) (l := liveE ps ps.length)
      have hrl := Nat.le_trans (reasons_le ps (j : Int) (liveE ps ps.length)) (liveF_le HGD.out)
      clear hVR
      generalize reasons ps (j : Int) (liveE ps ps.length) = RS at HSR hrn hrl
      by_cases h0 : RS.length = 0
      · have e0 : ((RS.length : Int) == 0) = true := by simpa using h0
        have HG := Lib.hid (gath_yes (p := fun j => !hits ps (j : Int) (liveE ps ps.length)) (f := fun i => (i : Int)) (k := j) (x := (j : Int)) (by show (!hits ps (j : Int) (liveE ps ps.length)) = true; rw [hrn.1 h0]; rfl) rfl)
        clear h0 hrn
        go_wp2_with fail
        refine (HSR.out _ hb).mono ?_
        rintro e w2 ⟨A2, c2, rfl, _, B2⟩
        have hown2 := row_below hown B2
        have hb2 := hb.trans (B2.mono hb.size)
        have hbs2 := hb2.size
        go_wp2_with (at_builtin; refine wpList_push _ rfl _ _ 31 rfl w.heap.size 3 i0 (.int .i64 0) 1 8 Try.underlying31 hi0 hz0 hz1 hz2 rfl (by decide) _ _ _ rfl hown2 [.int .i64 (j : Int)] rfl (one_int _) rfl (by omega) (by decide) hbs2 ?_; intro v1 w3 hown1 hb1 hs1 _ _)
        go_roundw
        case rel => exact ⟨j + 1, by omega, by go_num, push_rel HG.out hown1, hb1 _ hb2⟩
        case measure => simp [intOf]; omega
      · have e0 : ((RS.length : Int) == 0) = false := by simpa using h0
        have hh1 : hits ps (j : Int) (liveE ps ps.length) = true := by rcases hx : hits ps (j : Int) (liveE ps ps.length) with _ | _; exact absurd (hrn.2 hx) h0; rfl
        have HG := Lib.hid (gath_no (p := fun j => !hits ps (j : Int) (liveE ps ps.length)) (f := fun i => (i : Int)) (k := j) (by show (!hits ps (j : Int) (liveE ps ps.length)) = false; rw [hh1]; rfl))
        clear h0 hrn hh1
        go_wp2_with fail
        refine (HSR.out _ hb).mono ?_
        rintro e w2 ⟨A2, c2, rfl, _, B2⟩
        have hown2 := row_below hown B2
        have hb2 := hb.trans (B2.mono hb.size)
        go_wp2_with fail
        go_roundw
        case rel => exact ⟨j + 1, by omega, by go_num, by rw [HG.out]; exact hown2, hb2⟩
        case measure => simp [intOf]; omega
    · obtain rfl : j = M := by omega
      go_wp2_with fail
      go_ret2
      rw [HE.out]
      exact retLB_of hown hb

set_option maxHeartbeats 4000000 in
set_option maxRecDepth 100000 in
theorem iNeverTouched {A : Option Addr} {c lo hi : Nat} {m : Int} {ps : List GEditStep} {w : World} (hr : RdE w lo hi A ps) (hl : ps.length ≤ 2097152) (hh : hi ≤ w.heap.size) (hcap : ps.length ≤ c) (hsz : ∀ p ∈ ps, p.rs.size ≤ maxLen) :
    Calls Try.prog 45 #[.int .i64 m, .slice A ps.length c] w (RetLB (vNeverTouched m ps).1 (vNeverTouched m ps).2 w) := by
  obtain ⟨i0, hi0, hz0, hz1, hz2⟩ := info_parts int_info
  have Bx := below_alloc1 w (.cells #[.slice A ps.length c] 25)
  have hrx := hr.below Bx hh
  have hkx : (w.alloc (.cells #[.slice A ps.length c] 25)).cell? ⟨w.heap.size, 0, none⟩ = some (.slice A ps.length c) := by rw [cell_of_row _ _ _ _ _ (0, 0) (heap_alloc_new w _)]; rfl
  have hzx : (w.alloc (.cells #[.slice A ps.length c] 25)).heap.size = w.heap.size + 1 := by simp
  rcases hgd : goodE m ps with _ | _
  · have HE := Lib.hid (show vNeverTouched m ps = ([], false) from by unfold vNeverTouched; rw [if_neg (by simp [hgd])])
    have HGD := Lib.hid hgd
    have HZX := Lib.hid hzx
    clear hgd hzx
    go_enter Try.func45, Try.ntmps45
    go_wp2_with fail
    refine (edited_any hrx (by rw [HZX.out]; omega) hl hsz).mono ?_
    rintro e w1 ⟨hc, B1⟩
    rcases hc with ⟨_, rfl⟩ | ⟨hx, _⟩
    rotate_left
    · rw [HGD.out] at hx; cases hx
    go_wp2_with fail
    go_ret2
    rw [HE.out]
    exact retLB_nil _ _ _ (Bx.trans (B1.mono (by rw [HZX.out]; omega)))
  have hmn := goodE_len hgd
  obtain ⟨M, rfl⟩ : ∃ M : Nat, m = (M : Int) := ⟨m.toNat, by omega⟩
  have HGD := Lib.hid hgd
  have HZX := Lib.hid hzx
  clear hgd hzx
  have HE := Lib.hid (show vNeverTouched (M : Int) ps = (gath (fun j => !hits ps (j : Int) (liveE ps ps.length)) (fun i => (i : Int)) M, true) from by unfold vNeverTouched; rw [if_pos HGD.out]; rfl)
  go_enter Try.func45, Try.ntmps45
  go_wp2_with fail
  refine (edited_any hrx (by rw [HZX.out]; omega) hl hsz).mono ?_
  rintro e w1 ⟨hc, B1⟩
  rcases hc with ⟨hx, _⟩ | ⟨_, M', B, c', r, s, g, hM, rfl, ES⟩
  · rw [HGD.out] at hx; cases hx
  obtain rfl : M = M' := by omega
  obtain ⟨S, gr, gs, gg, LO⟩ := ES
  have BB1 := Bx.trans (B1.mono (by rw [HZX.out]; omega))
  have hk1 := (B1.cell (p := ⟨w.heap.size, 0, none⟩) (show w.heap.size < _ by rw [HZX.out]; omega)).trans hkx
  have hnl : (liveE ps ps.length).length = (natL (liveE ps ps.length)).length := (natL_len _).symm
  have hlv20 := liveF_le HGD.out
  rw [hnl] at S LO
  have hzz : w.heap.size < w1.heap.size := by have := B1.size; rw [HZX.out] at this; omega
  have hr1 := hr.below BB1 hh
  have hglt := S.lt.2.2
  have hc2 := S.c2
  obtain ⟨N1, hN1⟩ : ∃ N1, N1 = w1.heap.size := ⟨_, rfl⟩
  have HN1 := Lib.hid hN1
  have O0 := row_empty_at w1 3 1 (show N1 ≤ w1.heap.size by omega)
  have B0 := (below_alloc1 w1 (.cells #[] 3))
  rw [← hN1] at B0 hglt hzz
  have hwN : w.heap.size ≤ N1 := by omega
  have hloN : w1.heap.size ≤ N1 := by omega
  clear hM hnl hN1 B1 hrx hkx Bx
  go_wp2_with fail
  go_loopw [8, 20] (fun v i wr => ∃ j : Nat, j ≤ M ∧ i = .int .i64 j ∧ wr.ownsRow N1 3 1 v (gath (fun j => !hits ps (j : Int) (liveE ps ps.length)) (fun i => (i : Int)) j).length (ints (gath (fun j => !hits ps (j : Int) (liveE ps ps.length)) (fun i => (i : Int)) j)) ∧ Below N1 w1 wr) (fun _ i _ => M - (intOf i).toNat)
  case atStart => exact ⟨0, Nat.zero_le _, rfl, O0, B0⟩
  case round => as_aux_lemma =>
    obtain ⟨j, hj, rfl, hown, hb⟩ := hrel
    have hgl := gath_le (fun j => !hits ps (j : Int) (liveE ps ps.length)) (fun i => (i : Int)) j
    by_cases hlt : j < M
    rotate_left
    · obtain rfl : j = M := by omega
      go_wp2_with fail
      go_ret2
      rw [HE.out]
      obtain ⟨A', c'', rfl, ho⟩ := Own.of_row hown
      exact ⟨A', c'', rfl, ho.more hwN (Nat.le_refl _), BB1.trans (hb.mono hwN)⟩
    have q1 : (j : Int) < (M : Int) := by omega
    have hNr : N1 ≤ wr.heap.size := by have := hb.size; have := HN1.out; omega
    have Bb := below_alloc1 wr (.cells #[.int .i64 (j : Int)] 3)
    have hbb := hb.trans (Bb.mono hNr)
    have hkb : (wr.alloc (.cells #[.int .i64 (j : Int)] 3)).cell? ⟨wr.heap.size, 0, none⟩ = some (.int .i64 (j : Int)) := by rw [cell_of_row _ _ _ _ _ (0, 0) (heap_alloc_new wr _)]; rfl
    have CP : Caps (wr.alloc (.cells #[.int .i64 (j : Int)] 3)) w.heap.size wr.heap.size A ps.length c (j : Int) := ⟨(hbb.cell (p := ⟨w.heap.size, 0, none⟩) hzz).trans hk1, hkb⟩
    have hcg := (hbb.cell (p := ⟨g, 2, none⟩) hglt).trans hc2
    have HCC := Lib.hid (containsF_any (l := liveE ps ps.length) (c' := c') CP (hr1.below hbb (by omega)) (LO.rd.below hbb hloN) hlv20 (fun i hi => (liveE_mem hi).1))
    have hownb := hown.alloc (.cells #[.int .i64 (j : Int)] 3)
    have hzb : (wr.alloc (.cells #[.int .i64 (j : Int)] 3)).heap.size = wr.heap.size + 1 := by simp
    have HZB := Lib.hid hzb
    clear hown hb Bb CP hzb
    rcases hh1 : hits ps (j : Int) (liveE ps ps.length) with _ | _
    · have HG := Lib.hid (gath_yes (p := fun j => !hits ps (j : Int) (liveE ps ps.length)) (f := fun i => (i : Int)) (k := j) (x := (j : Int)) (by show (!hits ps (j : Int) (liveE ps ps.length)) = true; rw [hh1]; rfl) rfl)
      rw [hh1] at HCC
      clear hh1
      go_wp2_with fail
      refine HCC.out.mono ?_
      rintro e w2 ⟨rfl, n, hn⟩
      have hown2 := own_eq hn hownb
      have hb2 := below_eq hn hbb
      have hkb2 : w2.cell? ⟨wr.heap.size, 0, none⟩ = some (.int .i64 (j : Int)) := by rw [← hn]; exact hkb
      have hbs2 : N1 ≤ w2.heap.size := by rw [← hn]; show N1 ≤ (wr.alloc (.cells #[.int .i64 (j : Int)] 3)).heap.size; rw [HZB.out]; omega
      clear hn hkb hcg hownb hbb
      go_wp2_with (at_builtin; refine wpList_push _ rfl _ _ 31 rfl N1 3 i0 (.int .i64 0) 1 8 Try.underlying31 hi0 hz0 hz1 hz2 rfl (by decide) _ _ _ rfl hown2 [.int .i64 (j : Int)] rfl (one_int _) rfl (by omega) (by decide) hbs2 ?_; intro v1 w3 hown1 hb1 hs1 _ _)
      go_roundw
      case rel => exact ⟨j + 1, by omega, by go_num, push_rel HG.out hown1, hb1 _ hb2⟩
      case measure => simp [intOf]; omega
    · have HG := Lib.hid (gath_no (p := fun j => !hits ps (j : Int) (liveE ps ps.length)) (f := fun i => (i : Int)) (k := j) (by show (!hits ps (j : Int) (liveE ps ps.length)) = false; rw [hh1]; rfl))
      rw [hh1] at HCC
      clear hh1
      go_wp2_with fail
      refine HCC.out.mono ?_
      rintro e w2 ⟨rfl, n, hn⟩
      have hown2 := own_eq hn hownb
      have hb2 := below_eq hn hbb
      clear hn hkb hcg hownb hbb
      go_wp2_with fail
      go_roundw
      case rel => exact ⟨j + 1, by omega, by go_num, by rw [HG.out]; exact hown2, hb2⟩
      case measure => simp [intOf]; omega

end Go.Proofs.Ytdcbgahfbcemnaa
