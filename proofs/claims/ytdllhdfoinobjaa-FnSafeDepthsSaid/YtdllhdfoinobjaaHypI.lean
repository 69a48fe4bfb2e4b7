/-
  This file proves a contract on hypotheses: the votes without those of weak ones, of the reference.
  Conditions: that the slice reads as a list of depths, that it is not too long.
-/
import Derived.Test.YtdllhdfoinobjaaHypH
namespace Go.Proofs.Ytdllhdfoinobjaa
open Go.RowKit
set_option linter.unusedSimpArgs false
set_option linter.unusedVariables false

theorem Rd.tight {w : World} {lo hi size n g o : Nat} {xs : List Value} (h : Rd w lo hi size (some ⟨g, o, none⟩) n xs) : Rd w g (g + 1) size (some ⟨g, o, none⟩) n xs := by
  refine ⟨h.1, fun hn => ?_⟩
  obtain ⟨b, off, e, h1, h2, hc⟩ := h.2 hn
  injection e with e
  injection e with e1 e2 e3
  subst e1 e2
  exact ⟨g, o, rfl, Nat.le_refl _, Nat.lt_succ_self _, hc⟩
theorem Rd.tkeep {w w' : World} {size n g : Nat} {A : Option Addr} {xs : List Value} (h : Rd w g (g + 1) size A n xs) (hk : w'.heap[g]? = w.heap[g]?) : Rd w' g (g + 1) size A n xs :=
  h.keep fun b off h1 h2 => by
    obtain rfl : b = g := by omega
    exact World.cell?_of_block hk
def cntW (s x : Int) (G : List GHypothesis) : Nat := (G.filter fun h => inH x h && decide (s ≤ h.vt)).length
theorem cntW_no {s x : Int} {G : List GHypothesis} {k : Nat} {q : GHypothesis} (hq : G[k]? = some q) (h : (inH x q && decide (s ≤ q.vt)) = false) : cntW s x (G.take (k + 1)) = cntW s x (G.take k) := by
  unfold cntW
  rw [List.take_add_one, hq, List.filter_append]
  simp [h]
theorem cntW_yes {s x : Int} {G : List GHypothesis} {k : Nat} {q : GHypothesis} (hq : G[k]? = some q) (h : (inH x q && decide (s ≤ q.vt)) = true) : cntW s x (G.take (k + 1)) = cntW s x (G.take k) + 1 := by
  unfold cntW
  rw [List.take_add_one, hq, List.filter_append]
  simp [h]
theorem cntW_all {s x wd : Int} {G : List GHypothesis} (hp : hApart wd G) (hw : 0 ≤ wd) : cntW s x G = if (strL s G).any (inH x) = true then 1 else 0 := by
  have hpw : (G.filter fun h => inH x h && decide (s ≤ h.vt)).Pairwise (fun a b => a.hg + wd < b.lw) := List.Pairwise.filter _ hp
  have hall : ∀ h ∈ (G.filter fun h => inH x h && decide (s ≤ h.vt)), inH x h = true := fun h hh => by
    have := (List.mem_filter.1 hh).2
    rw [Bool.and_eq_true] at this
    exact this.1
  have hany : (strL s G).any (inH x) = !(G.filter fun h => inH x h && decide (s ≤ h.vt)).isEmpty := by
    rw [Bool.eq_iff_iff]
    simp only [List.any_eq_true, strL, List.mem_filter, Bool.not_eq_true', decide_eq_false_iff_not, List.isEmpty_eq_false_iff_exists_mem, Bool.and_eq_true, decide_eq_true_eq]
    constructor
    · rintro ⟨h, ⟨h1, h2⟩, h3⟩
      exact ⟨h, h1, h3, by omega⟩
    · rintro ⟨h, h1, h2, h3⟩
      exact ⟨h, ⟨h1, by omega⟩, h2⟩
  unfold cntW
  rw [hany]
  generalize (G.filter fun h => inH x h && decide (s ≤ h.vt)) = L at hpw hall
  match L, hpw, hall with
  | [], _, _ => rfl
  | [_], _, _ => rfl
  | a :: b :: r, hpw, hall =>
    exfalso
    have h1 := (List.pairwise_cons.1 hpw).1 b (by simp)
    have h2 := inR_true.1 (hall a (by simp))
    have h3 := inR_true.1 (hall b (by simp))
    omega
theorem cntW_le {s x : Int} (G : List GHypothesis) : cntW s x G ≤ G.length := List.length_filter_le _ _
theorem rep_snoc {F : List Int} {x : Int} (m : Nat) : F ++ List.replicate (m + 1) x = (F ++ List.replicate m x) ++ [x] := by
  rw [List.append_assoc, List.replicate_succ']

set_option maxHeartbeats 1000000 in
set_option maxRecDepth 100000 in
theorem sWithoutWeak {A : Option Addr} {c lo hi : Nat} {xs : List Int} {wd s : Int} {w : World} (hr : RdI w lo hi A xs) (hl : xs.length ≤ 4194304) (hh : hi ≤ w.heap.size) :
    Calls Try.prog 35 #[.slice A xs.length c, .int .i64 wd, .int .i64 s] w (RetLB (vWithoutWeak xs wd s).1 (vWithoutWeak xs wd s).2 w) := by
  obtain ⟨i0, hi0, hz0, hz1, hz2⟩ := info_parts int_info
  by_cases h1 : canV xs wd = true
  rotate_left
  · have h1' : canV xs wd = false := by simpa using h1
    have HE := Lib.hid (show vWithoutWeak xs wd s = ([], false) from by unfold vWithoutWeak; rw [if_neg (by simp [h1'])])
    clear h1
    go_enter Try.func35, Try.ntmps35
    go_wp2_with fail
    refine (l13Asked_any (hr.below (below_alloc1 w _) hh) hl (by simp; omega)).mono ?_
    rintro e w' ⟨rfl, rfl⟩
    rw [h1']
    go_wp2_with fail
    go_ret2
    rw [HE.out]
    exact retLB_of (row_empty_at _ _ _ (Nat.le_refl _)) (below_alloc1 _ _)
  by_cases h2 : inR s 1 20 = true
  rotate_left
  · have h2' : inR s 1 20 = false := by simpa using h2
    have HE := Lib.hid (show vWithoutWeak xs wd s = ([], false) from by unfold vWithoutWeak; rw [if_neg (by simp [h2'])])
    clear h2
    go_enter Try.func35, Try.ntmps35
    go_wp2_with fail
    refine (l13Asked_any (hr.below (below_alloc1 w _) hh) hl (by simp; omega)).mono ?_
    rintro e w' ⟨rfl, rfl⟩
    rw [h1]
    clear h1
    go_wp2_with fail
    refine (l1In_any _ _ _ _).mono ?_
    rintro e w' ⟨rfl, rfl⟩
    rw [h2']
    go_wp2_with fail
    go_ret2
    rw [HE.out]
    exact retLB_of (row_empty_at _ _ _ (Nat.le_refl _)) (below_alloc1 _ _)
  have HE := Lib.hid (show vWithoutWeak xs wd s = (outW xs wd s xs.length, decide (0 < (outW xs wd s xs.length).length)) from by unfold vWithoutWeak; rw [if_pos ⟨h1, h2⟩])
  have H1 := Lib.hid h1
  have hn20 := (isVts_all (canV_yes h1).1).2.2
  have hfa := hypV_facts h1
  have hl20 := hfa.1
  have hpos := hfa.2.2.2
  have HCNT := Lib.hid (fun x => cntW_all (s := s) (x := x) hfa.2.2.1 (canV_yes h1).2.1)
  clear hfa
  go_enter Try.func35, Try.ntmps35
  go_wp2_with fail
  refine (l13Asked_any (hr.below (below_alloc1 w _) hh) hl (by simp; omega)).mono ?_
  rintro e w' ⟨rfl, rfl⟩
  rw [h1]
  clear h1
  go_wp2_with fail
  refine (l1In_any _ _ _ _).mono ?_
  rintro e w' ⟨rfl, rfl⟩
  rw [h2]
  clear h2
  go_wp2_with fail
  refine (l13Of_any (hr.below (below_alloc1 w _) hh) (by simp; omega) H1.out).mono ?_
  rintro e w1 ⟨A1, c1, rfl, O1, B1⟩
  have HO := Lib.hid (show ∀ k, outW xs wd s k = gath (pW (strL s (hypV xs wd)) xs) (fW xs) k from fun _ => rfl)
  generalize hypV xs wd = G at O1 hl20 hpos HCNT HO ⊢
  obtain ⟨gG, rfl, hgG1, hgG2⟩ := O1.length_pos hpos
  have hgw : w.heap.size < gG := by simp at hgG1; omega
  have hRG := O1.rd.tight
  have hb1 : Below w.heap.size w w1 := (below_alloc1 w _).trans (B1.mono (by simp))
  have ho1 := row_below (row_empty_at w 3 1 (Nat.le_refl _)) B1
  have hv1 : (Value.slice (some ⟨w.heap.size, 0, none⟩) 0 0).ownBlock ≠ some gG := by rw [ownBlock_slice]; intro h; injection h with h; omega
  clear O1 B1 hgG1
  go_wp2_with fail
  go_loopw [8, 10] (fun v i wr => ∃ k : Nat, k ≤ xs.length ∧ i = .int .i64 k ∧ wr.ownsRow w.heap.size 3 1 v (gath (pW (strL s G) xs) (fW xs) k).length (ints (gath (pW (strL s G) xs) (fW xs) k)) ∧ v.ownBlock ≠ some gG ∧ RdH wr gG (gG + 1) (some ⟨gG, 0, none⟩) G ∧ Below w.heap.size w wr ∧ gG < wr.heap.size) (fun _ i _ => xs.length - (intOf i).toNat)
  case atStart => exact ⟨0, Nat.zero_le _, rfl, ho1, hv1, hRG, hb1, hgG2⟩
  case round =>
    clear ho1 hv1 hRG hb1 hgG2
    obtain ⟨k, hk, rfl, hown, hvb, hRG, hb, hgs⟩ := hrel
    have HVB := Lib.hid hvb
    clear hvb
    have hgl := gath_le (pW (strL s G) xs) (fW xs) k
    by_cases hlt : k < xs.length
    rotate_left
    · obtain rfl : k = xs.length := by omega
      have HO2 := Lib.hid (HO.out xs.length)
      generalize gath (pW (strL s G) xs) (fW xs) xs.length = F at hown hgl HO2 ⊢
      obtain ⟨A5, c5, rfl, O5⟩ := Own.of_row hown
      clear hown
      have hdec : decide ((F.length : Int) > 0) = decide (0 < F.length) := by
        by_cases h : 0 < F.length
        · rw [decide_eq_true h, decide_eq_true (by omega)]
        · rw [decide_eq_false h, decide_eq_false (by omega)]
      have HD := Lib.hid hdec
      clear hdec
      go_wp2_with fail
      go_ret2
      rw [HE.out, HO2.out]
      exact ⟨A5, c5, by first | rfl | (rw [← HD.out]; rfl) | (simp; done), O5, hb⟩
    obtain ⟨b, off, x, rfl, hx, hcw⟩ := hr.geti hlt
    have hbw := World.block_lt_of_cell? w _ hcw
    have HX := Lib.hid (getD_of hx)
    have q1 : (k : Int) < (xs.length : Int) := by omega
    clear hx
    have HB := Lib.hid hb
    obtain ⟨F, hF⟩ : ∃ F, gath (pW (strL s G) xs) (fW xs) k = F := ⟨_, rfl⟩
    rw [hF] at hown hgl
    have HF := Lib.hid hF
    clear hF
    obtain ⟨A5, c5, rfl, O5⟩ := Own.of_row hown
    have hown0 : wr.ownsRow w.heap.size 3 1 (.slice A5 F.length c5) (F ++ List.replicate (cntW s x (G.take 0)) x).length (ints (F ++ List.replicate (cntW s x (G.take 0)) x)) := by simpa [cntW] using hown
    go_wp2_with fail
    go_loopw [8, 11] (fun v i wz => ∃ j : Nat, j ≤ G.length ∧ i = .int .i64 j ∧ wz.ownsRow w.heap.size 3 1 v (F ++ List.replicate (cntW s x (G.take j)) x).length (ints (F ++ List.replicate (cntW s x (G.take j)) x)) ∧ v.ownBlock ≠ some gG ∧ RdH wz gG (gG + 1) (some ⟨gG, 0, none⟩) G ∧ Below w.heap.size w wz ∧ gG < wz.heap.size) (fun _ i _ => G.length - (intOf i).toNat)
    case atStart => exact ⟨0, Nat.zero_le _, rfl, hown0, HVB.out, hRG, hb, hgs⟩
    case round =>
      clear hown0 HVB hRG hb hgs O5 hown HB
      obtain ⟨j, hj, rfl, hown, hvb, hRG, hb, hgs⟩ := hrel
      by_cases hltj : j < G.length
      rotate_left
      · obtain rfl : j = G.length := by omega
        rw [List.take_length] at hown
        have hk1 : F ++ List.replicate (cntW s x G) x = gath (pW (strL s G) xs) (fW xs) (k + 1) := by
          rw [HCNT.out x]
          rcases ha : (strL s G).any (inH x) with _ | _
          · rw [gath_no (p := pW (strL s G) xs) (f := fW xs) (k := k) (by unfold pW; rw [HX.out]; exact ha), HF.out]
            simp
          · rw [gath_yes (p := pW (strL s G) xs) (f := fW xs) (k := k) (x := x) (by unfold pW; rw [HX.out]; exact ha) HX.out, HF.out]
            simp
        rw [hk1] at hown
        have HOWN := Lib.hid hown
        clear hown hk1
        go_wp2_with fail
        go_roundw
        case rel => exact ⟨k + 1, by omega, by go_num, HOWN.out, hvb, hRG, hb, hgs⟩
        case measure => simp [intOf]; omega
      have HVB := Lib.hid hvb
      clear hvb
      obtain ⟨b2, off2, q, hrow, _, _, hq, k0, k1, k2⟩ := hRG.getHypothesis hltj
      injection hrow with hrow
      injection hrow with hrow1 hrow2 hrow3
      subst hrow1 hrow2
      rw [Nat.zero_add] at k0 k1 k2
      have hcz := (hb.cell (p := ⟨b, off + k, none⟩) hbw).trans hcw
      have qj : (j : Int) < (G.length : Int) := by omega
      have hcle : cntW s x (G.take j) ≤ 20 := Nat.le_trans (cntW_le _) (Nat.le_trans (List.length_take_le _ _) (by omega))
      obtain ⟨m, hm⟩ : ∃ m, cntW s x (G.take j) = m := ⟨_, rfl⟩
      rw [hm] at hown hcle
      have HM := Lib.hid hm
      have HQ := Lib.hid hq
      clear hm hq
      rcases hv1 : inH x q with _ | _
      · have HC := Lib.hid (fun wz : World => (show Calls Try.prog 63 #[.int .i64 x, .int .i64 q.lw, .int .i64 q.hg] wz (fun e w' => e = .returned (.bool false) ∧ wz = w') from by rw [← hv1]; exact l1In_any _ _ _ _))
        have HS := Lib.hid ((cntW_no (s := s) HQ.out (by rw [hv1]; rfl)).trans HM.out)
        clear hv1
        go_wp2_with fail
        go_quiet ((go_at_call 63; exact Calls.quiet_of_same ((HC.out _).mono fun _ _ h => ⟨h.1, h.2.symm⟩)))
        go_wp2_with fail
        go_roundw
        case rel => exact ⟨j + 1, by omega, by go_num, by rw [HS.out]; exact hown, HVB.out, hRG.drewN _, below_drewN hb _, hgs⟩
        case measure => simp [intOf]; omega
      have HC := Lib.hid (fun wz : World => (show Calls Try.prog 63 #[.int .i64 x, .int .i64 q.lw, .int .i64 q.hg] wz (fun e w' => e = .returned (.bool true) ∧ wz = w') from by rw [← hv1]; exact l1In_any _ _ _ _))
      by_cases hv2 : s ≤ q.vt
      · have HS := Lib.hid ((cntW_yes (s := s) HQ.out (by rw [hv1, decide_eq_true hv2]; rfl)).trans (by rw [HM.out]))
        have hFm : F ++ List.replicate (m + 1) x = (F ++ List.replicate m x) ++ [x] := rep_snoc m
        have hFl : (F ++ List.replicate m x).length = F.length + m := by simp
        obtain ⟨F2, hF2⟩ : ∃ F2, F ++ List.replicate m x = F2 := ⟨_, rfl⟩
        rw [hF2] at hown hFm hFl
        have HFM := Lib.hid hFm
        have hF40 : F2.length ≤ 40 := by omega
        clear hFl
        obtain ⟨A6, c6, rfl, O6⟩ := Own.of_row hown
        have HV := Lib.hid (ownBlock_any HVB.out)
        have hbs := hb.size
        clear hv1 hFm hF2 hown
        go_wp2_with fail
        go_quiet ((go_at_call 63; exact Calls.quiet_of_same ((HC.out _).mono fun _ _ h => ⟨h.1, h.2.symm⟩)))
        go_wp2_with (at_builtin; refine wpList_push _ rfl _ _ 24 rfl w.heap.size 3 i0 (.int .i64 0) 1 8 Try.underlying24 hi0 hz0 hz1 hz2 rfl (by decide) _ F2.length (ints F2) rfl (O6.drewN _).1 [.int .i64 x] rfl (one_int x) rfl (by omega) (by decide) hbs ?_; intro v7 w7 hown7 hb7 hs7 hat7 hk7)
        have hown8 := push_rel HFM.out hown7
        have hb8 := hb7 _ (below_drewN hb _)
        have hvb8 : v7.ownBlock ≠ some gG := by
          rcases hat7 with h1 | ⟨g1, h1, h2⟩
          · rw [h1]; exact HV.out _ _
          · rw [h1]; intro h3; injection h3 with h3; have : _ ≤ g1 := h2; subst h3; exact absurd hgs (Nat.not_lt.2 h2)
        have hR8 := (hRG.drewN _).tkeep (hk7 gG hgs (HV.out _ _))
        go_wp2_with fail
        go_roundw
        case rel => exact ⟨j + 1, by omega, by go_num, by rw [HS.out]; exact hown8, hvb8, hR8, hb8, Nat.lt_of_lt_of_le hgs hs7⟩
        case measure => simp [intOf]; omega
      · have HS := Lib.hid ((cntW_no (s := s) HQ.out (by rw [hv1, decide_eq_false hv2]; rfl)).trans HM.out)
        have hv3 : ¬ s ≤ q.vt := hv2
        clear hv1
        go_wp2_with fail
        go_quiet ((go_at_call 63; exact Calls.quiet_of_same ((HC.out _).mono fun _ _ h => ⟨h.1, h.2.symm⟩)))
        go_wp2_with fail
        go_roundw
        case rel => exact ⟨j + 1, by omega, by go_num, by rw [HS.out]; exact hown, HVB.out, hRG.drewN _, below_drewN hb _, hgs⟩
        case measure => simp [intOf]; omega

end Go.Proofs.Ytdllhdfoinobjaa
