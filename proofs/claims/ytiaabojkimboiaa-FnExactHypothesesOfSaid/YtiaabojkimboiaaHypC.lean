/-
  This file proves the contract of the reference's function that makes hypotheses of votes.
  Conditions: that the slice reads as a list of votes, from 1 to 20 depths.
-/
import Derived.Test.YtiaabojkimboiaaHypB
import Derived.StillTailTactics
namespace Go.Proofs.Ytiaabojkimboiaa
open Go.RowKit
set_option linter.unusedSimpArgs false
set_option linter.unusedVariables false

theorem cells_set3 {F : List GHypothesis} {h : GHypothesis} {n : Nat} (hn : F.length = n) (l a b : Int) : (((cellsHypothesis (F ++ [h])).set (n * 3) (.int .i64 l)).set (n * 3 + 1) (.int .i64 a)).set (n * 3 + 2) (.int .i64 b) = cellsHypothesis (F ++ [⟨l, a, b⟩]) := by
  have hl : (cellsHypothesis F).length = n * 3 := by rw [cellsHypothesis_length, hn]
  rw [cells_last, cells_last, ← hl]
  simp [List.set_append]
theorem rd_new3 (w : World) (e : TypeId) (x y z : Int) : Rd (w.alloc (.cells #[.int .i64 x, .int .i64 y, .int .i64 z] e)) 0 (w.alloc (.cells #[.int .i64 x, .int .i64 y, .int .i64 z] e)).heap.size 3 (some ⟨w.heap.size, 0, none⟩) 1 [.int .i64 x, .int .i64 y, .int .i64 z] := by
  refine ⟨rfl, fun _ => ⟨w.heap.size, 0, rfl, Nat.zero_le _, by simp, fun j u hu => ?_⟩⟩
  have := cells_new w [.int .i64 x, .int .i64 y, .int .i64 z] e j u hu
  rwa [Addr.add_lit] at this
theorem retHypS_from {base : Nat} {ps : List GHypothesis} {w w' : World} {v : Value} (h : w'.ownsRow base 24 3 v ps.length (cellsHypothesis ps)) (hbs : w.heap.size ≤ base) (hb : Below w.heap.size w w') : RetHypothesisS ps w (.returned v) w' := by
  obtain ⟨A, c, rfl, ho⟩ := Own.of_row h
  exact ⟨A, c, rfl, ho.more hbs (Nat.le_refl _), hb⟩

set_option maxHeartbeats 1000000 in
set_option maxRecDepth 100000 in
theorem l13Of_any {A : Option Addr} {c lo hi : Nat} {xs : List Int} {wd : Int} {w : World} (hr : RdI w lo hi A xs) (hh : hi ≤ w.heap.size) (hcv : canV xs wd = true) :
    Calls Try.prog 25 #[.slice A xs.length c, .int .i64 wd] w (RetHypothesisS (hypV xs wd) w) := by
  obtain ⟨i0, hi0, hz0, hz1, hz2⟩ := info_parts info_Hypothesis
  have hv := canV_yes hcv
  obtain ⟨hall, hn1, hn20⟩ := isVts_all hv.1
  have hwd := hv.2
  have HC := Lib.hid hcv
  clear hv hcv hall
  go_enter Try.func25, Try.ntmps25
  go_wp2_with fail
  refine (l13Sorted_any hr (by omega) hh).mono ?_
  rintro e w1 ⟨A0, c0, rfl, O0, B0⟩
  have hyl := sortI_length xs
  obtain ⟨gy, rfl, hgy1, hgy2⟩ := O0.length_pos (by omega)
  have hys := YS.of_rd O0.rd
  obtain ⟨b0, hb00⟩ : ∃ b0, b0 = w1.heap.size := ⟨_, rfl⟩
  have hb1 := below_alloc1 w1 (.cells #[] 24)
  have ho1 := row_empty_at w1 24 3 (Nat.le_refl _)
  have hsz0 := B0.size
  rw [← hb00] at hgy2 hb1 ho1 hsz0
  have HYS1 := Lib.hid hys
  obtain ⟨ys, hys0⟩ : ∃ ys, ys = sortI xs := ⟨_, rfl⟩
  rw [← hys0] at HYS1 hyl ⊢
  have HY := Lib.hid hys0
  have HL := Lib.hid hyl
  have hl1 : 1 ≤ ys.length := by omega
  have hl20 : ys.length ≤ 20 := by omega
  clear O0 hys0 hyl hys
  go_wp2_with fail
  rw [← hb00]
  have HB0 := Lib.hid hb00
  clear hb00
  go_loopw [6, 7] (fun v i wr => ∃ k : Nat, k ≤ ys.length ∧ i = .int .i64 k ∧ wr.ownsRow b0 24 3 v (hyps (ys.take k) wd).length (cellsHypothesis (hyps (ys.take k) wd)) ∧ Below b0 w1 wr) (fun _ i _ => ys.length - (intOf i).toNat)
  case atStart => exact ⟨0, Nat.zero_le _, rfl, ho1, hb1⟩
  case round =>
    obtain ⟨k, hk, rfl, hown, hb⟩ := hrel
    have HI := Lib.hid (by have h := hyps_all HC.out; rw [← HY.out] at h; exact h k hk)
    have hys := HYS1.out.keep (hb.block gy hgy2)
    have HYS := Lib.hid hys
    clear hys
    by_cases hlt : k < ys.length
    rotate_left
    · have HTA := Lib.hid (show hyps (ys.take k) wd = hypV xs wd from by rw [HY.out]; exact hypV_take (by rw [← HY.out]; exact hlt))
      go_wp2_with fail
      go_ret
      rw [HTA.out] at hown
      exact retHypS_from hown hsz0 (B0.trans (hb.mono hsz0))
    obtain ⟨x, hx⟩ : ∃ x, ys[k]? = some x := ⟨_, List.getElem?_eq_getElem hlt⟩
    have hxb : -1000 ≤ x ∧ x ≤ 20000 := allDepth_get (by rw [HY.out]; exact sortI_depth (isVts_all (canV_yes HC.out).1).1) hx
    have hcell := HYS.out k x hx
    have HYSC := Lib.hid (fun (wx : World) (h : YS wx gy ys) => h k x hx)
    have HS := Lib.hid (hyps_snoc wd hx)
    have q0 : (k : Int) < (ys.length : Int) := by omega
    clear hx
    obtain ⟨A5, c5, rfl, O5⟩ := Own.of_row hown
    clear hown
    rcases HI.out.1 with ⟨hk0, hF⟩ | ⟨hk0, F, h, hF, hlast⟩
    · have HF := Lib.hid hF
      have HS2 := Lib.hid (show hyps (ys.take (k + 1)) wd = [] ++ [⟨x, x, 1⟩] from by rw [HS.out, HF.out]; rfl)
      rw [hF] at O5 ⊢
      have e0 : ([] : List GHypothesis).length = 0 := rfl
      rw [e0] at O5 ⊢
      have hd : decide (0 < k) = false := by simp; omega
      clear hF hk0 e0
      go_wp2_with fail
      go_quiet (fail)
      go_wp2_with fail
      generalize hwq : World.drewN wr _ = wq
      have O6 : Own wq _ _ _ _ _ _ _ _ := own_eq hwq O5.1 |> fun h => ⟨h, O5.2⟩
      have hb6 := below_eq hwq hb
      have hc6 : wq.cell? ⟨gy, k, none⟩ = some (.int .i64 x) := by rw [← hwq]; exact hcell
      have hz7 : wr.heap.size ≤ wq.drew.heap.size := by rw [← hwq]; exact Nat.le_refl _
      clear hwq O5 hb hcell
      have HC : ∀ wx, Below b0 w1 wx → wx.cell? ⟨gy, k, none⟩ = some (.int .i64 x) := fun wx h => HYSC.out _ (HYS1.out.keep (h.block gy hgy2))
      have hbd := hb6.drew
      have O7 : Own wq.drew _ _ _ _ _ _ _ _ := ⟨O6.1, O6.2⟩
      have hbs : b0 ≤ wq.drew.heap.size := by have := hb6.size; have := HB0.out; show b0 ≤ wq.heap.size; omega
      clear O6 hc6
      go_region_held3 (fun w' => w'.cell? ⟨gy, k, none⟩ = some (.int .i64 x) ∧ Below b0 w1 w')
        ((first | exact ⟨HC _ hbd, hbd⟩ | exact ⟨HC _ L3, L3⟩ | exact ⟨HC _ (hbd.alloc hbs _), hbd.alloc hbs _⟩))
        ((first | (refine step_cat _ (by rfl) (.tmp 58) (.tmp 68) 33 (by rfl) b0 24 i0 (.agg #[.int .i64 0, .int .i64 0, .int .i64 0]) 3 24 Try.underlying33 hi0 hz0 hz1 hz2 (by rfl) (by decide) A5 0 c5 _ (by rfl) _ (O7.below (below_alloc1 _ _) hz7) 0 _ (some ⟨_, 0, none⟩) 1 1 [.int .i64 x, .int .i64 x, .int .i64 1] (by rfl) (rd_new3 _ _ _ _ _) (one_hyp ⟨x, x, 1⟩) (by omega) (by decide) (Nat.le_trans hbs (below_alloc1 _ _).size) ?_; intro B8 c8 w8 O8 b8 s8 k8; have L3 := b8 _ (hbd.alloc hbs _))))
      all_goals
        have hown7 := O8.1
        skip
        have hown8 := push_relH HS2.out hown7
        clear O7 O8 HC
        go_wp2_with fail
        go_roundw
        case rel => exact ⟨k + 1, by omega, by go_num, hown8, L3⟩
        case measure => simp [intOf]; omega
    · have hBd := HI.out.2.2.1 h (by rw [hF]; simp)
      unfold hB at hBd
      have hFl := HI.out.2.1
      have hcell2 := HYS.out (k - 1) h.hg hlast
      rw [hF] at hFl O5 ⊢
      obtain ⟨n, hn⟩ : ∃ n, F.length = n := ⟨_, rfl⟩
      have hFn : (F ++ [h]).length = n + 1 := by rw [List.length_append, hn]; rfl
      rw [hFn] at hFl O5 ⊢
      have HN := Lib.hid hn
      have HF := Lib.hid hF
      have HFN := Lib.hid hFn
      have hd : decide (0 < k) = true := by simp; omega
      have p1 : (0 : Int) ≤ (k : Int) - 1 := by omega
      have p2 : (1 : Int) ≤ (k : Int) := by omega
      have p3 : ((k : Int) - 1).toNat = k - 1 := by omega
      have p4 : (k : Int) - 1 < (ys.length : Int) := by omega
      have p5 : IntKind.i64.wrap ((k : Int) - 1) = (k : Int) - 1 := wr64 (by omega) (by omega)
      have q1 : IntKind.i64.wrap (x - h.hg) = x - h.hg := wr64 (by omega) (by omega)
      clear hn hF hFn
      by_cases hc : x - h.hg ≤ wd
      · have HS2 := Lib.hid (show hyps (ys.take (k + 1)) wd = F ++ [⟨h.lw, x, h.vt + 1⟩] from by rw [HS.out, HF.out]; exact hstep_join hc)
        have HFN8 := Lib.hid (show (F ++ [(⟨h.lw, x, h.vt + 1⟩ : GHypothesis)]).length = n + 1 from by rw [List.length_append, HN.out]; rfl)
        obtain ⟨g, rfl, hg1, hg2⟩ := O5.length_pos (by omega)
        obtain ⟨k0, k1, k2⟩ := hyp_cell (size := 3) O5 (by omega) HN.out
        have f0 : wr.frozen? ⟨g, n * 3, none⟩ = false := O5.frozen _
        have f1 : wr.frozen? ⟨g, n * 3 + 1, none⟩ = false := O5.frozen _
        have f2 : wr.frozen? ⟨g, n * 3 + 2, none⟩ = false := O5.frozen _
        have q2 : IntKind.i64.wrap (h.vt + 1) = h.vt + 1 := wr64 (by omega) (by omega)
        have q3 : (n : Int) < (n : Int) + 1 := by omega
        have q4 : n < n + 1 := by omega
        have q5 : IntKind.i64.wrap (n : Int) = (n : Int) := wr64 (by omega) (by omega)
        have q6 : (0 : Int) ≤ (n : Int) := by omega
        go_wp2_with fail
        go_quiet (fail)
        go_wp2_with fail
        generalize hwq : World.drewN wr _ = wq
        have O6 : Own wq _ _ _ _ _ _ _ _ := own_eq hwq O5.1 |> fun h => ⟨h, O5.2⟩
        have hb6 := below_eq hwq hb
        have c6 : wq.cell? ⟨gy, k, none⟩ = some (.int .i64 x) := by rw [← hwq]; exact hcell
        have l0 : wq.cell? ⟨g, n * 3, none⟩ = some (.int .i64 h.lw) := by rw [← hwq]; exact k0
        have l1 : wq.cell? ⟨g, n * 3 + 1, none⟩ = some (.int .i64 h.hg) := by rw [← hwq]; exact k1
        have l2 : wq.cell? ⟨g, n * 3 + 2, none⟩ = some (.int .i64 h.vt) := by rw [← hwq]; exact k2
        have m0 : wq.frozen? ⟨g, n * 3, none⟩ = false := by rw [← hwq]; exact f0
        have m1 : wq.frozen? ⟨g, n * 3 + 1, none⟩ = false := by rw [← hwq]; exact f1
        have m2 : wq.frozen? ⟨g, n * 3 + 2, none⟩ = false := by rw [← hwq]; exact f2
        clear hwq O5 hb hcell k0 k1 k2 f0 f1 f2
        refine wp_region_still_tail 22 (by kernel_rfl) (by kernel_rfl) ?_
        simp only [List.take_succ_cons, List.take_zero, List.drop_succ_cons, List.drop_zero]
        repeat still_step
        refine wpStill_nil ?_
        change wpList _ _ _ _ _ wq.drew
        generalize hwx : wq.drew = wx
        have O7 := own_drew hwx O6
        have hb7q := below_drew hwx hb6
        have l0' : wx.cell? ⟨g, n * 3, none⟩ = some (.int .i64 h.lw) := by rw [← hwx]; exact l0
        have l1' : wx.cell? ⟨g, n * 3 + 1, none⟩ = some (.int .i64 h.hg) := by rw [← hwx]; exact l1
        have l2' : wx.cell? ⟨g, n * 3 + 2, none⟩ = some (.int .i64 h.vt) := by rw [← hwx]; exact l2
        have m0' : wx.frozen? ⟨g, n * 3, none⟩ = false := by rw [← hwx]; exact m0
        have m1' : wx.frozen? ⟨g, n * 3 + 1, none⟩ = false := by rw [← hwx]; exact m1
        have m2' : wx.frozen? ⟨g, n * 3 + 2, none⟩ = false := by rw [← hwx]; exact m2
        have O8 := ((O7.store (n * 3) (.int .i64 h.lw)).store (n * 3 + 1) (.int .i64 x)).store (n * 3 + 2) (.int .i64 (h.vt + 1))
        rw [cells_set3 HN.out] at O8
        clear hwx O6 hb6 l0 l1 l2 m0 m1 m2
        go_wp2_with fail
        go_roundw
        case rel => exact ⟨k + 1, by omega, by go_num, by rw [HS2.out, HFN8.out]; exact O8.1, ((hb7q.setCell hg1 _).setCell hg1 _).setCell hg1 _⟩
        case measure => simp [intOf]; omega
      · have HS2 := Lib.hid (show hyps (ys.take (k + 1)) wd = (F ++ [h]) ++ [⟨x, x, 1⟩] from by rw [HS.out, HF.out]; exact hstep_new hc)
        go_wp2_with fail
        go_quiet (fail)
        go_wp2_with fail
        generalize hwq : World.drewN wr _ = wq
        have O6 : Own wq _ _ _ _ _ _ _ _ := own_eq hwq O5.1 |> fun h => ⟨h, O5.2⟩
        have hb6 := below_eq hwq hb
        have hc6 : wq.cell? ⟨gy, k, none⟩ = some (.int .i64 x) := by rw [← hwq]; exact hcell
        have hz7 : wr.heap.size ≤ wq.drew.heap.size := by rw [← hwq]; exact Nat.le_refl _
        clear hwq O5 hb hcell hcell2 p1 p2 p3 p4 p5
        have HC : ∀ wx, Below b0 w1 wx → wx.cell? ⟨gy, k, none⟩ = some (.int .i64 x) := fun wx h => HYSC.out _ (HYS1.out.keep (h.block gy hgy2))
        have hbd := hb6.drew
        have O7 : Own wq.drew _ _ _ _ _ _ _ _ := ⟨O6.1, O6.2⟩
        have hbs : b0 ≤ wq.drew.heap.size := by have := hb6.size; have := HB0.out; show b0 ≤ wq.heap.size; omega
        clear O6 hc6
        go_region_held3 (fun w' => w'.cell? ⟨gy, k, none⟩ = some (.int .i64 x) ∧ Below b0 w1 w')
          ((first | exact ⟨HC _ hbd, hbd⟩ | exact ⟨HC _ L3, L3⟩ | exact ⟨HC _ (hbd.alloc hbs _), hbd.alloc hbs _⟩))
          ((first | (refine step_cat _ (by rfl) (.tmp 58) (.tmp 68) 33 (by rfl) b0 24 i0 (.agg #[.int .i64 0, .int .i64 0, .int .i64 0]) 3 24 Try.underlying33 hi0 hz0 hz1 hz2 (by rfl) (by decide) A5 (n + 1) c5 _ (by rfl) _ (O7.below (below_alloc1 _ _) hz7) 0 _ (some ⟨_, 0, none⟩) 1 1 [.int .i64 x, .int .i64 x, .int .i64 1] (by rfl) (rd_new3 _ _ _ _ _) (one_hyp ⟨x, x, 1⟩) (by omega) (by decide) (Nat.le_trans hbs (below_alloc1 _ _).size) ?_; intro B8 c8 w8 O8 b8 s8 k8; have L3 := b8 _ (hbd.alloc hbs _))))
        all_goals
          have hown7 := O8.1
          replace hown7 : w8.ownsRow b0 24 3 (Value.slice B8 (n + 1 + 1) c8) ((F ++ [h]).length + 1) (cellsHypothesis (F ++ [h]) ++ [.int .i64 x, .int .i64 x, .int .i64 1]) := by rw [HFN.out]; exact hown7
          have hown8 := push_relH HS2.out hown7
          clear O7 O8 HC
          go_wp2_with fail
          go_roundw
          case rel => exact ⟨k + 1, by omega, by go_num, hown8, L3⟩
          case measure => simp [intOf]; omega

end Go.Proofs.Ytiaabojkimboiaa
