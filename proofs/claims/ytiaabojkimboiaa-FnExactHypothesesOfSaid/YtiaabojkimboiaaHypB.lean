/-
  This file proves the contract of the program's function that makes hypotheses of votes.
  Conditions: that the slice reads as a list of votes, from 1 to 20 depths.
-/
import Derived.Test.YtiaabojkimboiaaHypA
namespace Go.Proofs.Ytiaabojkimboiaa
open Go.RowKit
set_option linter.unusedSimpArgs false
set_option linter.unusedVariables false

/-- The cells of a list of integers at the head of block g. -/
def YS (w : World) (g : Nat) (ys : List Int) : Prop := ∀ (j : Nat) (x : Int), ys[j]? = some x → w.cell? ⟨g, j, none⟩ = some (.int .i64 x)
theorem row_below {w w' : World} {base : Nat} {e : TypeId} {size n : Nat} {v : Value} {xs : List Value} (h : w.ownsRow base e size v n xs) (hb : Below w.heap.size w w') : w'.ownsRow base e size v n xs := by
  obtain ⟨A, c, rfl, ho⟩ := Own.of_row h
  exact (ho.below hb (Nat.le_refl _)).1
theorem YS.keep {w w' : World} {g : Nat} {ys : List Int} (h : YS w g ys) (hk : w'.heap[g]? = w.heap[g]?) : YS w' g ys := fun j x hx => (World.cell?_of_block hk).trans (h j x hx)
theorem YS.store {w : World} {g g' j : Nat} {u : Value} {ys : List Int} (h : YS w g ys) (hg : g' ≠ g) : YS (w.setCell ⟨g', j, none⟩ u) g ys := fun i x hx => (World.cell?_setCell_far _ _ _ _ hg).trans (h i x hx)
theorem YS.of_rd {w : World} {lo hi g : Nat} {ys : List Int} (h : RdI w lo hi (some ⟨g, 0, none⟩) ys) : YS w g ys := fun j x hx => by
  have hj := (List.getElem?_eq_some_iff.1 hx).1
  obtain ⟨b, off, e, _, _, hc⟩ := h.2 (by omega)
  cases e
  have := hc j (.int .i64 x) (by rw [ints, List.getElem?_map, hx]; rfl)
  rwa [Nat.zero_add] at this
theorem one_hyp (p : GHypothesis) : ∀ u ∈ ([.int .i64 p.lw, .int .i64 p.hg, .int .i64 p.vt] : List Value), u.oneCell' = true := by
  intro u hu
  simp at hu
  rcases hu with rfl | rfl | rfl <;> rfl
theorem cells_last (F : List GHypothesis) (h : GHypothesis) : cellsHypothesis (F ++ [h]) = cellsHypothesis F ++ [.int .i64 h.lw, .int .i64 h.hg, .int .i64 h.vt] := by simp [cellsHypothesis, GHypothesis.cells]
theorem push_relH {w : World} {base : Nat} {e : TypeId} {v : Value} {F F' : List GHypothesis} {p : GHypothesis} (he : F' = F ++ [p]) (h : w.ownsRow base e 3 v (F.length + 1) (cellsHypothesis F ++ [.int .i64 p.lw, .int .i64 p.hg, .int .i64 p.vt])) : w.ownsRow base e 3 v F'.length (cellsHypothesis F') := by
  subst he
  rw [cells_last, show (F ++ [p]).length = F.length + 1 by simp]
  exact h
theorem cells_set {F : List GHypothesis} {h : GHypothesis} {n : Nat} (hn : F.length = n) (a b : Int) : ((cellsHypothesis (F ++ [h])).set (n * 3 + 1) (.int .i64 a)).set (n * 3 + 2) (.int .i64 b) = cellsHypothesis (F ++ [⟨h.lw, a, b⟩]) := by
  have hl : (cellsHypothesis F).length = n * 3 := by rw [cellsHypothesis_length, hn]
  rw [cells_last, cells_last, ← hl]
  simp [List.set_append]
theorem hyp_cell {w : World} {lo hi size c m n : Nat} {e : TypeId} {g : Nat} {F : List GHypothesis} {h : GHypothesis} (ho : Own w e lo hi 3 (some ⟨g, 0, none⟩) m c (cellsHypothesis (F ++ [h]))) (hm : 0 < m) (hn : F.length = n) :
    w.cell? ⟨g, n * 3, none⟩ = some (.int .i64 h.lw) ∧ w.cell? ⟨g, n * 3 + 1, none⟩ = some (.int .i64 h.hg) ∧ w.cell? ⟨g, n * 3 + 2, none⟩ = some (.int .i64 h.vt) := by
  obtain ⟨b, off, e0, _, _, hc⟩ := ho.rd.2 hm
  cases e0
  have hl : (cellsHypothesis F).length = n * 3 := by rw [cellsHypothesis_length, hn]
  rw [cells_last] at hc
  have g0 := hc (n * 3) (.int .i64 h.lw) (by rw [List.getElem?_append_right (by omega), hl]; simp)
  have g1 := hc (n * 3 + 1) (.int .i64 h.hg) (by rw [List.getElem?_append_right (by omega), hl]; simp)
  have g2 := hc (n * 3 + 2) (.int .i64 h.vt) (by rw [List.getElem?_append_right (by omega), hl]; simp)
  rw [Nat.zero_add] at g0 g1 g2
  exact ⟨g0, g1, g2⟩
theorem retHypS_of {ps : List GHypothesis} {w w' : World} {v : Value} (h : w'.ownsRow w.heap.size 24 3 v ps.length (cellsHypothesis ps)) (hb : Below w.heap.size w w') : RetHypothesisS ps w (.returned v) w' := by
  obtain ⟨A, c, rfl, ho⟩ := Own.of_row h
  exact ⟨A, c, rfl, ho, hb⟩
theorem retHypSB_of {ps : List GHypothesis} {b : Bool} {w w' : World} {v : Value} (h : w'.ownsRow w.heap.size 24 3 v ps.length (cellsHypothesis ps)) (hb : Below w.heap.size w w') : RetHypothesisSB ps b w (.returned (.tuple #[v, .bool b])) w' := by
  obtain ⟨A, c, rfl, ho⟩ := Own.of_row h
  exact ⟨A, c, rfl, ho, hb⟩
theorem retHypSB_nil (b : Bool) (w w' : World) (hb : Below w.heap.size w w') : RetHypothesisSB [] b w (.returned (.tuple #[.slice none 0 0, .bool b])) w' :=
  ⟨none, 0, rfl, ⟨World.ownsRow_nil _ _ _ _, fun a ha => by cases ha⟩, hb⟩
theorem ownBlock_any {A : Option Addr} {n c : Nat} {x : Option Nat} (h : (Value.slice A n c).ownBlock ≠ x) (n' c' : Nat) : (Value.slice A n' c').ownBlock ≠ x := by
  cases A <;> exact h
theorem ownBlock_slice (b off n c : Nat) : (Value.slice (some ⟨b, off, none⟩) n c).ownBlock = some b := rfl

set_option maxHeartbeats 1000000 in
set_option maxRecDepth 100000 in
theorem hypothesesOf_any {A : Option Addr} {c lo hi : Nat} {xs : List Int} {wd : Int} {w : World} (hr : RdI w lo hi A xs) (hh : hi ≤ w.heap.size) (hcv : canV xs wd = true) :
    Calls Try.prog 26 #[.slice A xs.length c, .int .i64 wd] w (RetHypothesisS (hypV xs wd) w) := by
  obtain ⟨i0, hi0, hz0, hz1, hz2⟩ := info_parts info_Hypothesis
  have hv := canV_yes hcv
  obtain ⟨hall, hn1, hn20⟩ := isVts_all hv.1
  have hwd := hv.2
  have HC := Lib.hid hcv
  clear hv hcv hall
  go_enter Try.func26, Try.ntmps26
  go_wp2_with fail
  refine (sortedInts_any (hr.below (below_alloc1 w _) hh) (by omega) (by simp; omega)).mono ?_
  rintro e w1 ⟨A0, c0, rfl, O0, B0⟩
  have hyl := sortI_length xs
  obtain ⟨gy, rfl, hgy1, hgy2⟩ := O0.length_pos (by omega)
  have hgy : w.heap.size < gy := by simp at hgy1; omega
  have hys := YS.of_rd O0.rd
  have hb1 : Below w.heap.size w w1 := (below_alloc1 w _).trans (B0.mono (by simp))
  have ho1 := row_below (row_empty_at w 24 3 (Nat.le_refl _)) B0
  have hv1 : (Value.slice (some ⟨w.heap.size, 0, none⟩) 0 0).ownBlock ≠ some gy := by rw [ownBlock_slice]; intro h; injection h with h; omega
  obtain ⟨ys, hys0⟩ : ∃ ys, ys = sortI xs := ⟨_, rfl⟩
  rw [← hys0] at hys hyl ⊢
  have HY := Lib.hid hys0
  have HL := Lib.hid hyl
  have hl1 : 1 ≤ ys.length := by omega
  have hl20 : ys.length ≤ 20 := by omega
  clear O0 hys0 hyl
  go_wp2_with fail
  go_loopw [5, 13] (fun v i wr => ∃ k : Nat, k ≤ ys.length ∧ i = .int .i64 k ∧ wr.ownsRow w.heap.size 24 3 v (hyps (ys.take k) wd).length (cellsHypothesis (hyps (ys.take k) wd)) ∧ v.ownBlock ≠ some gy ∧ YS wr gy ys ∧ Below w.heap.size w wr ∧ gy < wr.heap.size) (fun _ i _ => ys.length - (intOf i).toNat)
  case atStart => exact ⟨0, Nat.zero_le _, rfl, ho1, hv1, hys, hb1, hgy2⟩
  case round =>
    obtain ⟨k, hk, rfl, hown, hvb, hys, hb, hgs⟩ := hrel
    have HI := Lib.hid (by have h := hyps_all HC.out; rw [← HY.out] at h; exact h k hk)
    have HYS := Lib.hid hys
    have HVB := Lib.hid hvb
    clear hys hvb
    by_cases hlt : k < ys.length
    rotate_left
    · have HTA := Lib.hid (show hyps (ys.take k) wd = hypV xs wd from by rw [HY.out]; exact hypV_take (by rw [← HY.out]; exact hlt))
      go_wp2_with fail
      go_ret
      rw [HTA.out] at hown
      exact retHypS_of hown hb
    obtain ⟨x, hx⟩ : ∃ x, ys[k]? = some x := ⟨_, List.getElem?_eq_getElem hlt⟩
    have hxb : -1000 ≤ x ∧ x ≤ 20000 := allDepth_get (by rw [HY.out]; exact sortI_depth (isVts_all (canV_yes HC.out).1).1) hx
    have hcell := HYS.out k x hx
    have HS := Lib.hid (hyps_snoc wd hx)
    have q0 : (k : Int) < (ys.length : Int) := by omega
    clear hx
    obtain ⟨A5, c5, rfl, O5⟩ := Own.of_row hown
    clear hown
    have HV := Lib.hid (ownBlock_any HVB.out)
    rcases HI.out.1 with ⟨hk0, hF⟩ | ⟨hk0, F, h, hF, hlast⟩
    · have HF := Lib.hid hF
      have HS2 := Lib.hid (show hyps (ys.take (k + 1)) wd = [] ++ [⟨x, x, 1⟩] from by rw [HS.out, HF.out]; rfl)
      rw [hF] at O5 ⊢
      have e0 : ([] : List GHypothesis).length = 0 := rfl
      rw [e0] at O5 ⊢
      clear hF hk0 e0
      go_wp2_with (at_builtin; refine wpList_push _ rfl _ _ 33 rfl w.heap.size 24 i0 (.agg #[.int .i64 0, .int .i64 0, .int .i64 0]) 3 24 Try.underlying33 hi0 hz0 hz1 hz2 rfl (by decide) _ _ _ rfl O5.1 [.int .i64 x, .int .i64 x, .int .i64 1] rfl (one_hyp ⟨x, x, 1⟩) rfl (by omega) (by decide) hb.size ?_; intro v7 w7 hown7 hb7 hs7 hat7 hk7)
      have hown8 := push_relH HS2.out hown7
      have hb8 := hb7 _ hb
      have hvb8 : v7.ownBlock ≠ some gy := by
        rcases hat7 with h1 | ⟨g1, h1, h2⟩
        · rw [h1]; exact HV.out _ _
        · rw [h1]; intro h3; injection h3 with h3; omega
      have hys8 := YS.keep HYS.out (hk7 gy hgs (HV.out _ _))
      go_wp2_with fail
      go_roundw
      case rel => exact ⟨k + 1, by omega, by go_num, hown8, hvb8, hys8, hb8, by omega⟩
      case measure => simp [intOf]; omega
    · have hBd := HI.out.2.2.1 h (by rw [hF]; simp)
      unfold hB at hBd
      have hFl := HI.out.2.1
      rw [hF] at hFl O5 ⊢
      obtain ⟨n, hn⟩ : ∃ n, F.length = n := ⟨_, rfl⟩
      have hFn : (F ++ [h]).length = n + 1 := by rw [List.length_append, hn]; rfl
      rw [hFn] at hFl O5 ⊢
      obtain ⟨g, rfl, hg1, hg2⟩ := O5.length_pos (by omega)
      obtain ⟨k0, k1, k2⟩ := hyp_cell (size := 3) O5 (by omega) hn
      have f1 : wr.frozen? ⟨g, n * 3 + 1, none⟩ = false := O5.frozen _
      have f2 : wr.frozen? ⟨g, n * 3 + 2, none⟩ = false := O5.frozen _
      have HN := Lib.hid hn
      have HF := Lib.hid hF
      have HFN := Lib.hid hFn
      have q1 : IntKind.i64.wrap (x - h.hg) = x - h.hg := wr64 (by omega) (by omega)
      have q2 : IntKind.i64.wrap (h.vt + 1) = h.vt + 1 := wr64 (by omega) (by omega)
      have q3 : (n : Int) < (n : Int) + 1 := by omega
      have q4 : n < n + 1 := by omega
      clear hn hF hFn
      by_cases hc : x - h.hg ≤ wd
      · have HS2 := Lib.hid (show hyps (ys.take (k + 1)) wd = F ++ [⟨h.lw, x, h.vt + 1⟩] from by rw [HS.out, HF.out]; exact hstep_join hc)
        have hne : g ≠ gy := fun e => HV.out 0 0 (by rw [e]; rfl)
        have O8 := (O5.store (n * 3 + 1) (.int .i64 x)).store (n * 3 + 2) (.int .i64 (h.vt + 1))
        rw [cells_set HN.out] at O8
        have hys8 := (HYS.out.store (j := n * 3 + 1) (u := .int .i64 x) hne).store (j := n * 3 + 2) (u := .int .i64 (h.vt + 1)) hne
        have HYS8 := Lib.hid hys8
        have HFN8 := Lib.hid (show (F ++ [(⟨h.lw, x, h.vt + 1⟩ : GHypothesis)]).length = n + 1 from by rw [List.length_append, HN.out]; rfl)
        clear O5 hys8
        go_wp2_with fail
        go_roundw
        case rel => exact ⟨k + 1, by omega, by go_num, by rw [HS2.out, HFN8.out]; exact O8.1, HV.out _ _, HYS8.out, (hb.setCell hg1 _).setCell hg1 _, by simpa [World.setCell] using hgs⟩
        case measure => simp [intOf]; omega
      · have HS2 := Lib.hid (show hyps (ys.take (k + 1)) wd = (F ++ [h]) ++ [⟨x, x, 1⟩] from by rw [HS.out, HF.out]; exact hstep_new hc)
        go_wp2_with (at_builtin; refine wpList_push _ rfl _ _ 33 rfl w.heap.size 24 i0 (.agg #[.int .i64 0, .int .i64 0, .int .i64 0]) 3 24 Try.underlying33 hi0 hz0 hz1 hz2 rfl (by decide) _ _ _ rfl O5.1 [.int .i64 x, .int .i64 x, .int .i64 1] rfl (one_hyp ⟨x, x, 1⟩) rfl (by omega) (by decide) hb.size ?_; intro v7 w7 hown7 hb7 hs7 hat7 hk7)
        rw [← HFN.out] at hown7
        have hown8 := push_relH HS2.out hown7
        have hb8 := hb7 _ hb
        have hvb8 : v7.ownBlock ≠ some gy := by
          rcases hat7 with h1 | ⟨g1, h1, h2⟩
          · rw [h1]; exact HV.out _ _
          · rw [h1]; intro h3; injection h3 with h3; omega
        have hys8 := YS.keep HYS.out (hk7 gy hgs (HV.out _ _))
        go_wp2_with fail
        go_roundw
        case rel => exact ⟨k + 1, by omega, by go_num, hown8, hvb8, hys8, hb8, by omega⟩
        case measure => simp [intOf]; omega

end Go.Proofs.Ytiaabojkimboiaa
