/-
  This file proves contracts on hypotheses: the votes without those of weak ones, of the program (with its closure and the library's two functions that call it).
  Conditions: that the slice reads as a list of depths, that it is not too long.
-/
import Derived.Test.YtdllhdfoinobjaaHypG
namespace Go.Proofs.Ytdllhdfoinobjaa
open Go.RowKit
set_option linter.unusedSimpArgs false
set_option linter.unusedVariables false

def inH (x : Int) (h : GHypothesis) : Bool := inR x h.lw h.hg
def pW (G : List GHypothesis) (xs : List Int) (i : Nat) : Bool := G.any (inH (xs.getD i 0))
def fW (xs : List Int) (i : Nat) : Int := xs.getD i 0
def outW (xs : List Int) (wd s : Int) (k : Nat) : List Int := gath (pW (strL s (hypV xs wd)) xs) (fW xs) k
def vWithoutWeak (xs : List Int) (wd s : Int) : List Int × Bool :=
  if canV xs wd = true ∧ inR s 1 20 = true then (outW xs wd s xs.length, decide (0 < (outW xs wd s xs.length).length)) else ([], false)
theorem vWithoutWeak_len0 (xs : List Int) (wd s : Int) : (vWithoutWeak xs wd s).1.length ≤ 20 := by
  unfold vWithoutWeak
  split
  · rename_i h
    have := (isVts_all (canV_yes h.1).1).2.2
    exact Nat.le_trans (gath_le _ _ _) this
  · simp

set_option maxHeartbeats 1000000 in
theorem inH1_any {W : World} {qb : Nat} {x : Int} (p : GHypothesis) (hc : W.cell? ⟨qb, 0, none⟩ = some (.int .i64 x)) :
    Calls Try.prog 68 #[.agg #[.int .i64 p.lw, .int .i64 p.hg, .int .i64 p.vt], .pointer (some ⟨qb, 0, none⟩)] W fun e w' => e = .returned (.bool (inH x p)) ∧ Below W.heap.size W w' := by
  have D := Hypothesis_cells p W 37
  have hb := below_alloc1 W (.cells #[.int .i64 p.lw, .int .i64 p.hg, .int .i64 p.vt] 37)
  have hlt : qb < W.heap.size := World.block_lt_of_cell? W _ hc
  have h2 := (hb.cell (p := ⟨qb, 0, none⟩) hlt).trans hc
  go_enter Try.func68, Try.ntmps68
  go_wp2_with fail
  refine (inside_any _ _ _ _).mono ?_
  rintro e w' ⟨rfl, rfl⟩
  go_wp2_with fail
  go_ret
  exact ⟨ret_bool rfl, hb⟩

def IdxI (b : Bool) (W : World) (e : Ending) (w' : World) : Prop := ∃ v : Int, e = .returned (.int .i64 v) ∧ decide (0 ≤ v) = b ∧ Below W.heap.size W w'
theorem any_step {x : Int} {G : List GHypothesis} {k : Nat} {q : GHypothesis} (hq : G[k]? = some q) (h0 : (G.take k).any (inH x) = false) (h1 : inH x q = false) : (G.take (k + 1)).any (inH x) = false := by
  rw [List.take_add_one, hq, List.any_append, h0]
  simp [h1]
theorem any_hit {x : Int} {G : List GHypothesis} {k : Nat} {q : GHypothesis} (hq : G[k]? = some q) (h1 : inH x q = true) : G.any (inH x) = true := List.any_eq_true.2 ⟨q, List.mem_of_getElem? hq, h1⟩
set_option maxHeartbeats 1000000 in
set_option maxRecDepth 100000 in
theorem indexI_any {W : World} {qb lo hi c : Nat} {A : Option Addr} {G : List GHypothesis} {x : Int} (hc : W.cell? ⟨qb, 0, none⟩ = some (.int .i64 x)) (hr : RdH W lo hi A G) (hh : hi ≤ W.heap.size) (hl : G.length ≤ 20) :
    Calls Try.prog 78 #[.slice A G.length c, .func (.func 68) #[] #[.pointer (some ⟨qb, 0, none⟩)]] W (IdxI (G.any (inH x)) W) := by
  have hlt0 : qb < W.heap.size := World.block_lt_of_cell? W _ hc
  go_enter Try.func78, Try.ntmps78
  go_wp2_with fail
  go_loopw [8] (fun i wr => ∃ k : Nat, k ≤ G.length ∧ i = .int .i64 k ∧ (G.take k).any (inH x) = false ∧ Below W.heap.size W wr) (fun i _ => G.length - (intOf i).toNat)
  case atStart => exact ⟨0, Nat.zero_le _, rfl, rfl, Below.refl _ _⟩
  case round =>
    obtain ⟨k, hk, rfl, h0, hb⟩ := hrel
    have H0 := Lib.hid h0
    clear h0
    have hs := hb.size
    by_cases hlt : k < G.length
    · obtain ⟨b, off, q, rfl, _, _, hq, c0, c1, c2⟩ := (hr.below hb hh).getHypothesis hlt
      have hc2 := (hb.cell (p := ⟨qb, 0, none⟩) hlt0).trans hc
      have q1 : (k : Int) < (G.length : Int) := by omega
      have hcall := inH1_any q hc2
      have HQ := Lib.hid hq
      clear hq
      rcases hv : inH x q with _ | _
      · rw [hv] at hcall
        have HC := Lib.hid hcall
        have HS := Lib.hid (any_step HQ.out H0.out hv)
        clear hcall hv
        go_wp2_with fail
        refine HC.out.mono ?_
        rintro e w' ⟨rfl, hb'⟩
        go_wp2_with fail
        go_roundw
        case rel => exact ⟨k + 1, by omega, by go_num, HS.out, hb.trans (hb'.mono hs)⟩
        case measure => simp [intOf]; omega
      · rw [hv] at hcall
        have HC := Lib.hid hcall
        have HS := Lib.hid (any_hit HQ.out hv)
        clear hcall hv
        go_wp2_with fail
        refine HC.out.mono ?_
        rintro e w' ⟨rfl, hb'⟩
        go_wp2_with fail
        go_ret
        exact ⟨k, rfl, by rw [HS.out]; simp, hb.trans (hb'.mono hs)⟩
    · have h0 := H0.out
      rw [List.take_of_length_le (by omega)] at h0
      have HN := Lib.hid h0
      clear h0
      go_wp2_with fail
      go_ret
      exact ⟨-1, rfl, by rw [HN.out]; rfl, hb⟩
theorem containsI_any {W : World} {qb lo hi c : Nat} {A : Option Addr} {G : List GHypothesis} {x : Int} (hc : W.cell? ⟨qb, 0, none⟩ = some (.int .i64 x)) (hr : RdH W lo hi A G) (hh : hi ≤ W.heap.size) (hl : G.length ≤ 20) :
    Calls Try.prog 67 #[.slice A G.length c, .func (.func 68) #[] #[.pointer (some ⟨qb, 0, none⟩)]] W fun e w' => e = .returned (.bool (G.any (inH x))) ∧ Below W.heap.size W w' := by
  go_enter Try.func67, Try.ntmps67
  go_wp2_with fail
  refine (indexI_any hc hr hh hl).mono ?_
  rintro e w' ⟨v, rfl, hd, hb⟩
  have HD := Lib.hid hd
  clear hd
  go_wp2_with fail
  go_ret
  exact ⟨ret_bool HD.out, hb⟩

set_option maxHeartbeats 1000000 in
set_option maxRecDepth 100000 in
theorem iWithoutWeak {A : Option Addr} {c lo hi : Nat} {xs : List Int} {wd s : Int} {w : World} (hr : RdI w lo hi A xs) (hl : xs.length ≤ 4194304) (hh : hi ≤ w.heap.size) :
    Calls Try.prog 36 #[.slice A xs.length c, .int .i64 wd, .int .i64 s] w (RetLB (vWithoutWeak xs wd s).1 (vWithoutWeak xs wd s).2 w) := by
  obtain ⟨i0, hi0, hz0, hz1, hz2⟩ := info_parts int_info
  by_cases h1 : canV xs wd = true
  rotate_left
  · have h1' : canV xs wd = false := by simpa using h1
    have HE := Lib.hid (show vWithoutWeak xs wd s = ([], false) from by unfold vWithoutWeak; rw [if_neg (by simp [h1'])])
    clear h1
    go_enter Try.func36, Try.ntmps36
    go_wp2_with fail
    refine (canVote_any hr hl hh).mono ?_
    rintro e w' ⟨rfl, rfl⟩
    rw [h1']
    go_wp2_with fail
    go_ret2
    rw [HE.out]
    exact retLB_nil _ _ _ (Below.refl _ _)
  by_cases h2 : inR s 1 20 = true
  rotate_left
  · have h2' : inR s 1 20 = false := by simpa using h2
    have HE := Lib.hid (show vWithoutWeak xs wd s = ([], false) from by unfold vWithoutWeak; rw [if_neg (by simp [h2'])])
    clear h2
    go_enter Try.func36, Try.ntmps36
    go_wp2_with fail
    refine (canVote_any hr hl hh).mono ?_
    rintro e w' ⟨rfl, rfl⟩
    rw [h1]
    clear h1
    go_wp2_with fail
    refine (isStrength_any _ _).mono ?_
    rintro e w' ⟨rfl, rfl⟩
    rw [h2']
    go_wp2_with fail
    go_ret2
    rw [HE.out]
    exact retLB_nil _ _ _ (Below.refl _ _)
  have HE := Lib.hid (show vWithoutWeak xs wd s = (outW xs wd s xs.length, decide (0 < (outW xs wd s xs.length).length)) from by unfold vWithoutWeak; rw [if_pos ⟨h1, h2⟩])
  have H1 := Lib.hid h1
  have hn20 := (isVts_all (canV_yes h1).1).2.2
  have hl20 := Nat.le_trans (strL_le s (hypV xs wd)) (hypV_facts h1).1
  go_enter Try.func36, Try.ntmps36
  go_wp2_with fail
  refine (canVote_any hr hl hh).mono ?_
  rintro e w' ⟨rfl, rfl⟩
  rw [h1]
  clear h1
  go_wp2_with fail
  refine (isStrength_any _ _).mono ?_
  rintro e w' ⟨rfl, rfl⟩
  rw [h2]
  clear h2
  go_wp2_with fail
  refine (strongOf_any (s := s) hr hh H1.out).mono ?_
  rintro e w1 ⟨A1, c1, lo1, hi1, rfl, R1, hlo1, hhi1, B1⟩
  have hs1 := B1.size
  have hr1 := hr.below B1 hh
  have hh1 : hi ≤ w1.heap.size := by omega
  have HO := Lib.hid (show ∀ k, outW xs wd s k = gath (pW (strL s (hypV xs wd)) xs) (fW xs) k from fun _ => rfl)
  generalize strL s (hypV xs wd) = G at R1 hl20 HO ⊢
  have BN := B1.mono (Nat.le_refl _)
  obtain ⟨N, hN⟩ : ∃ N, N = w1.heap.size := ⟨_, rfl⟩
  have ho1 := row_empty_at w1 3 1 (Nat.le_of_eq hN)
  have hb1 : Below N w1 (w1.alloc (.cells #[] 3)) := (Below.refl N w1).alloc (Nat.le_of_eq hN) _
  clear hr BN
  go_wp2_with fail
  go_loopw [9, 28] (fun v i wr => ∃ k : Nat, k ≤ xs.length ∧ i = .int .i64 k ∧ wr.ownsRow N 3 1 v (gath (pW G xs) (fW xs) k).length (ints (gath (pW G xs) (fW xs) k)) ∧ Below N w1 wr) (fun _ i _ => xs.length - (intOf i).toNat)
  case atStart => exact ⟨0, Nat.zero_le _, rfl, ho1, hb1⟩
  case round =>
    clear ho1 hb1
    obtain ⟨k, hk, rfl, hown, hb⟩ := hrel
    have hgl := gath_le (pW G xs) (fW xs) k
    have hsz := hb.size
    have hG := R1.below hb (by omega)
    by_cases hlt : k < xs.length
    rotate_left
    · obtain rfl : k = xs.length := by omega
      have HO2 := Lib.hid (HO.out xs.length)
      generalize gath (pW G xs) (fW xs) xs.length = F at hown hgl HO2 ⊢
      obtain ⟨A5, c5, rfl, O5⟩ := Own.of_row hown
      have hbw := B1.trans (hb.mono (by omega))
      rcases F with _ | ⟨y, F⟩
      · clear hown O5
        go_wp2_with fail
        go_ret2
        rw [HE.out, HO2.out]
        exact retLB_nil _ _ _ hbw
      · have hpos : 0 < (y :: F).length := by simp
        have O6 := O5.more (show w.heap.size ≤ N from by omega) (Nat.le_refl _)
        obtain ⟨n, hn⟩ : ∃ n, (y :: F).length = n := ⟨_, rfl⟩
        have HN := Lib.hid hn
        rw [hn] at hpos ⊢
        have q1 : ¬ n = 0 := by omega
        clear hown O5 hn
        go_wp2_with fail
        go_ret2
        rw [HE.out, HO2.out]
        exact ⟨A5, c5, by rw [HN.out, decide_eq_true hpos]; rfl, O6, hbw⟩
    obtain ⟨b, off, x, rfl, hx, hcell⟩ := (hr1.below hb (by omega)).geti hlt
    have HX := Lib.hid (getD_of hx)
    have q1 : (k : Int) < (xs.length : Int) := by omega
    clear hx
    obtain ⟨wa, hwa⟩ : ∃ wa, wa = wr.alloc (.cells #[.int .i64 x] 3) := ⟨_, rfl⟩
    have hba := below_alloc1 wr (.cells #[.int .i64 x] 3)
    have hsa : wa.heap.size = wr.heap.size + 1 := by rw [hwa]; simp
    have hd : (wr.alloc (.cells #[.int .i64 x] 3)).cell? ⟨wr.heap.size, 0, none⟩ = some (.int .i64 x) := by
      rw [cell_of_row _ _ _ _ _ (0, 0) (heap_alloc_new wr _)]; rfl
    rw [← hwa] at hba hd
    have HWA := Lib.hid hwa
    have hGa := hG.below hba (by omega)
    have hcall := containsI_any (c := c1) hd hGa (by omega) hl20
    clear hwa hG
    obtain ⟨sv, hsv⟩ : ∃ sv, sv = G.any (inH x) := ⟨_, rfl⟩
    rw [← hsv] at hcall
    have HC := Lib.hid hcall
    have HSV := Lib.hid hsv
    clear hsv hcall
    rcases hs : sv with _ | _
    · rw [hs] at HC HSV
      have HG := Lib.hid (gath_no (p := pW G xs) (f := fW xs) (k := k) (by unfold pW; rw [HX.out]; exact HSV.out.symm))
      generalize gath (pW G xs) (fW xs) k = F at hown hgl HG ⊢
      clear hs
      go_wp2_with fail
      rw [← HWA.out]
      go_wp2_with fail
      refine HC.out.mono ?_
      rintro e w5 ⟨rfl, B5⟩
      have hb5 := hba.trans (B5.mono (by omega))
      obtain ⟨A5, c5, rfl, O5⟩ := Own.of_row hown
      have O6 := O5.below hb5 (Nat.le_refl _)
      have hb6 := hb.trans (hb5.mono (by omega))
      clear hcell hown O5 hd
      go_wp2_with fail
      go_roundw
      case rel => exact ⟨k + 1, by omega, by go_num, by rw [HG.out]; exact O6.1, hb6⟩
      case measure => simp [intOf]; omega
    · rw [hs] at HC HSV
      have HG := Lib.hid (gath_yes (p := pW G xs) (f := fW xs) (k := k) (x := x) (by unfold pW; rw [HX.out]; exact HSV.out.symm) HX.out)
      generalize gath (pW G xs) (fW xs) k = F at hown hgl HG ⊢
      clear hs
      go_wp2_with fail
      rw [← HWA.out]
      go_wp2_with fail
      refine HC.out.mono ?_
      rintro e w5 ⟨rfl, B5⟩
      have hb5 := hba.trans (B5.mono (by omega))
      have hd5 := (B5.cell (p := ⟨wr.heap.size, 0, none⟩) (show wr.heap.size < wa.heap.size from by omega)).trans hd
      obtain ⟨A5, c5, rfl, O5⟩ := Own.of_row hown
      have O6 := O5.below hb5 (Nat.le_refl _)
      have hb6 := hb.trans (hb5.mono (by omega))
      have hN5 : N ≤ w5.heap.size := by have := hb6.size; omega
      clear hcell hown O5 hd
      go_wp2_with (at_builtin; refine wpList_push _ rfl _ _ 24 rfl N 3 i0 (.int .i64 0) 1 8 Try.underlying24 hi0 hz0 hz1 hz2 rfl (by decide) _ F.length (ints F) rfl O6.1 [.int .i64 x] rfl (one_int x) rfl (by omega) (by decide) hN5 ?_; intro v7 w7 hown7 hb7 hs7 hat7 hk7)
      have hown8 := push_rel HG.out hown7
      have hb8 := hb7 _ hb6
      go_wp2_with fail
      go_roundw
      case rel => exact ⟨k + 1, by omega, by go_num, hown8, hb8⟩
      case measure => simp [intOf]; omega

end Go.Proofs.Ytdllhdfoinobjaa
