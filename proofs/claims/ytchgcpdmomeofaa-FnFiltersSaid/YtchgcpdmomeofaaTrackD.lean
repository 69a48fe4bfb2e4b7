/-
  This file proves contracts of functions on tracks: the kept depths, the longest smooth part; the program's and the reference's return the same plain function.
  Conditions: each contract's own hypotheses (that a slice reads as a list, that it is not too long).
-/
import Derived.Test.YtchgcpdmomeofaaTrackA
import Derived.Test.YtchgcpdmomeofaaBase2
namespace Go.Proofs.Ytchgcpdmomeofaa
open Go.RowKit
set_option linter.unusedSimpArgs false
set_option linter.unusedVariables false

/-! ### the kept depths -/
def keepOk (ks : List Int) : Bool := ks.all fun x => x == 0 || x == 1
def pKeep (ks : List Int) (i : Nat) : Bool := ks.getD i 0 == 1
def fKeep (xs : List Int) (i : Nat) : Int := xs.getD i 0
def vKeptDepths (xs ks : List Int) : List Int × Bool :=
  if isTrk xs = true ∧ ks.length = xs.length ∧ keepOk ks = true then (gath (pKeep ks) (fKeep xs) ks.length, true) else ([], false)
theorem vKeptDepths_len0 (xs ks : List Int) : (vKeptDepths xs ks).1.length ≤ ks.length := by
  unfold vKeptDepths
  split
  · exact gath_le _ _ _
  · simp
theorem pKeep_is {ks : List Int} {k : Nat} {x : Int} (hx : ks[k]? = some x) {b : Bool} (h : (x == 1) = b) : pKeep ks k = b := by
  unfold pKeep
  rw [getD_of hx]
  exact h
theorem keepOk_step {ks : List Int} {k : Nat} {x : Int} (hx : ks[k]? = some x) (h : keepOk (ks.take k) = true) (hd : (x == 0 || x == 1) = true) : keepOk (ks.take (k + 1)) = true := by
  rw [take_snoc hx]
  unfold keepOk at h ⊢
  rw [List.all_append, h]
  simpa using hd
theorem keepOk_bad {ks : List Int} {k : Nat} {x : Int} (hx : ks[k]? = some x) (hd : (x == 0 || x == 1) = false) : keepOk ks = false := by
  unfold keepOk
  rw [List.all_eq_false]
  exact ⟨x, List.mem_of_getElem? hx, by rw [hd]; simp⟩

set_option maxHeartbeats 1000000 in
theorem iKeptDepths {A B : Option Addr} {c d lo hi lo' hi' : Nat} {xs ks : List Int} {w : World} (hr : RdI w lo hi A xs) (hl : xs.length ≤ 4194304) (hh : hi ≤ w.heap.size) (hr' : RdI w lo' hi' B ks) (hl' : ks.length ≤ 4194304) (hh' : hi' ≤ w.heap.size) :
    Calls Try.prog 14 #[.slice A xs.length c, .slice B ks.length d] w (RetLB (vKeptDepths xs ks).1 (vKeptDepths xs ks).2 w) := by
  obtain ⟨i0, hi0, hz0, hz1, hz2⟩ := info_parts int_info
  by_cases h1 : isTrk xs = true
  rotate_left
  · have h1' : isTrk xs = false := by simpa using h1
    clear h1
    have HE := Lib.hid (show vKeptDepths xs ks = ([], false) from by unfold vKeptDepths; rw [if_neg (by simp [h1'])])
    go_enter Try.func14, Try.ntmps14
    go_wp2_with fail
    refine (isTrack_any _ _ _ _ _ _ hr (by omega)).mono ?_
    rintro e w' ⟨rfl, rfl⟩
    go_wp2_with fail
    go_ret2
    rw [HE.out]
    exact retLB_nil _ _ _ (Below.refl _ _)
  by_cases h3 : ks.length = xs.length
  rotate_left
  · have h3' : ((ks.length : Int) != (xs.length : Int)) = true := by rw [bne_iff_ne]; omega
    have HE := Lib.hid (show vKeptDepths xs ks = ([], false) from by unfold vKeptDepths; rw [if_neg (by simp [h3])])
    clear h3
    go_enter Try.func14, Try.ntmps14
    go_wp2_with fail
    refine (isTrack_any _ _ _ _ _ _ hr (by omega)).mono ?_
    rintro e w' ⟨rfl, rfl⟩
    go_wp2_with fail
    go_ret2
    rw [HE.out]
    exact retLB_nil _ _ _ (Below.refl _ _)
  · have h3' : ((ks.length : Int) != (xs.length : Int)) = false := by rw [bne_eq_false_iff_eq]; omega
    have HL := Lib.hid h3
    clear h3
    go_enter Try.func14, Try.ntmps14
    go_wp2_with fail
    refine (isTrack_any _ _ _ _ _ _ hr (by omega)).mono ?_
    rintro e w' ⟨rfl, rfl⟩
    go_wp2_with fail
    go_loopw [6, 22] (fun v i wr => ∃ k : Nat, k ≤ ks.length ∧ i = .int .i64 k ∧ keepOk (ks.take k) = true ∧ wr.ownsRow w.heap.size 3 1 v (gath (pKeep ks) (fKeep xs) k).length (ints (gath (pKeep ks) (fKeep xs) k)) ∧ Below w.heap.size w wr) (fun _ i _ => ks.length - (intOf i).toNat)
    case atStart => exact ⟨0, Nat.zero_le _, rfl, rfl, row_empty _ _ _, below_alloc1 _ _⟩
    case round =>
      obtain ⟨k, hk, rfl, hok, hown, hb⟩ := hrel
      have HK := Lib.hid hok
      clear hok
      have hgl := gath_le (pKeep ks) (fKeep xs) k
      by_cases hlt : k < ks.length
      · have hlt' : k < xs.length := by have := HL.out; omega
        obtain ⟨b, off, x, rfl, hx, hcell⟩ := (hr'.below hb hh').geti hlt
        obtain ⟨b', off', y, rfl, hy, hcell'⟩ := (hr.below hb hh).geti hlt'
        have HX := Lib.hid hx
        have HY := Lib.hid (show fKeep xs k = y from getD_of hy)
        clear hx hy
        by_cases hx0 : x = 0
        · subst hx0
          have HP := Lib.hid (pKeep_is HX.out (b := false) (by decide))
          have HN := Lib.hid (keepOk_step HX.out HK.out (by decide))
          go_wp2_with fail
          go_roundw
          case rel => exact ⟨k + 1, by omega, by go_num, HN.out, by rw [gath_no HP.out]; exact hown, hb⟩
          case measure => simp [intOf]; omega
        by_cases hx1 : x = 1
        · subst hx1
          have HP := Lib.hid (pKeep_is HX.out (b := true) (by decide))
          have HN := Lib.hid (keepOk_step HX.out HK.out (by decide))
          clear hx0
          go_wp2_with (at_builtin; refine wpList_push _ rfl _ _ 24 rfl w.heap.size 3 i0 (.int .i64 0) 1 8 Try.underlying24 hi0 hz0 hz1 hz2 rfl (by decide) _ _ _ rfl hown [.int .i64 y] rfl (one_int _) rfl (by omega) (by decide) hb.size ?_; intro v1 w1 hown1 hb1 hs1 _ _)
          go_roundw
          case rel => exact ⟨k + 1, by omega, by go_num, HN.out, push_rel (gath_yes HP.out HY.out) hown1, hb1 _ hb⟩
          case measure => simp [intOf]; omega
        · have e0 : (x == 0) = false := by simpa using hx0
          have e1 : (x == 1) = false := by simpa using hx1
          have HE := Lib.hid (show vKeptDepths xs ks = ([], false) from by unfold vKeptDepths; rw [if_neg (by simp [keepOk_bad HX.out (show (x == 0 || x == 1) = false by rw [e0, e1]; rfl)])])
          clear hx0 hx1
          go_wp2_with fail
          go_ret2
          rw [HE.out]
          exact retLB_nil _ _ _ hb
      · obtain rfl : k = ks.length := by omega
        have HE := Lib.hid (show vKeptDepths xs ks = (gath (pKeep ks) (fKeep xs) ks.length, true) from by unfold vKeptDepths; rw [if_pos ⟨h1, HL.out, by have := HK.out; rw [List.take_length] at this; exact this⟩])
        go_wp2_with fail
        go_ret2
        rw [HE.out]
        exact retLB_of hown hb

set_option maxHeartbeats 1000000 in
theorem sKeptDepths {A B : Option Addr} {c d lo hi lo' hi' : Nat} {xs ks : List Int} {w : World} (hr : RdI w lo hi A xs) (hl : xs.length ≤ 4194304) (hh : hi ≤ w.heap.size) (hr' : RdI w lo' hi' B ks) (hl' : ks.length ≤ 4194304) (hh' : hi' ≤ w.heap.size) :
    Calls Try.prog 21 #[.slice A xs.length c, .slice B ks.length d] w (RetLB (vKeptDepths xs ks).1 (vKeptDepths xs ks).2 w) := by
  obtain ⟨i0, hi0, hz0, hz1, hz2⟩ := info_parts int_info
  by_cases h1 : isTrk xs = true
  rotate_left
  · have h1' : isTrk xs = false := by simpa using h1
    clear h1
    have HE := Lib.hid (show vKeptDepths xs ks = ([], false) from by unfold vKeptDepths; rw [if_neg (by simp [h1'])])
    go_enter Try.func21, Try.ntmps21
    go_wp2_with fail
    refine (l12Good_any _ _ _ _ _ _ (hr.below (below_alloc1 _ _) hh) (by omega)).mono ?_
    rintro e w' ⟨rfl, rfl⟩
    go_wp2_with fail
    go_ret2
    rw [HE.out]
    exact retLB_of (row_empty _ _ _) (below_alloc1 _ _)
  by_cases h3 : ks.length = xs.length
  rotate_left
  · have h3' : ((ks.length : Int) != (xs.length : Int)) = true := by rw [bne_iff_ne]; omega
    have HE := Lib.hid (show vKeptDepths xs ks = ([], false) from by unfold vKeptDepths; rw [if_neg (by simp [h3])])
    clear h3
    go_enter Try.func21, Try.ntmps21
    go_wp2_with fail
    refine (l12Good_any _ _ _ _ _ _ (hr.below (below_alloc1 _ _) hh) (by omega)).mono ?_
    rintro e w' ⟨rfl, rfl⟩
    go_wp2_with fail
    go_ret2
    rw [HE.out]
    exact retLB_of (row_empty _ _ _) (below_alloc1 _ _)
  · have h3' : ((ks.length : Int) != (xs.length : Int)) = false := by rw [bne_eq_false_iff_eq]; omega
    have HL := Lib.hid h3
    clear h3
    go_enter Try.func21, Try.ntmps21
    go_wp2_with fail
    refine (l12Good_any _ _ _ _ _ _ (hr.below (below_alloc1 _ _) hh) (by omega)).mono ?_
    rintro e w' ⟨rfl, rfl⟩
    go_wp2_with fail
    go_loopw [6, 7] (fun v i wr => ∃ k : Nat, k ≤ ks.length ∧ i = .int .i64 k ∧ keepOk (ks.take k) = true ∧ wr.ownsRow w.heap.size 3 1 v (gath (pKeep ks) (fKeep xs) k).length (ints (gath (pKeep ks) (fKeep xs) k)) ∧ Below w.heap.size w wr) (fun _ i _ => ks.length - (intOf i).toNat)
    case atStart => exact ⟨0, Nat.zero_le _, rfl, rfl, row_empty _ _ _, below_alloc1 _ _⟩
    case round =>
      obtain ⟨k, hk, rfl, hok, hown, hb⟩ := hrel
      have HK := Lib.hid hok
      clear hok
      have hgl := gath_le (pKeep ks) (fKeep xs) k
      by_cases hlt : k < ks.length
      · have hlt' : k < xs.length := by have := HL.out; omega
        obtain ⟨b, off, x, rfl, hx, hcell⟩ := (hr'.below hb hh').geti hlt
        obtain ⟨b', off', y, rfl, hy, hcell'⟩ := (hr.below hb hh).geti hlt'
        have HX := Lib.hid hx
        have HY := Lib.hid (show fKeep xs k = y from getD_of hy)
        clear hx hy
        by_cases hx0 : x = 0
        · subst hx0
          have HP := Lib.hid (pKeep_is HX.out (b := false) (by decide))
          have HN := Lib.hid (keepOk_step HX.out HK.out (by decide))
          have hR : inR 0 0 1 = true := by decide
          go_wp2_with (go_at_call 55; refine (l1In_any _ _ _ _).mono ?_; rintro e w' ⟨rfl, rfl⟩)
          go_roundw
          case rel => exact ⟨k + 1, by omega, by go_num, HN.out, by rw [gath_no HP.out]; exact hown, hb⟩
          case measure => simp [intOf]; omega
        by_cases hx1 : x = 1
        · subst hx1
          have HP := Lib.hid (pKeep_is HX.out (b := true) (by decide))
          have HN := Lib.hid (keepOk_step HX.out HK.out (by decide))
          clear hx0
          have hR : inR 1 0 1 = true := by decide
          go_wp2_with (first | (go_at_call 55; refine (l1In_any _ _ _ _).mono ?_; rintro e w' ⟨rfl, rfl⟩) | (at_builtin; refine wpList_push _ rfl _ _ 24 rfl w.heap.size 3 i0 (.int .i64 0) 1 8 Try.underlying24 hi0 hz0 hz1 hz2 rfl (by decide) _ _ _ rfl hown [.int .i64 y] rfl (one_int _) rfl (by omega) (by decide) hb.size ?_; intro v1 w1 hown1 hb1 hs1 _ _))
          go_roundw
          case rel => exact ⟨k + 1, by omega, by go_num, HN.out, push_rel (gath_yes HP.out HY.out) hown1, hb1 _ hb⟩
          case measure => simp [intOf]; omega
        · have e0 : (x == 0) = false := by simpa using hx0
          have e1 : (x == 1) = false := by simpa using hx1
          have HE := Lib.hid (show vKeptDepths xs ks = ([], false) from by unfold vKeptDepths; rw [if_neg (by simp [keepOk_bad HX.out (show (x == 0 || x == 1) = false by rw [e0, e1]; rfl)])])
          have hR : inR x 0 1 = false := by rw [inR_false]; omega
          clear hx0 hx1
          go_wp2_with (go_at_call 55; refine (l1In_any _ _ _ _).mono ?_; rintro e w' ⟨rfl, rfl⟩)
          go_ret2
          rw [HE.out]
          exact retLB_of (row_empty_at _ _ _ hb.size) (hb.alloc hb.size _)
      · obtain rfl : k = ks.length := by omega
        have HE := Lib.hid (show vKeptDepths xs ks = (gath (pKeep ks) (fKeep xs) ks.length, true) from by unfold vKeptDepths; rw [if_pos ⟨h1, HL.out, by have := HK.out; rw [List.take_length] at this; exact this⟩])
        go_wp2_with fail
        go_ret2
        rw [HE.out]
        exact retLB_of hown hb

/-! ### the longest smooth part -/
/-- Behind k depths: where the best part begins, how long it is, where the present one begins. -/
def smo (xs : List Int) (lim : Int) : Nat → Nat × Nat × Nat
  | 0 => (0, 0, 0)
  | k + 1 =>
    let s := smo xs lim k
    let g := if 0 < k ∧ lim < absI (xs.getD k 0 - xs.getD (k - 1) 0) then k else s.2.2
    if s.2.1 < k - g + 1 then (g, k - g + 1, g) else (s.1, s.2.1, g)
def vLongestSmooth (xs : List Int) (lim : Int) : Int × Int × Bool :=
  if isTrk xs = true ∧ inR lim 1 5000 = true then (((smo xs lim xs.length).1 : Int), ((smo xs lim xs.length).2.1 : Int), true) else (0, 0, false)
theorem smo_step {xs : List Int} {lim : Int} {k b m g g' : Nat} (h : smo xs lim k = (b, m, g)) (hg : (if 0 < k ∧ lim < absI (xs.getD k 0 - xs.getD (k - 1) 0) then k else g) = g') :
    smo xs lim (k + 1) = if m < k - g' + 1 then (g', k - g' + 1, g') else (b, m, g') := by
  rw [smo, h]
  simp only [hg]
theorem smo_inv (xs : List Int) (lim : Int) (k : Nat) : (smo xs lim k).1 ≤ k ∧ (smo xs lim k).2.1 ≤ k ∧ (smo xs lim k).2.2 ≤ k := by
  induction k with
  | zero => simp [smo]
  | succ k ih =>
    obtain ⟨⟨b, m, g⟩, hs⟩ : ∃ s, smo xs lim k = s := ⟨_, rfl⟩
    rw [hs] at ih
    obtain ⟨g', hg⟩ : ∃ g', (if 0 < k ∧ lim < absI (xs.getD k 0 - xs.getD (k - 1) 0) then k else g) = g' := ⟨_, rfl⟩
    rw [smo_step hs hg]
    have hle : g' ≤ k := by rw [← hg]; split <;> simp at ih ⊢ <;> omega
    simp at ih
    split <;> simp <;> omega

set_option maxHeartbeats 2000000 in
theorem iLongestSmooth {A : Option Addr} {c lo hi : Nat} {xs : List Int} {lim : Int} {w : World} (hr : RdI w lo hi A xs) (hl : xs.length ≤ 4194304) (hh : hi ≤ w.heap.size) :
    Calls Try.prog 32 #[.slice A xs.length c, .int .i64 lim] w (RetIIB (vLongestSmooth xs lim).1 (vLongestSmooth xs lim).2.1 (vLongestSmooth xs lim).2.2 w) := by
  by_cases h1 : isTrk xs = true
  rotate_left
  · have h1' : isTrk xs = false := by simpa using h1
    clear h1
    have HE := Lib.hid (show vLongestSmooth xs lim = (0, 0, false) from by unfold vLongestSmooth; rw [if_neg (by simp [h1'])])
    go_enter Try.func32, Try.ntmps32
    go_wp2_with (first | (go_at_call 10; refine (isTrack_any _ _ _ _ _ _ hr (by omega)).mono ?_; rintro e w' ⟨rfl, rfl⟩) | (go_at_call 40; refine (isLimit_any _ _).mono ?_; rintro e w' ⟨rfl, rfl⟩))
    go_ret3
    rw [HE.out]
    exact ⟨rfl, Below.refl _ _⟩
  by_cases h2 : inR lim 1 5000 = true
  rotate_left
  · have h2' : inR lim 1 5000 = false := by simpa using h2
    clear h2
    have HE := Lib.hid (show vLongestSmooth xs lim = (0, 0, false) from by unfold vLongestSmooth; rw [if_neg (by simp [h2'])])
    go_enter Try.func32, Try.ntmps32
    go_wp2_with (first | (go_at_call 10; refine (isTrack_any _ _ _ _ _ _ hr (by omega)).mono ?_; rintro e w' ⟨rfl, rfl⟩) | (go_at_call 40; refine (isLimit_any _ _).mono ?_; rintro e w' ⟨rfl, rfl⟩))
    go_ret3
    rw [HE.out]
    exact ⟨rfl, Below.refl _ _⟩
  have HE := Lib.hid (show vLongestSmooth xs lim = (((smo xs lim xs.length).1 : Int), ((smo xs lim xs.length).2.1 : Int), true) from by unfold vLongestSmooth; rw [if_pos ⟨h1, h2⟩])
  have HD := Lib.hid (isTrk_all h1).1
  have hn3 := (isTrk_all h1).2.1
  go_enter Try.func32, Try.ntmps32
  go_wp2_with (first | (go_at_call 10; refine (isTrack_any _ _ _ _ _ _ hr (by omega)).mono ?_; rintro e w' ⟨rfl, rfl⟩) | (go_at_call 40; refine (isLimit_any _ _).mono ?_; rintro e w' ⟨rfl, rfl⟩))
  go_loopw [7, 8, 9, 21] (fun tb tm tf i wr => ∃ k b m g : Nat, k ≤ xs.length ∧ i = .int .i64 k ∧ tb = .int .i64 b ∧ tm = .int .i64 m ∧ tf = .int .i64 g ∧ smo xs lim k = (b, m, g) ∧ Below w.heap.size w wr) (fun _ _ _ i _ => xs.length - (intOf i).toNat)
  case atStart => exact ⟨0, 0, 0, 0, Nat.zero_le _, rfl, rfl, rfl, rfl, rfl, Below.refl _ _⟩
  case round =>
    obtain ⟨k, b, m, g, hk, rfl, rfl, rfl, rfl, hs, hb⟩ := hrel
    have hinv := smo_inv xs lim k
    rw [hs] at hinv
    simp only at hinv
    obtain ⟨hi1, hi2, hi3⟩ := hinv
    have HS := Lib.hid hs
    clear hs
    by_cases hlt : k < xs.length
    rotate_left
    · obtain rfl : k = xs.length := by omega
      go_wp2_with fail
      go_ret3
      rw [HE.out, HS.out]
      exact ⟨rfl, hb⟩
    rcases Nat.eq_zero_or_pos k with hz | hpos
    · have HG := Lib.hid (show (if 0 < k ∧ lim < absI (xs.getD k 0 - xs.getD (k - 1) 0) then k else g) = g from by rw [if_neg (by omega)])
      have hd : decide (0 < k) = false := by simp; omega
      have HZ := Lib.hid hz
      clear hz
      by_cases hm : (m : Int) < (k : Int) - (g : Int) + 1
      · have HN := Lib.hid (show smo xs lim (k + 1) = (g, k - g + 1, g) from by rw [smo_step HS.out HG.out, if_pos (by omega)])
        go_wp2_with fail
        go_quiet (fail)
        go_wp2_with fail
        go_roundw
        case rel => exact ⟨k + 1, g, k - g + 1, g, by omega, by go_num, rfl, by congr 1; omega, rfl, HN.out, below_drewN hb _⟩
        case measure => simp [intOf]; omega
      · have HN := Lib.hid (show smo xs lim (k + 1) = (b, m, g) from by rw [smo_step HS.out HG.out, if_neg (by omega)])
        have hm' : (k : Int) - (g : Int) + 1 ≤ (m : Int) := by omega
        clear hm
        go_wp2_with fail
        go_quiet (fail)
        go_wp2_with fail
        go_roundw
        case rel => exact ⟨k + 1, b, m, g, by omega, by go_num, rfl, rfl, rfl, HN.out, below_drewN hb _⟩
        case measure => simp [intOf]; omega
    · obtain ⟨ba, off, x, rfl, hx, hcell⟩ := (hr.below hb hh).geti hlt
      obtain ⟨ba2, off2, y, hA, hy, hcell'⟩ := (hr.below hb hh).geti (show k - 1 < xs.length by omega)
      obtain ⟨rfl, rfl⟩ : ba = ba2 ∧ off = off2 := by cases hA; exact ⟨rfl, rfl⟩
      have hbx := allDepth_get HD.out hx
      have hby := allDepth_get HD.out hy
      have hab := absI_nonneg (x - y)
      have hab' := absI_le (n := x - y) (b := 21000) (by omega) (by omega)
      have HX := Lib.hid (show xs.getD k 0 - xs.getD (k - 1) 0 = x - y from by rw [getD_of hx, getD_of hy])
      clear hx hy hA
      have hg0 : (0 : Int) < (k : Int) := by omega
      by_cases hov : lim < absI (x - y)
      · have HG := Lib.hid (show (if 0 < k ∧ lim < absI (xs.getD k 0 - xs.getD (k - 1) 0) then k else g) = k from by rw [HX.out, if_pos ⟨hpos, hov⟩])
        by_cases hm : (m : Int) < (k : Int) - (k : Int) + 1
        · have HN := Lib.hid (show smo xs lim (k + 1) = (k, k - k + 1, k) from by rw [smo_step HS.out HG.out, if_pos (by omega)])
          have q1 : (k : Int) < (xs.length : Int) := by omega
          have q2 : (0 : Int) ≤ (k : Int) - 1 := by omega
          have q3 : ((k : Int) - 1).toNat = k - 1 := by omega
          have q7 : (k : Int) - 1 < (xs.length : Int) := by omega
          have q4 : IntKind.i64.wrap ((k : Int) - 1) = (k : Int) - 1 := wr64 (by omega) (by omega)
          have q5 : IntKind.i64.wrap (x - y) = x - y := wr64 (by omega) (by omega)
          go_wp2_with fail
          go_quiet ((go_at_call 60; exact quiet_left (absOf_any _ _ (by omega) (by omega))))
          clear q1 q2 q3 q4 q5 q7
          go_wp2_with fail
          go_roundw
          case rel => exact ⟨k + 1, k, k - k + 1, k, by omega, by go_num, rfl, by congr 1; omega, rfl, HN.out, below_drewN hb _⟩
          case measure => simp [intOf]; omega
        · have HN := Lib.hid (show smo xs lim (k + 1) = (b, m, k) from by rw [smo_step HS.out HG.out, if_neg (by omega)])
          have hm' : (k : Int) - (k : Int) + 1 ≤ (m : Int) := by omega
          clear hm
          have q1 : (k : Int) < (xs.length : Int) := by omega
          have q2 : (0 : Int) ≤ (k : Int) - 1 := by omega
          have q3 : ((k : Int) - 1).toNat = k - 1 := by omega
          have q7 : (k : Int) - 1 < (xs.length : Int) := by omega
          have q4 : IntKind.i64.wrap ((k : Int) - 1) = (k : Int) - 1 := wr64 (by omega) (by omega)
          have q5 : IntKind.i64.wrap (x - y) = x - y := wr64 (by omega) (by omega)
          go_wp2_with fail
          go_quiet ((go_at_call 60; exact quiet_left (absOf_any _ _ (by omega) (by omega))))
          clear q1 q2 q3 q4 q5 q7
          go_wp2_with fail
          go_roundw
          case rel => exact ⟨k + 1, b, m, k, by omega, by go_num, rfl, rfl, rfl, HN.out, below_drewN hb _⟩
          case measure => simp [intOf]; omega
      · have HG := Lib.hid (show (if 0 < k ∧ lim < absI (xs.getD k 0 - xs.getD (k - 1) 0) then k else g) = g from by rw [HX.out, if_neg (by omega)])
        have hov' : absI (x - y) ≤ lim := by omega
        clear hov
        by_cases hm : (m : Int) < (k : Int) - (g : Int) + 1
        · have HN := Lib.hid (show smo xs lim (k + 1) = (g, k - g + 1, g) from by rw [smo_step HS.out HG.out, if_pos (by omega)])
          have q1 : (k : Int) < (xs.length : Int) := by omega
          have q2 : (0 : Int) ≤ (k : Int) - 1 := by omega
          have q3 : ((k : Int) - 1).toNat = k - 1 := by omega
          have q7 : (k : Int) - 1 < (xs.length : Int) := by omega
          have q4 : IntKind.i64.wrap ((k : Int) - 1) = (k : Int) - 1 := wr64 (by omega) (by omega)
          have q5 : IntKind.i64.wrap (x - y) = x - y := wr64 (by omega) (by omega)
          go_wp2_with fail
          go_quiet ((go_at_call 60; exact quiet_left (absOf_any _ _ (by omega) (by omega))))
          clear q1 q2 q3 q4 q5 q7
          go_wp2_with fail
          go_roundw
          case rel => exact ⟨k + 1, g, k - g + 1, g, by omega, by go_num, rfl, by congr 1; omega, rfl, HN.out, below_drewN hb _⟩
          case measure => simp [intOf]; omega
        · have HN := Lib.hid (show smo xs lim (k + 1) = (b, m, g) from by rw [smo_step HS.out HG.out, if_neg (by omega)])
          have hm' : (k : Int) - (g : Int) + 1 ≤ (m : Int) := by omega
          clear hm
          have q1 : (k : Int) < (xs.length : Int) := by omega
          have q2 : (0 : Int) ≤ (k : Int) - 1 := by omega
          have q3 : ((k : Int) - 1).toNat = k - 1 := by omega
          have q7 : (k : Int) - 1 < (xs.length : Int) := by omega
          have q4 : IntKind.i64.wrap ((k : Int) - 1) = (k : Int) - 1 := wr64 (by omega) (by omega)
          have q5 : IntKind.i64.wrap (x - y) = x - y := wr64 (by omega) (by omega)
          go_wp2_with fail
          go_quiet ((go_at_call 60; exact quiet_left (absOf_any _ _ (by omega) (by omega))))
          clear q1 q2 q3 q4 q5 q7
          go_wp2_with fail
          go_roundw
          case rel => exact ⟨k + 1, b, m, g, by omega, by go_num, rfl, rfl, rfl, HN.out, below_drewN hb _⟩
          case measure => simp [intOf]; omega

set_option maxHeartbeats 2000000 in
theorem sLongestSmooth {A : Option Addr} {c lo hi : Nat} {xs : List Int} {lim : Int} {w : World} (hr : RdI w lo hi A xs) (hl : xs.length ≤ 4194304) (hh : hi ≤ w.heap.size) :
    Calls Try.prog 33 #[.slice A xs.length c, .int .i64 lim] w (RetIIB (vLongestSmooth xs lim).1 (vLongestSmooth xs lim).2.1 (vLongestSmooth xs lim).2.2 w) := by
  by_cases h1 : isTrk xs = true
  rotate_left
  · have h1' : isTrk xs = false := by simpa using h1
    clear h1
    have HE := Lib.hid (show vLongestSmooth xs lim = (0, 0, false) from by unfold vLongestSmooth; rw [if_neg (by simp [h1'])])
    go_enter Try.func33, Try.ntmps33
    go_wp2_with (go_at_call 42; refine (l12Asked_any _ _ _ _ _ _ _ hr (by omega)).mono ?_; rintro e w' ⟨rfl, rfl⟩)
    go_ret3
    rw [HE.out]
    exact ⟨rfl, Below.refl _ _⟩
  by_cases h2 : inR lim 1 5000 = true
  rotate_left
  · have h2' : inR lim 1 5000 = false := by simpa using h2
    clear h2
    have HE := Lib.hid (show vLongestSmooth xs lim = (0, 0, false) from by unfold vLongestSmooth; rw [if_neg (by simp [h2'])])
    go_enter Try.func33, Try.ntmps33
    go_wp2_with (go_at_call 42; refine (l12Asked_any _ _ _ _ _ _ _ hr (by omega)).mono ?_; rintro e w' ⟨rfl, rfl⟩)
    go_ret3
    rw [HE.out]
    exact ⟨rfl, Below.refl _ _⟩
  have HE := Lib.hid (show vLongestSmooth xs lim = (((smo xs lim xs.length).1 : Int), ((smo xs lim xs.length).2.1 : Int), true) from by unfold vLongestSmooth; rw [if_pos ⟨h1, h2⟩])
  have HD := Lib.hid (isTrk_all h1).1
  have hn3 := (isTrk_all h1).2.1
  go_enter Try.func33, Try.ntmps33
  go_wp2_with (go_at_call 42; refine (l12Asked_any _ _ _ _ _ _ _ hr (by omega)).mono ?_; rintro e w' ⟨rfl, rfl⟩)
  go_loopw [7, 8, 9, 10] (fun tb tm tf i wr => ∃ k b m g : Nat, k ≤ xs.length ∧ i = .int .i64 k ∧ tb = .int .i64 b ∧ tm = .int .i64 m ∧ tf = .int .i64 g ∧ smo xs lim k = (b, m, g) ∧ Below w.heap.size w wr) (fun _ _ _ i _ => xs.length - (intOf i).toNat)
  case atStart => exact ⟨0, 0, 0, 0, Nat.zero_le _, rfl, rfl, rfl, rfl, rfl, Below.refl _ _⟩
  case round =>
    obtain ⟨k, b, m, g, hk, rfl, rfl, rfl, rfl, hs, hb⟩ := hrel
    have hinv := smo_inv xs lim k
    rw [hs] at hinv
    simp only at hinv
    obtain ⟨hi1, hi2, hi3⟩ := hinv
    have HS := Lib.hid hs
    clear hs
    by_cases hlt : k < xs.length
    rotate_left
    · obtain rfl : k = xs.length := by omega
      go_wp2_with fail
      go_ret3
      rw [HE.out, HS.out]
      exact ⟨rfl, hb⟩
    rcases Nat.eq_zero_or_pos k with hz | hpos
    · have HG := Lib.hid (show (if 0 < k ∧ lim < absI (xs.getD k 0 - xs.getD (k - 1) 0) then k else g) = g from by rw [if_neg (by omega)])
      have hd : decide (0 < k) = false := by simp; omega
      have HZ := Lib.hid hz
      clear hz
      by_cases hm : (m : Int) < (k : Int) - (g : Int) + 1
      · have HN := Lib.hid (show smo xs lim (k + 1) = (g, k - g + 1, g) from by rw [smo_step HS.out HG.out, if_pos (by omega)])
        go_wp2_with fail
        go_quiet (fail)
        go_wp2_with fail
        go_roundw
        case rel => exact ⟨k + 1, g, k - g + 1, g, by omega, by go_num, rfl, by congr 1; omega, rfl, HN.out, below_drewN hb _⟩
        case measure => simp [intOf]; omega
      · have HN := Lib.hid (show smo xs lim (k + 1) = (b, m, g) from by rw [smo_step HS.out HG.out, if_neg (by omega)])
        have hm' : (k : Int) - (g : Int) + 1 ≤ (m : Int) := by omega
        clear hm
        go_wp2_with fail
        go_quiet (fail)
        go_wp2_with fail
        go_roundw
        case rel => exact ⟨k + 1, b, m, g, by omega, by go_num, rfl, rfl, rfl, HN.out, below_drewN hb _⟩
        case measure => simp [intOf]; omega
    · obtain ⟨ba, off, x, rfl, hx, hcell⟩ := (hr.below hb hh).geti hlt
      obtain ⟨ba2, off2, y, hA, hy, hcell'⟩ := (hr.below hb hh).geti (show k - 1 < xs.length by omega)
      obtain ⟨rfl, rfl⟩ : ba = ba2 ∧ off = off2 := by cases hA; exact ⟨rfl, rfl⟩
      have hbx := allDepth_get HD.out hx
      have hby := allDepth_get HD.out hy
      have hab := absI_nonneg (x - y)
      have hab' := absI_le (n := x - y) (b := 21000) (by omega) (by omega)
      have HX := Lib.hid (show xs.getD k 0 - xs.getD (k - 1) 0 = x - y from by rw [getD_of hx, getD_of hy])
      clear hx hy hA
      have hg0 : (0 : Int) < (k : Int) := by omega
      by_cases hov : lim < absI (x - y)
      · have HG := Lib.hid (show (if 0 < k ∧ lim < absI (xs.getD k 0 - xs.getD (k - 1) 0) then k else g) = k from by rw [HX.out, if_pos ⟨hpos, hov⟩])
        by_cases hm : (m : Int) < (k : Int) - (k : Int) + 1
        · have HN := Lib.hid (show smo xs lim (k + 1) = (k, k - k + 1, k) from by rw [smo_step HS.out HG.out, if_pos (by omega)])
          have q1 : (k : Int) < (xs.length : Int) := by omega
          have q2 : (0 : Int) ≤ (k : Int) - 1 := by omega
          have q3 : ((k : Int) - 1).toNat = k - 1 := by omega
          have q7 : (k : Int) - 1 < (xs.length : Int) := by omega
          have q4 : IntKind.i64.wrap ((k : Int) - 1) = (k : Int) - 1 := wr64 (by omega) (by omega)
          have q5 : IntKind.i64.wrap (x - y) = x - y := wr64 (by omega) (by omega)
          go_wp2_with fail
          go_quiet ((go_at_call 61; exact quiet_left (l10Size_any _ _ (by omega) (by omega))))
          clear q1 q2 q3 q4 q5 q7
          go_wp2_with fail
          go_roundw
          case rel => exact ⟨k + 1, k, k - k + 1, k, by omega, by go_num, rfl, by congr 1; omega, rfl, HN.out, below_drewN hb _⟩
          case measure => simp [intOf]; omega
        · have HN := Lib.hid (show smo xs lim (k + 1) = (b, m, k) from by rw [smo_step HS.out HG.out, if_neg (by omega)])
          have hm' : (k : Int) - (k : Int) + 1 ≤ (m : Int) := by omega
          clear hm
          have q1 : (k : Int) < (xs.length : Int) := by omega
          have q2 : (0 : Int) ≤ (k : Int) - 1 := by omega
          have q3 : ((k : Int) - 1).toNat = k - 1 := by omega
          have q7 : (k : Int) - 1 < (xs.length : Int) := by omega
          have q4 : IntKind.i64.wrap ((k : Int) - 1) = (k : Int) - 1 := wr64 (by omega) (by omega)
          have q5 : IntKind.i64.wrap (x - y) = x - y := wr64 (by omega) (by omega)
          go_wp2_with fail
          go_quiet ((go_at_call 61; exact quiet_left (l10Size_any _ _ (by omega) (by omega))))
          clear q1 q2 q3 q4 q5 q7
          go_wp2_with fail
          go_roundw
          case rel => exact ⟨k + 1, b, m, k, by omega, by go_num, rfl, rfl, rfl, HN.out, below_drewN hb _⟩
          case measure => simp [intOf]; omega
      · have HG := Lib.hid (show (if 0 < k ∧ lim < absI (xs.getD k 0 - xs.getD (k - 1) 0) then k else g) = g from by rw [HX.out, if_neg (by omega)])
        have hov' : absI (x - y) ≤ lim := by omega
        clear hov
        by_cases hm : (m : Int) < (k : Int) - (g : Int) + 1
        · have HN := Lib.hid (show smo xs lim (k + 1) = (g, k - g + 1, g) from by rw [smo_step HS.out HG.out, if_pos (by omega)])
          have q1 : (k : Int) < (xs.length : Int) := by omega
          have q2 : (0 : Int) ≤ (k : Int) - 1 := by omega
          have q3 : ((k : Int) - 1).toNat = k - 1 := by omega
          have q7 : (k : Int) - 1 < (xs.length : Int) := by omega
          have q4 : IntKind.i64.wrap ((k : Int) - 1) = (k : Int) - 1 := wr64 (by omega) (by omega)
          have q5 : IntKind.i64.wrap (x - y) = x - y := wr64 (by omega) (by omega)
          go_wp2_with fail
          go_quiet ((go_at_call 61; exact quiet_left (l10Size_any _ _ (by omega) (by omega))))
          clear q1 q2 q3 q4 q5 q7
          go_wp2_with fail
          go_roundw
          case rel => exact ⟨k + 1, g, k - g + 1, g, by omega, by go_num, rfl, by congr 1; omega, rfl, HN.out, below_drewN hb _⟩
          case measure => simp [intOf]; omega
        · have HN := Lib.hid (show smo xs lim (k + 1) = (b, m, g) from by rw [smo_step HS.out HG.out, if_neg (by omega)])
          have hm' : (k : Int) - (g : Int) + 1 ≤ (m : Int) := by omega
          clear hm
          have q1 : (k : Int) < (xs.length : Int) := by omega
          have q2 : (0 : Int) ≤ (k : Int) - 1 := by omega
          have q3 : ((k : Int) - 1).toNat = k - 1 := by omega
          have q7 : (k : Int) - 1 < (xs.length : Int) := by omega
          have q4 : IntKind.i64.wrap ((k : Int) - 1) = (k : Int) - 1 := wr64 (by omega) (by omega)
          have q5 : IntKind.i64.wrap (x - y) = x - y := wr64 (by omega) (by omega)
          go_wp2_with fail
          go_quiet ((go_at_call 61; exact quiet_left (l10Size_any _ _ (by omega) (by omega))))
          clear q1 q2 q3 q4 q5 q7
          go_wp2_with fail
          go_roundw
          case rel => exact ⟨k + 1, b, m, g, by omega, by go_num, rfl, rfl, rfl, HN.out, below_drewN hb _⟩
          case measure => simp [intOf]; omega

end Go.Proofs.Ytchgcpdmomeofaa
