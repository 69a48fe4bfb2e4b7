/-
  This file proves contracts of ShoalFilter, of the program and of the reference, and of slices.Min: each depth is replaced by the least of its window.
  Conditions: each contract's own hypotheses (that a slice reads as a list, that it is not too long).
-/
import Derived.Test.YtchgcpdmomeofaaTrackA
import Derived.Test.YtchgcpdmomeofaaBase2
namespace Go.Proofs.Ytchgcpdmomeofaa
open Go.RowKit
set_option linter.unusedSimpArgs false
set_option linter.unusedVariables false

theorem l1Least_any (a b : Int) (w : World) : Calls Try.prog 59 #[.int .i64 a, .int .i64 b] w fun e w' => e = .returned (.int .i64 (leastI a b)) ∧ w = w' := by
  by_cases h : a < b
  · go_enter Try.func59, Try.ntmps59
    go_wp2
    go_ret
    exact ⟨ret_int (by rw [leastI, if_pos h]), rfl⟩
  · go_enter Try.func59, Try.ntmps59
    go_wp2
    go_ret
    exact ⟨ret_int (by rw [leastI, if_neg (by omega)]), rfl⟩

/-! ### the least of a list -/
def foldMin (a : Int) (l : List Int) : Int := l.foldl (fun m y => leastI m y) a
theorem foldMin_snoc (a : Int) (l : List Int) (y : Int) : foldMin a (l ++ [y]) = leastI (foldMin a l) y := by simp [foldMin]
theorem foldMin_le (a : Int) (l : List Int) : foldMin a l ≤ a ∧ ∀ y ∈ l, foldMin a l ≤ y := by
  induction l generalizing a with
  | nil => simp [foldMin]
  | cons y l ih =>
    have h := ih (leastI a y)
    have e : foldMin a (y :: l) = foldMin (leastI a y) l := rfl
    rw [e]
    have h1 : leastI a y ≤ a ∧ leastI a y ≤ y := by unfold leastI; split <;> omega
    refine ⟨by omega, fun z hz => ?_⟩
    rcases List.mem_cons.1 hz with rfl | hz
    · omega
    · exact h.2 z hz
theorem foldMin_mem (a : Int) (l : List Int) : foldMin a l = a ∨ foldMin a l ∈ l := by
  induction l generalizing a with
  | nil => exact .inl rfl
  | cons y l ih =>
    have e : foldMin a (y :: l) = foldMin (leastI a y) l := rfl
    rw [e]
    rcases ih (leastI a y) with h | h
    · rw [h]
      unfold leastI
      split
      · exact .inl rfl
      · exact .inr (by simp)
    · exact .inr (List.mem_cons_of_mem _ h)
/-- Begun at any of the list's own numbers, the least is the same. -/
theorem foldMin_same {a b : Int} {l : List Int} (ha : a ∈ l) (hb : b ∈ l) : foldMin a l = foldMin b l := by
  have h1 := foldMin_le a l
  have h2 := foldMin_le b l
  have m1 : foldMin a l ∈ l := by rcases foldMin_mem a l with h | h; (rw [h]; exact ha); exact h
  have m2 : foldMin b l ∈ l := by rcases foldMin_mem b l with h | h; (rw [h]; exact hb); exact h
  have := h1.2 _ m2
  have := h2.2 _ m1
  omega
theorem foldMin_head (a : Int) (l : List Int) : foldMin a (a :: l) = foldMin a l := by
  have e : foldMin a (a :: l) = foldMin (leastI a a) l := rfl
  rw [e]
  unfold leastI
  simp

/-- The window of a depth: from lo on, below hi. -/
def wnd (xs : List Int) (lo hi : Nat) : List Int := (xs.take hi).drop lo
theorem wnd_length (xs : List Int) {lo hi : Nat} (h : hi ≤ xs.length) : (wnd xs lo hi).length = hi - lo := by simp [wnd]; omega
theorem wnd_get (xs : List Int) {lo hi j : Nat} (h : hi ≤ xs.length) (hj : lo + j < hi) : (wnd xs lo hi)[j]? = xs[lo + j]? := by
  unfold wnd
  rw [List.getElem?_drop, List.getElem?_take, if_pos hj]
theorem wnd_snoc {xs : List Int} {lo k : Nat} {x : Int} (hlo : lo ≤ k) (hx : xs[k]? = some x) : wnd xs lo (k + 1) = wnd xs lo k ++ [x] := by
  have hk := (List.getElem?_eq_some_iff.1 hx).1
  unfold wnd
  rw [take_snoc hx, List.drop_append, List.length_take, Nat.min_eq_left (by omega)]
  have : lo - k = 0 := by omega
  rw [this, List.drop_zero]
theorem wnd_nil (xs : List Int) (lo : Nat) : wnd xs lo lo = [] := by
  unfold wnd
  rw [List.drop_eq_nil_iff, List.length_take]
  omega
theorem wnd_mem {xs : List Int} {lo hi k : Nat} {x : Int} (h1 : lo ≤ k) (h2 : k < hi) (h3 : hi ≤ xs.length) (hx : xs[k]? = some x) : x ∈ wnd xs lo hi := by
  have := wnd_get xs (lo := lo) (hi := hi) (j := k - lo) h3 (by omega)
  rw [show lo + (k - lo) = k by omega, hx] at this
  exact List.mem_of_getElem? this

theorem rd_wnd {w : World} {xs : List Int} {b off lo hi : Nat} (hc : ∀ j x, xs[j]? = some x → w.cell? ⟨b, off + j, none⟩ = some (.int .i64 x)) (h : hi ≤ xs.length) :
    Rd w 0 (b + 1) 1 (some ⟨b, off + lo, none⟩) (hi - lo) (ints (wnd xs lo hi)) := by
  refine ⟨by rw [ints, List.length_map, wnd_length xs h, Nat.mul_one], fun _ => ⟨b, off + lo, rfl, Nat.zero_le _, Nat.lt_succ_self _, fun j u hu => ?_⟩⟩
  rw [ints, List.getElem?_map] at hu
  obtain ⟨x, hx, rfl⟩ := Option.map_eq_some_iff.1 hu
  have hj : j < (wnd xs lo hi).length := (List.getElem?_eq_some_iff.1 hx).1
  rw [wnd_length xs h] at hj
  rw [wnd_get xs h (by omega)] at hx
  rw [Nat.add_assoc]
  exact hc _ _ hx

def loOf (i r : Nat) : Nat := i - r
def hiOf (n i r : Nat) : Nat := if n < i + r + 1 then n else i + r + 1
def shoF (xs : List Int) (r : Nat) (i : Nat) : Int := foldMin (xs.getD i 0) (wnd xs (loOf i r) (hiOf xs.length i r))
def vShoalFilter (xs : List Int) (reach : Int) : List Int × Bool :=
  if isTrk xs = true ∧ inR reach 0 10 = true then (gath (fun _ => true) (shoF xs reach.toNat) xs.length, true) else ([], false)
theorem vShoalFilter_len0 (xs : List Int) (reach : Int) : (vShoalFilter xs reach).1.length ≤ xs.length := by
  unfold vShoalFilter
  split
  · exact gath_le _ _ _
  · simp

set_option maxHeartbeats 1000000 in
/-- slices.Min of a list that is not empty. -/
theorem min_any {A : Option Addr} {c lo hi n : Nat} {ys : List Int} {y0 : Int} {w : World} (hr : Rd w lo hi 1 A n (ints ys)) (h0 : ys[0]? = some y0) (hn : n = ys.length) (hl : n ≤ 4194304) :
    Calls Try.prog 57 #[.slice A n c] w fun e w' => e = .returned (.int .i64 (foldMin y0 ys)) ∧ w = w' := by
  have hpos : 0 < ys.length := (List.getElem?_eq_some_iff.1 h0).1
  obtain ⟨b, off, rfl, _, hc⟩ := hr.row (by omega)
  have hcs : ∀ j x, ys[j]? = some x → w.cell? ⟨b, off + j, none⟩ = some (.int .i64 x) := fun j x hx => hc j _ (by rw [ints, List.getElem?_map, hx]; rfl)
  have HC := Lib.hid hcs
  have hc0 := hcs 0 y0 h0
  rw [Nat.add_zero] at hc0
  have hn1 : ¬ (n : Int) < 1 := by omega
  have hn2 : 0 < n := by omega
  have H0 := Lib.hid h0
  have HN := Lib.hid hn
  clear hc hcs h0 hr hn
  go_enter Try.func57, Try.ntmps57
  go_wp2_with fail
  go_loop [3, 4] (fun m i => ∃ k : Nat, 1 ≤ k ∧ k ≤ n ∧ i = .int .i64 k ∧ m = .int .i64 (foldMin y0 (ys.take k))) (fun _ i => n - (intOf i).toNat)
  case atStart => exact ⟨1, Nat.le_refl _, by omega, rfl, by rw [take_snoc H0.out, List.take_zero, List.nil_append]; rw [foldMin_head]; rfl⟩
  case round =>
    obtain ⟨k, hk1, hk, rfl, rfl⟩ := hrel
    obtain ⟨m, hm⟩ : ∃ m, m = foldMin y0 (ys.take k) := ⟨_, rfl⟩
    rw [← hm]
    have HM := Lib.hid hm
    clear hm
    by_cases hlt : k < n
    · obtain ⟨y, hy⟩ : ∃ y, ys[k]? = some y := ⟨_, List.getElem?_eq_getElem (by have := HN.out; omega)⟩
      have hcell := HC.out k y hy
      have HS := Lib.hid (show foldMin y0 (ys.take (k + 1)) = leastI m y from by rw [take_snoc hy, foldMin_snoc, ← HM.out])
      clear hy
      by_cases hym : y < m
      · have HL := Lib.hid (show leastI m y = y from by unfold leastI; rw [if_neg (by omega)])
        go_wp2_with fail
        go_round
        case rel => exact ⟨k + 1, by omega, by omega, by go_num, by rw [HS.out, HL.out]⟩
        case measure => simp [intOf]; omega
      · have HL := Lib.hid (show leastI m y = m from by unfold leastI; split <;> omega)
        go_wp2_with fail
        go_round
        case rel => exact ⟨k + 1, by omega, by omega, by go_num, by rw [HS.out, HL.out]⟩
        case measure => simp [intOf]; omega
    · go_wp2_with fail
      go_ret
      exact ⟨ret_int (by rw [HM.out, List.take_of_length_le (by have := HN.out; omega)]), rfl⟩

set_option maxHeartbeats 2000000 in
theorem iShoalFilter {A : Option Addr} {c lo hi : Nat} {xs : List Int} {reach : Int} {w : World} (hr : RdI w lo hi A xs) (hl : xs.length ≤ 4194304) (hh : hi ≤ w.heap.size) (hcap : xs.length ≤ c) :
    Calls Try.prog 26 #[.slice A xs.length c, .int .i64 reach] w (RetLB (vShoalFilter xs reach).1 (vShoalFilter xs reach).2 w) := by
  obtain ⟨i0, hi0, hz0, hz1, hz2⟩ := info_parts int_info
  by_cases h1 : isTrk xs = true
  rotate_left
  · have h1' : isTrk xs = false := by simpa using h1
    clear h1
    have HE := Lib.hid (show vShoalFilter xs reach = ([], false) from by unfold vShoalFilter; rw [if_neg (by simp [h1'])])
    go_enter Try.func26, Try.ntmps26
    go_wp2_with (first | (go_at_call 10; refine (isTrack_any _ _ _ _ _ _ hr (by omega)).mono ?_; rintro e w' ⟨rfl, rfl⟩) | (go_at_call 45; refine (inside_any _ _ _ _).mono ?_; rintro e w' ⟨rfl, rfl⟩))
    go_ret2
    rw [HE.out]
    exact retLB_nil _ _ _ (Below.refl _ _)
  by_cases h2 : inR reach 0 10 = true
  rotate_left
  · have h2' : inR reach 0 10 = false := by simpa using h2
    clear h2
    have HE := Lib.hid (show vShoalFilter xs reach = ([], false) from by unfold vShoalFilter; rw [if_neg (by simp [h2'])])
    go_enter Try.func26, Try.ntmps26
    go_wp2_with (first | (go_at_call 10; refine (isTrack_any _ _ _ _ _ _ hr (by omega)).mono ?_; rintro e w' ⟨rfl, rfl⟩) | (go_at_call 45; refine (inside_any _ _ _ _).mono ?_; rintro e w' ⟨rfl, rfl⟩))
    go_ret2
    rw [HE.out]
    exact retLB_nil _ _ _ (Below.refl _ _)
  have HE := Lib.hid (show vShoalFilter xs reach = (gath (fun _ => true) (shoF xs reach.toNat) xs.length, true) from by unfold vShoalFilter; rw [if_pos ⟨h1, h2⟩])
  have hn3 := (isTrk_all h1).2
  have hrr := inR_true.1 h2
  obtain ⟨r, hr0⟩ : ∃ r : Nat, reach = (r : Int) := ⟨reach.toNat, by omega⟩
  subst hr0
  rw [Int.toNat_natCast] at HE
  have hr10 : r ≤ 10 := by omega
  clear hrr
  go_enter Try.func26, Try.ntmps26
  go_wp2_with (first | (go_at_call 10; refine (isTrack_any _ _ _ _ _ _ hr (by omega)).mono ?_; rintro e w' ⟨rfl, rfl⟩) | (go_at_call 45; refine (inside_any _ _ _ _).mono ?_; rintro e w' ⟨rfl, rfl⟩))
  go_loopw [6, 19] (fun v i wr => ∃ k : Nat, k ≤ xs.length ∧ i = .int .i64 k ∧ wr.ownsRow w.heap.size 3 1 v (gath (fun _ => true) (shoF xs r) k).length (ints (gath (fun _ => true) (shoF xs r) k)) ∧ Below w.heap.size w wr) (fun _ i _ => xs.length - (intOf i).toNat)
  case atStart => exact ⟨0, Nat.zero_le _, rfl, row_empty _ _ _, below_alloc1 _ _⟩
  case round =>
    obtain ⟨k, hk, rfl, hown, hb⟩ := hrel
    have hgl := gath_le (fun _ => true) (shoF xs r) k
    by_cases hlt : k < xs.length
    rotate_left
    · obtain rfl : k = xs.length := by omega
      go_wp2_with fail
      go_ret2
      rw [HE.out]
      exact retLB_of hown hb
    obtain ⟨b, off, x, rfl, hx, hcell⟩ := (hr.below hb hh).geti hlt
    obtain ⟨b2, off2, hA, _, hcells0⟩ := (hr.below hb hh).rowi (show 0 < xs.length by omega)
    obtain ⟨rfl, rfl⟩ : b = b2 ∧ off = off2 := by cases hA; exact ⟨rfl, rfl⟩
    clear hA
    have HC := Lib.hid hcells0
    have HX := Lib.hid (getD_of hx)
    have HXX := Lib.hid hx
    clear hx hcells0
    by_cases hlo : k < r
    · by_cases hhi : xs.length < k + r + 1
      · have q1 : (k : Int) - (r : Int) < 0 := by omega
        have q2 : (xs.length : Int) < (k : Int) + (r : Int) + 1 := by omega
        have HL := Lib.hid (show loOf k r = 0 from by unfold loOf; omega)
        have HH := Lib.hid (show hiOf xs.length k r = xs.length from by unfold hiOf; split <;> omega)
        have q3 : ¬ c = 0 := by omega
        obtain ⟨y0, hy0⟩ : ∃ y0, xs[0]? = some y0 := ⟨_, List.getElem?_eq_getElem (by omega)⟩
        have hw0 : (wnd xs 0 xs.length)[0]? = some y0 := by rw [wnd_get xs (by omega) (by omega)]; exact hy0
        have hrd : Rd wr 0 (b + 1) 1 (some ⟨b, off + 0, none⟩) (xs.length - 0) (ints (wnd xs 0 xs.length)) := rd_wnd HC.out (by omega)
        rw [Nat.add_zero, Nat.sub_zero] at hrd
        have hwl : xs.length = (wnd xs 0 xs.length).length := by rw [wnd_length xs (by omega)]; omega
        have HF := Lib.hid (show shoF xs r k = foldMin y0 (wnd xs 0 xs.length) from by unfold shoF; rw [HL.out, HH.out, HX.out]; exact foldMin_same (wnd_mem (by omega) (by omega) (by omega) HXX.out) (wnd_mem (Nat.le_refl _) (by omega) (by omega) hy0))
        have HW := Lib.hid hwl
        have HW0 := Lib.hid hw0
        clear hwl hw0 hy0
        go_wp2_with fail
        refine (min_any hrd HW0.out HW.out (by omega)).mono ?_
        rintro e w' ⟨rfl, rfl⟩
        generalize foldMin y0 (wnd xs 0 xs.length) = mv at HF ⊢
        go_wp2_with (at_builtin; refine wpList_push _ rfl _ _ 24 rfl w.heap.size 3 i0 (.int .i64 0) 1 8 Try.underlying24 hi0 hz0 hz1 hz2 rfl (by decide) _ _ _ rfl hown [.int .i64 mv] rfl (one_int _) rfl (by omega) (by decide) hb.size ?_; intro v1 w1 hown1 hb1 hs1 _ _)
        go_roundw
        case rel => exact ⟨k + 1, by omega, by go_num, push_rel (gath_yes rfl HF.out) hown1, hb1 _ hb⟩
        case measure => simp [intOf]; omega

      skip
      · have q1 : (k : Int) - (r : Int) < 0 := by omega
        have q2 : ¬ (xs.length : Int) < (k : Int) + (r : Int) + 1 := by omega
        have HL := Lib.hid (show loOf k r = 0 from by unfold loOf; omega)
        have HH := Lib.hid (show hiOf xs.length k r = (k + r + 1) from by unfold hiOf; split <;> omega)
        have q3 : ¬ c = 0 := by omega
        obtain ⟨y0, hy0⟩ : ∃ y0, xs[0]? = some y0 := ⟨_, List.getElem?_eq_getElem (by omega)⟩
        have hw0 : (wnd xs 0 (k + r + 1))[0]? = some y0 := by rw [wnd_get xs (by omega) (by omega)]; exact hy0
        have hrd : Rd wr 0 (b + 1) 1 (some ⟨b, off + 0, none⟩) ((k + r + 1) - 0) (ints (wnd xs 0 (k + r + 1))) := rd_wnd HC.out (by omega)
        rw [Nat.add_zero, Nat.sub_zero] at hrd
        have hwl : (k + r + 1) = (wnd xs 0 (k + r + 1)).length := by rw [wnd_length xs (by omega)]; omega
        have HF := Lib.hid (show shoF xs r k = foldMin y0 (wnd xs 0 (k + r + 1)) from by unfold shoF; rw [HL.out, HH.out, HX.out]; exact foldMin_same (wnd_mem (by omega) (by omega) (by omega) HXX.out) (wnd_mem (Nat.le_refl _) (by omega) (by omega) hy0))
        have HW := Lib.hid hwl
        have HW0 := Lib.hid hw0
        clear hwl hw0 hy0
        go_wp2_with fail
        refine (min_any hrd HW0.out HW.out (by omega)).mono ?_
        rintro e w' ⟨rfl, rfl⟩
        generalize foldMin y0 (wnd xs 0 (k + r + 1)) = mv at HF ⊢
        go_wp2_with (at_builtin; refine wpList_push _ rfl _ _ 24 rfl w.heap.size 3 i0 (.int .i64 0) 1 8 Try.underlying24 hi0 hz0 hz1 hz2 rfl (by decide) _ _ _ rfl hown [.int .i64 mv] rfl (one_int _) rfl (by omega) (by decide) hb.size ?_; intro v1 w1 hown1 hb1 hs1 _ _)
        go_roundw
        case rel => exact ⟨k + 1, by omega, by go_num, push_rel (gath_yes rfl HF.out) hown1, hb1 _ hb⟩
        case measure => simp [intOf]; omega

    · by_cases hhi : xs.length < k + r + 1
      · have q1 : ¬ (k : Int) - (r : Int) < 0 := by omega
        have q2 : (xs.length : Int) < (k : Int) + (r : Int) + 1 := by omega
        have HL := Lib.hid (show loOf k r = (k - r) from by unfold loOf; omega)
        have HH := Lib.hid (show hiOf xs.length k r = xs.length from by unfold hiOf; split <;> omega)
        have q3 : ¬ c = (k - r) := by omega
        obtain ⟨y0, hy0⟩ : ∃ y0, xs[(k - r)]? = some y0 := ⟨_, List.getElem?_eq_getElem (by omega)⟩
        have hw0 : (wnd xs (k - r) xs.length)[0]? = some y0 := by rw [wnd_get xs (by omega) (by omega)]; exact hy0
        have hrd : Rd wr 0 (b + 1) 1 (some ⟨b, off + (k - r), none⟩) (xs.length - (k - r)) (ints (wnd xs (k - r) xs.length)) := rd_wnd HC.out (by omega)
        have hwl : xs.length - (k - r) = (wnd xs (k - r) xs.length).length := by rw [wnd_length xs (by omega)]
        have HF := Lib.hid (show shoF xs r k = foldMin y0 (wnd xs (k - r) xs.length) from by unfold shoF; rw [HL.out, HH.out, HX.out]; exact foldMin_same (wnd_mem (by omega) (by omega) (by omega) HXX.out) (wnd_mem (Nat.le_refl _) (by omega) (by omega) hy0))
        have HW := Lib.hid hwl
        have HW0 := Lib.hid hw0
        clear hwl hw0 hy0
        go_wp2_with fail
        refine (min_any hrd HW0.out HW.out (by omega)).mono ?_
        rintro e w' ⟨rfl, rfl⟩
        generalize foldMin y0 (wnd xs (k - r) xs.length) = mv at HF ⊢
        go_wp2_with (at_builtin; refine wpList_push _ rfl _ _ 24 rfl w.heap.size 3 i0 (.int .i64 0) 1 8 Try.underlying24 hi0 hz0 hz1 hz2 rfl (by decide) _ _ _ rfl hown [.int .i64 mv] rfl (one_int _) rfl (by omega) (by decide) hb.size ?_; intro v1 w1 hown1 hb1 hs1 _ _)
        go_roundw
        case rel => exact ⟨k + 1, by omega, by go_num, push_rel (gath_yes rfl HF.out) hown1, hb1 _ hb⟩
        case measure => simp [intOf]; omega

      skip
      · have q1 : ¬ (k : Int) - (r : Int) < 0 := by omega
        have q2 : ¬ (xs.length : Int) < (k : Int) + (r : Int) + 1 := by omega
        have HL := Lib.hid (show loOf k r = (k - r) from by unfold loOf; omega)
        have HH := Lib.hid (show hiOf xs.length k r = (k + r + 1) from by unfold hiOf; split <;> omega)
        have q3 : ¬ c = (k - r) := by omega
        obtain ⟨y0, hy0⟩ : ∃ y0, xs[(k - r)]? = some y0 := ⟨_, List.getElem?_eq_getElem (by omega)⟩
        have hw0 : (wnd xs (k - r) (k + r + 1))[0]? = some y0 := by rw [wnd_get xs (by omega) (by omega)]; exact hy0
        have hrd : Rd wr 0 (b + 1) 1 (some ⟨b, off + (k - r), none⟩) ((k + r + 1) - (k - r)) (ints (wnd xs (k - r) (k + r + 1))) := rd_wnd HC.out (by omega)
        have hwl : (k + r + 1) - (k - r) = (wnd xs (k - r) (k + r + 1)).length := by rw [wnd_length xs (by omega)]
        have HF := Lib.hid (show shoF xs r k = foldMin y0 (wnd xs (k - r) (k + r + 1)) from by unfold shoF; rw [HL.out, HH.out, HX.out]; exact foldMin_same (wnd_mem (by omega) (by omega) (by omega) HXX.out) (wnd_mem (Nat.le_refl _) (by omega) (by omega) hy0))
        have HW := Lib.hid hwl
        have HW0 := Lib.hid hw0
        clear hwl hw0 hy0
        go_wp2_with fail
        refine (min_any hrd HW0.out HW.out (by omega)).mono ?_
        rintro e w' ⟨rfl, rfl⟩
        generalize foldMin y0 (wnd xs (k - r) (k + r + 1)) = mv at HF ⊢
        go_wp2_with (at_builtin; refine wpList_push _ rfl _ _ 24 rfl w.heap.size 3 i0 (.int .i64 0) 1 8 Try.underlying24 hi0 hz0 hz1 hz2 rfl (by decide) _ _ _ rfl hown [.int .i64 mv] rfl (one_int _) rfl (by omega) (by decide) hb.size ?_; intro v1 w1 hown1 hb1 hs1 _ _)
        go_roundw
        case rel => exact ⟨k + 1, by omega, by go_num, push_rel (gath_yes rfl HF.out) hown1, hb1 _ hb⟩
        case measure => simp [intOf]; omega

set_option maxHeartbeats 2000000 in
theorem sShoalFilter {A : Option Addr} {c lo hi : Nat} {xs : List Int} {reach : Int} {w : World} (hr : RdI w lo hi A xs) (hl : xs.length ≤ 4194304) (hh : hi ≤ w.heap.size) :
    Calls Try.prog 27 #[.slice A xs.length c, .int .i64 reach] w (RetLB (vShoalFilter xs reach).1 (vShoalFilter xs reach).2 w) := by
  obtain ⟨i0, hi0, hz0, hz1, hz2⟩ := info_parts int_info
  by_cases h1 : isTrk xs = true
  rotate_left
  · have h1' : isTrk xs = false := by simpa using h1
    clear h1
    have HE := Lib.hid (show vShoalFilter xs reach = ([], false) from by unfold vShoalFilter; rw [if_neg (by simp [h1'])])
    go_enter Try.func27, Try.ntmps27
    go_wp2_with (first | (go_at_call 46; refine (l12Good_any _ _ _ _ _ _ (hr.below (below_alloc1 _ _) hh) (by omega)).mono ?_; rintro e w' ⟨rfl, rfl⟩) | (go_at_call 55; refine (l1In_any _ _ _ _).mono ?_; rintro e w' ⟨rfl, rfl⟩))
    go_ret2
    rw [HE.out]
    exact retLB_of (row_empty _ _ _) (below_alloc1 _ _)
  by_cases h2 : inR reach 0 10 = true
  rotate_left
  · have h2' : inR reach 0 10 = false := by simpa using h2
    clear h2
    have HE := Lib.hid (show vShoalFilter xs reach = ([], false) from by unfold vShoalFilter; rw [if_neg (by simp [h2'])])
    go_enter Try.func27, Try.ntmps27
    go_wp2_with (first | (go_at_call 46; refine (l12Good_any _ _ _ _ _ _ (hr.below (below_alloc1 _ _) hh) (by omega)).mono ?_; rintro e w' ⟨rfl, rfl⟩) | (go_at_call 55; refine (l1In_any _ _ _ _).mono ?_; rintro e w' ⟨rfl, rfl⟩))
    go_ret2
    rw [HE.out]
    exact retLB_of (row_empty _ _ _) (below_alloc1 _ _)
  have HE := Lib.hid (show vShoalFilter xs reach = (gath (fun _ => true) (shoF xs reach.toNat) xs.length, true) from by unfold vShoalFilter; rw [if_pos ⟨h1, h2⟩])
  have hn3 := (isTrk_all h1).2
  have hrr := inR_true.1 h2
  obtain ⟨r, hr0⟩ : ∃ r : Nat, reach = (r : Int) := ⟨reach.toNat, by omega⟩
  subst hr0
  rw [Int.toNat_natCast] at HE
  have hr10 : r ≤ 10 := by omega
  clear hrr
  go_enter Try.func27, Try.ntmps27
  go_wp2_with (first | (go_at_call 46; refine (l12Good_any _ _ _ _ _ _ (hr.below (below_alloc1 _ _) hh) (by omega)).mono ?_; rintro e w' ⟨rfl, rfl⟩) | (go_at_call 55; refine (l1In_any _ _ _ _).mono ?_; rintro e w' ⟨rfl, rfl⟩))
  go_loopw [6, 7] (fun v i wr => ∃ k : Nat, k ≤ xs.length ∧ i = .int .i64 k ∧ wr.ownsRow w.heap.size 3 1 v (gath (fun _ => true) (shoF xs r) k).length (ints (gath (fun _ => true) (shoF xs r) k)) ∧ Below w.heap.size w wr) (fun _ i _ => xs.length - (intOf i).toNat)
  case atStart => exact ⟨0, Nat.zero_le _, rfl, row_empty _ _ _, below_alloc1 _ _⟩
  case round =>
    obtain ⟨k, hk, rfl, hown, hb⟩ := hrel
    have hgl := gath_le (fun _ => true) (shoF xs r) k
    by_cases hlt : k < xs.length
    rotate_left
    · obtain rfl : k = xs.length := by omega
      go_wp2_with fail
      go_ret2
      rw [HE.out]
      exact retLB_of hown hb
    obtain ⟨b, off, x, rfl, hx, hcell⟩ := (hr.below hb hh).geti hlt
    obtain ⟨b2, off2, hA, _, hcells⟩ := (hr.below hb hh).rowi (show 0 < xs.length by omega)
    obtain ⟨rfl, rfl⟩ : b = b2 ∧ off = off2 := by cases hA; exact ⟨rfl, rfl⟩
    clear hA
    have HC := Lib.hid hcells
    have HX := Lib.hid (getD_of hx)
    have HXX := Lib.hid hx
    clear hx hcells
    obtain ⟨L, hL⟩ : ∃ L, L = loOf k r := ⟨_, rfl⟩
    obtain ⟨H, hH⟩ : ∃ H, H = hiOf xs.length k r := ⟨_, rfl⟩
    have e1 : L ≤ k := by rw [hL]; unfold loOf; omega
    have e2 : k < H := by rw [hH]; unfold hiOf; split <;> omega
    have e3 : H ≤ xs.length := by rw [hH]; unfold hiOf; split <;> omega
    have q1 : mostI 0 ((k : Int) - (r : Int)) = (L : Int) := by rw [hL]; unfold mostI loOf; split <;> omega
    have q2 : leastI ((xs.length : Int) - 1) ((k : Int) + (r : Int)) = (H : Int) - 1 := by rw [hH]; unfold leastI hiOf; split <;> split <;> omega
    have HF := Lib.hid (show shoF xs r k = foldMin x (wnd xs L H) from by unfold shoF; rw [← hL, ← hH, HX.out])
    clear hL hH
    go_wp2_with (first | (go_at_call 58; refine (l1Most_any _ _ _).mono ?_; rintro e w' ⟨rfl, rfl⟩))
    obtain ⟨wo, rfl⟩ : ∃ wo : World, wo = wr := ⟨_, rfl⟩
    go_loop [8, 9] (fun m j => ∃ t : Nat, L ≤ t ∧ t ≤ H ∧ j = .int .i64 t ∧ m = .int .i64 (foldMin x (wnd xs L t))) (fun _ j => H - (intOf j).toNat)
    case atStart => exact ⟨L, Nat.le_refl _, by omega, rfl, by rw [wnd_nil]; rfl⟩
    case round =>
      obtain ⟨t, ht1, ht2, rfl, rfl⟩ := hrel
      obtain ⟨m, hm⟩ : ∃ m, m = foldMin x (wnd xs L t) := ⟨_, rfl⟩
      rw [← hm]
      have HM := Lib.hid hm
      clear hm
      by_cases htl : t < H
      · obtain ⟨y, hy⟩ : ∃ y, xs[t]? = some y := ⟨_, List.getElem?_eq_getElem (by omega)⟩
        have hcy := HC.out t y hy
        have HS := Lib.hid (show foldMin x (wnd xs L (t + 1)) = leastI m y from by rw [wnd_snoc ht1 hy, foldMin_snoc, ← HM.out])
        clear hy
        have q3 : (t : Int) ≤ (H : Int) - 1 := by omega
        have q4 : (t : Int) < (xs.length : Int) := by omega
        go_wp2_with (first | (go_at_call 59; refine (l1Least_any _ _ _).mono ?_; rintro e w' ⟨rfl, rfl⟩))
        go_round
        case rel => exact ⟨t + 1, by omega, by omega, by go_num, by rw [HS.out]⟩
        case measure => simp [intOf]; omega
      · obtain rfl : t = H := by omega
        have q3 : ¬ (t : Int) ≤ (t : Int) - 1 := by omega
        have HFM := Lib.hid (show shoF xs r k = m from by rw [HF.out, ← HM.out])
        go_wp2_with (first | (go_at_call 59; refine (l1Least_any _ _ _).mono ?_; rintro e w' ⟨rfl, rfl⟩) | (at_builtin; refine wpList_push _ rfl _ _ 24 rfl w.heap.size 3 i0 (.int .i64 0) 1 8 Try.underlying24 hi0 hz0 hz1 hz2 rfl (by decide) _ _ _ rfl hown [.int .i64 m] rfl (one_int _) rfl (by omega) (by decide) hb.size ?_; intro v1 w1 hown1 hb1 hs1 _ _))
        go_roundw
        case rel => exact ⟨k + 1, by omega, by go_num, push_rel (gath_yes rfl HFM.out) hown1, hb1 _ hb⟩
        case measure => simp [intOf]; omega

end Go.Proofs.Ytchgcpdmomeofaa
