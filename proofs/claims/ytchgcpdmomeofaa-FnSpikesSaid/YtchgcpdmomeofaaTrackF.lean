/-
  This file proves contracts of SpikesIn and RejectDown, of the program and of the reference, and of the searches in a list that they call.
  Conditions: each contract's own hypotheses (that a slice reads as a list, that it is not too long).
-/
import Derived.Test.YtchgcpdmomeofaaTrackE
namespace Go.Proofs.Ytchgcpdmomeofaa
open Go.RowKit
set_option linter.unusedSimpArgs false
set_option linter.unusedVariables false

theorem retLLB_of {xs ys : List Int} {b : Bool} {w w' : World} {u d : Value} (h1 : w'.ownsRow w.heap.size 3 1 u xs.length (ints xs)) (h2 : w'.ownsRow w.heap.size 3 1 d ys.length (ints ys)) (hne : u.ownBlock ≠ d.ownBlock) (hb : Below w.heap.size w w') :
    RetLLB xs ys b w (.returned (.tuple #[u, d, .bool b])) w' := by
  obtain ⟨A, c, B, d', l1, k1, l2, k2, he, r⟩ := retLL_of h1 h2 hne hb
  simp only [Ending.returned.injEq, Value.tuple.injEq, Array.mk.injEq, List.cons.injEq, and_true] at he
  obtain ⟨rfl, rfl⟩ := he
  exact ⟨A, c, B, d', l1, k1, l2, k2, rfl, r⟩

def vSpikesIn (xs : List Int) (lim : Int) : List Int × List Int × Bool :=
  if isTrk xs = true ∧ inR lim 1 5000 = true then (upOf xs lim (xs.length - 1), downOf xs lim (xs.length - 1), true) else ([], [], false)
theorem vSpikesIn_len0 (xs : List Int) (lim : Int) : (vSpikesIn xs lim).1.length ≤ xs.length := by
  unfold vSpikesIn
  split
  · have := upOf_le xs lim (xs.length - 1)
    simp only
    omega
  · simp
theorem vSpikesIn_len1 (xs : List Int) (lim : Int) : (vSpikesIn xs lim).2.1.length ≤ xs.length := by
  unfold vSpikesIn
  split
  · have := downOf_le xs lim (xs.length - 1)
    simp only
    omega
  · simp

/-! ### a number in a list -/
def hasI (l : List Int) (x : Int) : Bool := l.any fun y => y == x
theorem hasI_no {l : List Int} {k : Nat} {x y : Int} (hy : l[k]? = some y) (h : hasI (l.take k) x = false) (hne : (y == x) = false) : hasI (l.take (k + 1)) x = false := by
  rw [take_snoc hy]
  unfold hasI at h ⊢
  rw [List.any_append, h]
  simpa using hne
theorem hasI_yes {l : List Int} {k : Nat} {x y : Int} (hy : l[k]? = some y) (he : (y == x) = true) : hasI l x = true := by
  unfold hasI
  rw [List.any_eq_true]
  exact ⟨y, List.mem_of_getElem? hy, he⟩

set_option maxHeartbeats 1000000 in
theorem l1Has_any {A : Option Addr} {c lo hi : Nat} {l : List Int} {x : Int} {w : World} (hr : RdI w lo hi A l) (hl : l.length ≤ 4194304) :
    Calls Try.prog 48 #[.slice A l.length c, .int .i64 x] w fun e w' => e = .returned (.bool (hasI l x)) ∧ w = w' := by
  go_enter Try.func48, Try.ntmps48
  go_wp2_with fail
  go_loop [5] (fun i => ∃ k : Nat, k ≤ l.length ∧ i = .int .i64 k ∧ hasI (l.take k) x = false) (fun i => l.length - (intOf i).toNat)
  case atStart => exact ⟨0, Nat.zero_le _, rfl, rfl⟩
  case round =>
    obtain ⟨k, hk, rfl, hno⟩ := hrel
    have HN := Lib.hid hno
    clear hno
    by_cases hlt : k < l.length
    · obtain ⟨b, off, y, rfl, hy, hcell⟩ := hr.geti hlt
      have HY := Lib.hid hy
      clear hy
      by_cases he : (y == x) = true
      · go_wp2_with fail
        go_ret
        exact ⟨ret_bool (hasI_yes HY.out he).symm, rfl⟩
      · have he' : (y == x) = false := by simpa using he
        clear he
        go_wp2_with fail
        go_round
        case rel => exact ⟨k + 1, by omega, by go_num, hasI_no HY.out HN.out he'⟩
        case measure => simp [intOf]; omega
    · go_wp2_with fail
      go_ret
      exact ⟨ret_bool (by have := HN.out; rw [take_all hlt] at this; exact this.symm), rfl⟩

/-- The place that slices.Index tells: not below 0 if the number is there, -1 else. -/
def IdxOf (b : Bool) (w : World) (e : Ending) (w' : World) : Prop := w = w' ∧ ((b = true ∧ ∃ k : Nat, e = .returned (.int .i64 k)) ∨ (b = false ∧ e = .returned (.int .i64 (-1))))

set_option maxHeartbeats 1000000 in
theorem index_any {A : Option Addr} {c lo hi : Nat} {l : List Int} {x : Int} {w : World} (hr : RdI w lo hi A l) (hl : l.length ≤ 4194304) :
    Calls Try.prog 64 #[.slice A l.length c, .int .i64 x] w (IdxOf (hasI l x) w) := by
  go_enter Try.func64, Try.ntmps64
  go_wp2_with fail
  go_loop [8] (fun i => ∃ k : Nat, k ≤ l.length ∧ i = .int .i64 k ∧ hasI (l.take k) x = false) (fun i => l.length - (intOf i).toNat)
  case atStart => exact ⟨0, Nat.zero_le _, rfl, rfl⟩
  case round =>
    obtain ⟨k, hk, rfl, hno⟩ := hrel
    have HN := Lib.hid hno
    clear hno
    by_cases hlt : k < l.length
    · obtain ⟨b, off, y, rfl, hy, hcell⟩ := hr.geti hlt
      have HY := Lib.hid hy
      clear hy
      by_cases he : x = y
      · subst he
        go_wp2_with fail
        go_ret
        exact ⟨rfl, .inl ⟨hasI_yes HY.out (by simp), k, rfl⟩⟩
      · have he' : (x == y) = false := by simpa using he
        have he2 : (y == x) = false := by rw [beq_eq_false_iff_ne]; exact fun h => he h.symm
        clear he
        go_wp2_with fail
        go_round
        case rel => exact ⟨k + 1, by omega, by go_num, hasI_no HY.out HN.out he2⟩
        case measure => simp [intOf]; omega
    · go_wp2_with fail
      go_ret
      exact ⟨rfl, .inr ⟨by have := HN.out; rw [take_all hlt] at this; exact this, rfl⟩⟩

theorem contains_any {A : Option Addr} {c lo hi : Nat} {l : List Int} {x : Int} {w : World} (hr : RdI w lo hi A l) (hl : l.length ≤ 4194304) :
    Calls Try.prog 47 #[.slice A l.length c, .int .i64 x] w fun e w' => e = .returned (.bool (hasI l x)) ∧ w = w' := by
  go_enter Try.func47, Try.ntmps47
  go_wp2_with fail
  refine (index_any hr hl).mono ?_
  rintro e w' ⟨rfl, ⟨h, k, rfl⟩ | ⟨h, rfl⟩⟩
  · have H := Lib.hid h
    clear h
    go_wp2_with fail
    go_ret
    exact ⟨ret_bool (by rw [H.out]), rfl⟩
  · have H := Lib.hid h
    clear h
    go_wp2_with fail
    go_ret
    exact ⟨ret_bool (by rw [H.out]), rfl⟩

set_option maxHeartbeats 1000000 in
theorem iSpikesIn {A : Option Addr} {c lo hi : Nat} {xs : List Int} {lim : Int} {w : World} (hr : RdI w lo hi A xs) (hl : xs.length ≤ 4194304) (hh : hi ≤ w.heap.size) :
    Calls Try.prog 7 #[.slice A xs.length c, .int .i64 lim] w (RetLLB (vSpikesIn xs lim).1 (vSpikesIn xs lim).2.1 (vSpikesIn xs lim).2.2 w) := by
  by_cases h1 : isTrk xs = true
  rotate_left
  · have h1' : isTrk xs = false := by simpa using h1
    clear h1
    have HE := Lib.hid (show vSpikesIn xs lim = ([], [], false) from by unfold vSpikesIn; rw [if_neg (by simp [h1'])])
    go_enter Try.func7, Try.ntmps7
    go_wp2_with (first | (go_at_call 10; refine (isTrack_any _ _ _ _ _ _ hr (by omega)).mono ?_; rintro e w' ⟨rfl, rfl⟩) | (go_at_call 40; refine (isLimit_any _ _).mono ?_; rintro e w' ⟨rfl, rfl⟩))
    go_ret3
    rw [HE.out]
    exact ⟨none, 0, none, 0, w.heap.size, w.heap.size, w.heap.size, w.heap.size, rfl, own_nil _ _ _ _, own_nil _ _ _ _, Nat.le_refl _, Nat.le_refl _, Nat.le_refl _, Nat.le_refl _, Nat.le_refl _, Nat.le_refl _, .inl (Nat.le_refl _), Below.refl _ _⟩
  by_cases h2 : inR lim 1 5000 = true
  rotate_left
  · have h2' : inR lim 1 5000 = false := by simpa using h2
    clear h2
    have HE := Lib.hid (show vSpikesIn xs lim = ([], [], false) from by unfold vSpikesIn; rw [if_neg (by simp [h2'])])
    go_enter Try.func7, Try.ntmps7
    go_wp2_with (first | (go_at_call 10; refine (isTrack_any _ _ _ _ _ _ hr (by omega)).mono ?_; rintro e w' ⟨rfl, rfl⟩) | (go_at_call 40; refine (isLimit_any _ _).mono ?_; rintro e w' ⟨rfl, rfl⟩))
    go_ret3
    rw [HE.out]
    exact ⟨none, 0, none, 0, w.heap.size, w.heap.size, w.heap.size, w.heap.size, rfl, own_nil _ _ _ _, own_nil _ _ _ _, Nat.le_refl _, Nat.le_refl _, Nat.le_refl _, Nat.le_refl _, Nat.le_refl _, Nat.le_refl _, .inl (Nat.le_refl _), Below.refl _ _⟩
  have HE := Lib.hid (show vSpikesIn xs lim = (upOf xs lim (xs.length - 1), downOf xs lim (xs.length - 1), true) from by unfold vSpikesIn; rw [if_pos ⟨h1, h2⟩])
  go_enter Try.func7, Try.ntmps7
  go_wp2_with (first | (go_at_call 10; refine (isTrack_any _ _ _ _ _ _ hr (by omega)).mono ?_; rintro e w' ⟨rfl, rfl⟩) | (go_at_call 40; refine (isLimit_any _ _).mono ?_; rintro e w' ⟨rfl, rfl⟩))
  refine (spikesIn_any hr hh h1 h2).mono ?_
  rintro e w1 ⟨A1, c1, B1, d1, l1, k1, l2, k2, rfl, r⟩
  have R := Lib.hid r
  clear r
  go_wp2_with fail
  go_ret3
  rw [HE.out]
  exact ⟨A1, c1, B1, d1, l1, k1, l2, k2, rfl, R.out⟩

set_option maxHeartbeats 1000000 in
theorem sSpikesIn {A : Option Addr} {c lo hi : Nat} {xs : List Int} {lim : Int} {w : World} (hr : RdI w lo hi A xs) (hl : xs.length ≤ 4194304) (hh : hi ≤ w.heap.size) :
    Calls Try.prog 8 #[.slice A xs.length c, .int .i64 lim] w (RetLLB (vSpikesIn xs lim).1 (vSpikesIn xs lim).2.1 (vSpikesIn xs lim).2.2 w) := by
  by_cases h1 : isTrk xs = true
  rotate_left
  · have h1' : isTrk xs = false := by simpa using h1
    clear h1
    have HE := Lib.hid (show vSpikesIn xs lim = ([], [], false) from by unfold vSpikesIn; rw [if_neg (by simp [h1'])])
    go_enter Try.func8, Try.ntmps8
    go_wp2_with (go_at_call 42; refine (l12Asked_any _ _ _ _ _ _ _ hr (by omega)).mono ?_; rintro e w' ⟨rfl, rfl⟩)
    go_ret3
    rw [HE.out]
    exact retLLB_of (start_two _ _).1 (start_two _ _).2.1 (by simp [Value.ownBlock]) (start_two _ _).2.2
  by_cases h2 : inR lim 1 5000 = true
  rotate_left
  · have h2' : inR lim 1 5000 = false := by simpa using h2
    clear h2
    have HE := Lib.hid (show vSpikesIn xs lim = ([], [], false) from by unfold vSpikesIn; rw [if_neg (by simp [h2'])])
    go_enter Try.func8, Try.ntmps8
    go_wp2_with (go_at_call 42; refine (l12Asked_any _ _ _ _ _ _ _ hr (by omega)).mono ?_; rintro e w' ⟨rfl, rfl⟩)
    go_ret3
    rw [HE.out]
    exact retLLB_of (start_two _ _).1 (start_two _ _).2.1 (by simp [Value.ownBlock]) (start_two _ _).2.2
  have HE := Lib.hid (show vSpikesIn xs lim = (upOf xs lim (xs.length - 1), downOf xs lim (xs.length - 1), true) from by unfold vSpikesIn; rw [if_pos ⟨h1, h2⟩])
  go_enter Try.func8, Try.ntmps8
  go_wp2_with (go_at_call 42; refine (l12Asked_any _ _ _ _ _ _ _ hr (by omega)).mono ?_; rintro e w' ⟨rfl, rfl⟩)
  refine (l12Spikes_any hr hh h1 h2).mono ?_
  rintro e w1 ⟨A1, c1, B1, d1, l1, k1, l2, k2, rfl, r⟩
  have R := Lib.hid r
  clear r
  go_wp2_with fail
  go_ret3
  rw [HE.out]
  exact ⟨A1, c1, B1, d1, l1, k1, l2, k2, rfl, R.out⟩

theorem keep_rd {w w' : World} {l k : Nat} {B : Option Addr} {D : List Int} {V : Option Nat} (h : RdI w l k B D) (hk : ∀ b, b < w.heap.size → V ≠ some b → w'.heap[b]? = w.heap[b]?) (hv : ∀ g, V = some g → g < l ∨ k ≤ g) (hs : k ≤ w.heap.size) : RdI w' l k B D :=
  h.keep fun b off h1 h2 => World.cell?_of_block (hk b (by omega) (fun e => by have := hv b e; omega))
theorem push_out {w : World} {base : Nat} {e : TypeId} {size n : Nat} {v v1 : Value} {xs : List Value} {l k : Nat} (h : w.ownsRow base e size v n xs) (hat : v1.ownBlock = v.ownBlock ∨ ∃ g, v1.ownBlock = some g ∧ w.heap.size ≤ g)
    (h0 : v.ownBlock ≠ none) (h1 : ∀ g, v.ownBlock = some g → g < l ∨ k ≤ g) (hs : k ≤ w.heap.size) : v1.ownBlock ≠ none ∧ ∀ g, v1.ownBlock = some g → g < l ∨ k ≤ g := by
  rcases hat with h2 | ⟨g, h2, h3⟩
  · rw [h2]
    exact ⟨h0, h1⟩
  · rw [h2]
    exact ⟨by simp, fun g' hg => by injection hg with hg; omega⟩

/-! ### the depths that are not rejected -/
def rejF (xs : List Int) (lim : Int) (i : Nat) : Int := if hasI (downOf xs lim (xs.length - 1)) i = true then 0 else 1
def vRejectDown (xs : List Int) (lim : Int) : List Int × Bool :=
  if isTrk xs = true ∧ inR lim 1 5000 = true then (gath (fun _ => true) (rejF xs lim) xs.length, true) else ([], false)
theorem vRejectDown_len0 (xs : List Int) (lim : Int) : (vRejectDown xs lim).1.length ≤ xs.length := by
  unfold vRejectDown
  split
  · exact gath_le _ _ _
  · simp

set_option maxHeartbeats 2000000 in
theorem iRejectDown {A : Option Addr} {c lo hi : Nat} {xs : List Int} {lim : Int} {w : World} (hr : RdI w lo hi A xs) (hl : xs.length ≤ 4194304) (hh : hi ≤ w.heap.size) :
    Calls Try.prog 12 #[.slice A xs.length c, .int .i64 lim] w (RetLB (vRejectDown xs lim).1 (vRejectDown xs lim).2 w) := by
  obtain ⟨i0, hi0, hz0, hz1, hz2⟩ := info_parts int_info
  by_cases h1 : isTrk xs = true
  rotate_left
  · have h1' : isTrk xs = false := by simpa using h1
    clear h1
    have HE := Lib.hid (show vRejectDown xs lim = ([], false) from by unfold vRejectDown; rw [if_neg (by simp [h1'])])
    go_enter Try.func12, Try.ntmps12
    go_wp2_with (first | (go_at_call 10; refine (isTrack_any _ _ _ _ _ _ hr (by omega)).mono ?_; rintro e w' ⟨rfl, rfl⟩) | (go_at_call 40; refine (isLimit_any _ _).mono ?_; rintro e w' ⟨rfl, rfl⟩))
    go_ret2
    rw [HE.out]
    exact retLB_nil _ _ _ (Below.refl _ _)
  by_cases h2 : inR lim 1 5000 = true
  rotate_left
  · have h2' : inR lim 1 5000 = false := by simpa using h2
    clear h2
    have HE := Lib.hid (show vRejectDown xs lim = ([], false) from by unfold vRejectDown; rw [if_neg (by simp [h2'])])
    go_enter Try.func12, Try.ntmps12
    go_wp2_with (first | (go_at_call 10; refine (isTrack_any _ _ _ _ _ _ hr (by omega)).mono ?_; rintro e w' ⟨rfl, rfl⟩) | (go_at_call 40; refine (isLimit_any _ _).mono ?_; rintro e w' ⟨rfl, rfl⟩))
    go_ret2
    rw [HE.out]
    exact retLB_nil _ _ _ (Below.refl _ _)
  have HE := Lib.hid (show vRejectDown xs lim = (gath (fun _ => true) (rejF xs lim) xs.length, true) from by unfold vRejectDown; rw [if_pos ⟨h1, h2⟩])
  have hdl := downOf_le xs lim (xs.length - 1)
  go_enter Try.func12, Try.ntmps12
  go_wp2_with (first | (go_at_call 10; refine (isTrack_any _ _ _ _ _ _ hr (by omega)).mono ?_; rintro e w' ⟨rfl, rfl⟩) | (go_at_call 40; refine (isLimit_any _ _).mono ?_; rintro e w' ⟨rfl, rfl⟩))
  refine (spikesIn_any hr hh h1 h2).mono ?_
  rintro e w1 ⟨A1, c1, B1, d1, l1, k1, l2, k2, rfl, o1, o2, a1, a1', a2, a3, a3', a4, a5, hb0⟩
  have hbw := hb0
  have hsw := hbw.size
  obtain ⟨D, hD⟩ : ∃ D, D = downOf xs lim (xs.length - 1) := ⟨_, rfl⟩
  rw [← hD] at hdl o2 ⊢
  have HDD := Lib.hid hD
  have RD := o2.rd
  clear hD o1 o2 hb0
  go_wp2_with fail
  go_loopw [8, 10, 28] (fun v kp i wr => ∃ k : Nat, k ≤ xs.length ∧ i = .int .i64 k ∧ wr.ownsRow w.heap.size 3 1 v (gath (fun _ => true) (rejF xs lim) k).length (ints (gath (fun _ => true) (rejF xs lim) k)) ∧ v.ownBlock ≠ none ∧ (∀ g, v.ownBlock = some g → g < l2 ∨ k2 ≤ g) ∧ RdI wr l2 k2 B1 D ∧ w1.heap.size ≤ wr.heap.size ∧ Below w.heap.size w wr) (fun _ _ i _ => xs.length - (intOf i).toNat)
  case atStart => exact ⟨0, Nat.zero_le _, rfl, row_empty_at _ _ _ hsw, by simp [Value.ownBlock], by intro g hg; simp [Value.ownBlock] at hg; omega, RD.below (below_alloc1 _ _) (by omega), by simp, hbw.alloc hsw _⟩
  case round =>
    obtain ⟨k, hk, rfl, hown, hv0, hv1, hrd, hsz1, hb⟩ := hrel
    have hgl := gath_le (fun _ => true) (rejF xs lim) k
    have HV0 := Lib.hid hv0
    have HV1 := Lib.hid hv1
    clear hv0 hv1
    by_cases hlt : k < xs.length
    rotate_left
    · obtain rfl : k = xs.length := by omega
      go_wp2_with fail
      go_ret2
      rw [HE.out]
      exact retLB_of hown hb
    by_cases hin : hasI D k = true
    · have HF := Lib.hid (show rejF xs lim k = 0 from by unfold rejF; rw [← HDD.out, if_pos hin])
      go_wp2_with (first | (go_at_call 47; refine (contains_any hrd (by omega)).mono ?_; rintro e w' ⟨rfl, rfl⟩) | (at_builtin; refine wpList_push _ rfl _ _ 24 rfl w.heap.size 3 i0 (.int .i64 0) 1 8 Try.underlying24 hi0 hz0 hz1 hz2 rfl (by decide) _ _ _ rfl hown [.int .i64 0] rfl (one_int _) rfl (by omega) (by decide) hb.size ?_; intro v1 w1 hown1 hb1 hs1 hat1 hk1))
      have hX := keep_rd (V := _) hrd hk1 HV1.out (by omega)
      have hY := push_out hown hat1 HV0.out HV1.out (show k2 ≤ wr.heap.size by omega)
      go_roundw
      case rel => exact ⟨k + 1, by omega, by go_num, push_rel (gath_yes rfl HF.out) hown1, hY.1, hY.2, hX, by omega, hb1 _ hb⟩
      case measure => simp [intOf]; omega
    · have hin' : hasI D k = false := by simpa using hin
      have HF := Lib.hid (show rejF xs lim k = 1 from by unfold rejF; rw [← HDD.out, if_neg (by rw [hin']; simp)])
      clear hin
      go_wp2_with (first | (go_at_call 47; refine (contains_any hrd (by omega)).mono ?_; rintro e w' ⟨rfl, rfl⟩) | (at_builtin; refine wpList_push _ rfl _ _ 24 rfl w.heap.size 3 i0 (.int .i64 0) 1 8 Try.underlying24 hi0 hz0 hz1 hz2 rfl (by decide) _ _ _ rfl hown [.int .i64 1] rfl (one_int _) rfl (by omega) (by decide) hb.size ?_; intro v1 w1 hown1 hb1 hs1 hat1 hk1))
      have hX := keep_rd (V := _) hrd hk1 HV1.out (by omega)
      have hY := push_out hown hat1 HV0.out HV1.out (show k2 ≤ wr.heap.size by omega)
      go_roundw
      case rel => exact ⟨k + 1, by omega, by go_num, push_rel (gath_yes rfl HF.out) hown1, hY.1, hY.2, hX, by omega, hb1 _ hb⟩
      case measure => simp [intOf]; omega

set_option maxHeartbeats 2000000 in
theorem sRejectDown {A : Option Addr} {c lo hi : Nat} {xs : List Int} {lim : Int} {w : World} (hr : RdI w lo hi A xs) (hl : xs.length ≤ 4194304) (hh : hi ≤ w.heap.size) :
    Calls Try.prog 13 #[.slice A xs.length c, .int .i64 lim] w (RetLB (vRejectDown xs lim).1 (vRejectDown xs lim).2 w) := by
  obtain ⟨i0, hi0, hz0, hz1, hz2⟩ := info_parts int_info
  by_cases h1 : isTrk xs = true
  rotate_left
  · have h1' : isTrk xs = false := by simpa using h1
    clear h1
    have HE := Lib.hid (show vRejectDown xs lim = ([], false) from by unfold vRejectDown; rw [if_neg (by simp [h1'])])
    go_enter Try.func13, Try.ntmps13
    go_wp2_with (go_at_call 42; refine (l12Asked_any _ _ _ _ _ _ _ (hr.below (below_alloc1 _ _) hh) (by omega)).mono ?_; rintro e w' ⟨rfl, rfl⟩)
    go_ret2
    rw [HE.out]
    exact retLB_of (row_empty _ _ _) (below_alloc1 _ _)
  by_cases h2 : inR lim 1 5000 = true
  rotate_left
  · have h2' : inR lim 1 5000 = false := by simpa using h2
    clear h2
    have HE := Lib.hid (show vRejectDown xs lim = ([], false) from by unfold vRejectDown; rw [if_neg (by simp [h2'])])
    go_enter Try.func13, Try.ntmps13
    go_wp2_with (go_at_call 42; refine (l12Asked_any _ _ _ _ _ _ _ (hr.below (below_alloc1 _ _) hh) (by omega)).mono ?_; rintro e w' ⟨rfl, rfl⟩)
    go_ret2
    rw [HE.out]
    exact retLB_of (row_empty _ _ _) (below_alloc1 _ _)
  have HE := Lib.hid (show vRejectDown xs lim = (gath (fun _ => true) (rejF xs lim) xs.length, true) from by unfold vRejectDown; rw [if_pos ⟨h1, h2⟩])
  have hdl := downOf_le xs lim (xs.length - 1)
  go_enter Try.func13, Try.ntmps13
  go_wp2_with (go_at_call 42; refine (l12Asked_any _ _ _ _ _ _ _ (hr.below (below_alloc1 _ _) hh) (by omega)).mono ?_; rintro e w' ⟨rfl, rfl⟩)
  refine (l12Spikes_any (hr.below (below_alloc1 _ _) hh) (by simp; omega) h1 h2).mono ?_
  rintro e w1 ⟨A1, c1, B1, d1, l1, k1, l2, k2, rfl, o1, o2, a1, a1', a2, a3, a3', a4, a5, hb0⟩
  have hsz : (w.alloc (.cells #[] 3)).heap.size = w.heap.size + 1 := by simp
  rw [hsz] at a1 a3 hb0
  have hown0 : w1.ownsRow w.heap.size 3 1 (.slice (some ⟨w.heap.size, 0, none⟩) 0 0) 0 [] := by
    have h := row_empty w 3 1
    exact (Own.keep (w' := w1) (lo := w.heap.size) (hi := w.heap.size + 1) ⟨h, fun a ha => by cases ha; exact Nat.lt_succ_self _⟩ (fun b _ hb => hb0.block b hb)).1
  have hbw : Below w.heap.size w w1 := (below_alloc1 w _).trans (hb0.mono (by omega))
  have hsw := hbw.size
  obtain ⟨D, hD⟩ : ∃ D, D = downOf xs lim (xs.length - 1) := ⟨_, rfl⟩
  rw [← hD] at hdl o2 ⊢
  have HDD := Lib.hid hD
  have RD := o2.rd
  clear hD o1 o2 hb0
  go_wp2_with fail
  go_loopw [6, 9, 10] (fun v i kp wr => ∃ k : Nat, k ≤ xs.length ∧ i = .int .i64 k ∧ wr.ownsRow w.heap.size 3 1 v (gath (fun _ => true) (rejF xs lim) k).length (ints (gath (fun _ => true) (rejF xs lim) k)) ∧ v.ownBlock ≠ none ∧ (∀ g, v.ownBlock = some g → g < l2 ∨ k2 ≤ g) ∧ RdI wr l2 k2 B1 D ∧ w1.heap.size ≤ wr.heap.size ∧ Below w.heap.size w wr) (fun _ i _ _ => xs.length - (intOf i).toNat)
  case atStart => exact ⟨0, Nat.zero_le _, rfl, hown0, by simp [Value.ownBlock], by intro g hg; simp [Value.ownBlock] at hg; omega, RD, by simp, hbw⟩
  case round =>
    obtain ⟨k, hk, rfl, hown, hv0, hv1, hrd, hsz1, hb⟩ := hrel
    have hgl := gath_le (fun _ => true) (rejF xs lim) k
    have HV0 := Lib.hid hv0
    have HV1 := Lib.hid hv1
    clear hv0 hv1
    by_cases hlt : k < xs.length
    rotate_left
    · obtain rfl : k = xs.length := by omega
      go_wp2_with fail
      go_ret2
      rw [HE.out]
      exact retLB_of hown hb
    by_cases hin : hasI D k = true
    · have HF := Lib.hid (show rejF xs lim k = 0 from by unfold rejF; rw [← HDD.out, if_pos hin])
      go_wp2_with (first | (go_at_call 48; refine (l1Has_any hrd (by omega)).mono ?_; rintro e w' ⟨rfl, rfl⟩) | (at_builtin; refine wpList_push _ rfl _ _ 24 rfl w.heap.size 3 i0 (.int .i64 0) 1 8 Try.underlying24 hi0 hz0 hz1 hz2 rfl (by decide) _ _ _ rfl hown [.int .i64 0] rfl (one_int _) rfl (by omega) (by decide) hb.size ?_; intro v1 w1 hown1 hb1 hs1 hat1 hk1))
      have hX := keep_rd (V := _) hrd hk1 HV1.out (by omega)
      have hY := push_out hown hat1 HV0.out HV1.out (show k2 ≤ wr.heap.size by omega)
      go_roundw
      case rel => exact ⟨k + 1, by omega, by go_num, push_rel (gath_yes rfl HF.out) hown1, hY.1, hY.2, hX, by omega, hb1 _ hb⟩
      case measure => simp [intOf]; omega
    · have hin' : hasI D k = false := by simpa using hin
      have HF := Lib.hid (show rejF xs lim k = 1 from by unfold rejF; rw [← HDD.out, if_neg (by rw [hin']; simp)])
      clear hin
      go_wp2_with (first | (go_at_call 48; refine (l1Has_any hrd (by omega)).mono ?_; rintro e w' ⟨rfl, rfl⟩) | (at_builtin; refine wpList_push _ rfl _ _ 24 rfl w.heap.size 3 i0 (.int .i64 0) 1 8 Try.underlying24 hi0 hz0 hz1 hz2 rfl (by decide) _ _ _ rfl hown [.int .i64 1] rfl (one_int _) rfl (by omega) (by decide) hb.size ?_; intro v1 w1 hown1 hb1 hs1 hat1 hk1))
      have hX := keep_rd (V := _) hrd hk1 HV1.out (by omega)
      have hY := push_out hown hat1 HV0.out HV1.out (show k2 ≤ wr.heap.size by omega)
      go_roundw
      case rel => exact ⟨k + 1, by omega, by go_num, push_rel (gath_yes rfl HF.out) hown1, hY.1, hY.2, hX, by omega, hb1 _ hb⟩
      case measure => simp [intOf]; omega

end Go.Proofs.Ytchgcpdmomeofaa
