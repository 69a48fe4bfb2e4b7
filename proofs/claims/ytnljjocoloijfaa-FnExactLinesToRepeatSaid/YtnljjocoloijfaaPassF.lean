/-
  This file proves contracts of BusyShare and LinesToRepeat, of the program and of the reference, and of the test that numbers ascend.
  Conditions: each contract's own hypotheses (that a slice reads as a list, that it is not too long).
-/
import Derived.Test.YtnljjocoloijfaaPassE
namespace Go.Proofs.Ytnljjocoloijfaa
open Go.RowKit
set_option linter.unusedSimpArgs false
set_option linter.unusedVariables false

set_option maxHeartbeats 2000000 in
set_option maxRecDepth 100000 in
theorem iBusyShare {A : Option Addr} {c lo hi : Nat} {ps : List GPass} {a b : Int} {w : World} (hr : RdP w lo hi A ps) (hl : ps.length ≤ 2097152) (hh : hi ≤ w.heap.size) :
    Calls Try.prog 19 #[.slice A ps.length c, .int .i64 a, .int .i64 b] w (RetIIB (vBusyShare ps a b).1 (vBusyShare ps a b).2.1 (vBusyShare ps a b).2.2 w) := by
  by_cases h1 : isPL ps = true
  rotate_left
  · have h1' : isPL ps = false := by simpa using h1
    have HE := Lib.hid (show vBusyShare ps a b = (0, 0, false) from by unfold vBusyShare; rw [if_neg (by simp [h1'])])
    clear h1
    go_enter Try.func19, Try.ntmps19
    go_wp2_with fail
    refine (arePasses_any hr (by omega) hh).mono ?_
    rintro e w1 ⟨rfl, B1⟩
    go_wp2_with fail
    go_ret3
    rw [HE.out]
    exact ⟨rfl, B1⟩
  by_cases h2 : inR a 0 10000 = true
  rotate_left
  · have h2' : inR a 0 10000 = false := by simpa using h2
    have HE := Lib.hid (show vBusyShare ps a b = (0, 0, false) from by unfold vBusyShare; rw [if_neg (by simp [h2'])])
    clear h2
    go_enter Try.func19, Try.ntmps19
    go_wp2_with fail
    refine (arePasses_any hr (by omega) hh).mono ?_
    rintro e w1 ⟨rfl, B1⟩
    go_wp2_with (go_at_call 40; refine (isTime_any _ _).mono ?_; rintro e w' ⟨rfl, rfl⟩)
    go_ret3
    rw [HE.out]
    exact ⟨rfl, B1⟩
  by_cases h3 : inR b 0 10000 = true
  rotate_left
  · have h3' : inR b 0 10000 = false := by simpa using h3
    have HE := Lib.hid (show vBusyShare ps a b = (0, 0, false) from by unfold vBusyShare; rw [if_neg (by simp [h3'])])
    clear h3
    go_enter Try.func19, Try.ntmps19
    go_wp2_with fail
    refine (arePasses_any hr (by omega) hh).mono ?_
    rintro e w1 ⟨rfl, B1⟩
    go_wp2_with (go_at_call 40; refine (isTime_any _ _).mono ?_; rintro e w' ⟨rfl, rfl⟩)
    go_ret3
    rw [HE.out]
    exact ⟨rfl, B1⟩
  by_cases h4 : a < b
  rotate_left
  · have h4' : b ≤ a := by omega
    have HE := Lib.hid (show vBusyShare ps a b = (0, 0, false) from by unfold vBusyShare; rw [if_neg (fun h => h4 h.2.2.2)])
    clear h4
    go_enter Try.func19, Try.ntmps19
    go_wp2_with fail
    refine (arePasses_any hr (by omega) hh).mono ?_
    rintro e w1 ⟨rfl, B1⟩
    go_wp2_with (go_at_call 40; refine (isTime_any _ _).mono ?_; rintro e w' ⟨rfl, rfl⟩)
    go_ret3
    rw [HE.out]
    exact ⟨rfl, B1⟩
  have h23 := And.intro (inR_true.1 h2) (inR_true.1 h3)
  have hw0 : a < b := h4
  have HE := Lib.hid (show vBusyShare ps a b = (redN (rsum (fB ps a b) ps.length) (b - a), redD (rsum (fB ps a b) ps.length) (b - a), true) from by unfold vBusyShare; rw [if_pos ⟨h1, inR_true.2 (by omega), inR_true.2 (by omega), h4⟩])
  have H1 := Lib.hid h1
  have qba : IntKind.i64.wrap (b - a) = b - a := wr64 (by omega) (by omega)
  go_enter Try.func19, Try.ntmps19
  go_wp2_with fail
  refine (arePasses_any hr (by omega) hh).mono ?_
  rintro e w1 ⟨rfl, B1⟩
  go_wp2_with (go_at_call 40; refine (isTime_any _ _).mono ?_; rintro e w' ⟨rfl, rfl⟩)
  clear h1
  go_loopw [9, 34] (fun s i wr => ∃ k : Nat, k ≤ ps.length ∧ i = .int .i64 k ∧ s = .int .i64 (rsum (fB ps a b) k) ∧ Below w.heap.size w wr) (fun _ i _ => ps.length - (intOf i).toNat)
  case atStart => exact ⟨0, Nat.zero_le _, rfl, rfl, B1⟩
  case round =>
    obtain ⟨k, hk, rfl, rfl, hb⟩ := hrel
    have hsb := fB_bound (a := a) (b := b) H1.out k hk
    have HS := Lib.hid (rsum_succ (fB ps a b) k)
    by_cases hlt : k < ps.length
    rotate_left
    · obtain rfl : k = ps.length := by omega
      generalize rsum (fB ps a b) ps.length = sm at hsb HS HE ⊢
      go_wp2_with fail
      refine (lowestTerms_any sm (b - a) _ (by omega) (by omega) (by omega)).mono ?_
      rintro e w3 ⟨rfl, n, rfl⟩
      have hb3 := below_drewN hb n
      go_wp2_with fail
      go_ret3
      rw [HE.out]
      exact ⟨rfl, hb3⟩
    obtain ⟨b0, off, p, rfl, hblo, hbhi, hp, c0, c1, c2, c3, c4, c5⟩ := (hr.below hb hh).getp hlt
    have hpb := isPs_bound (isPL_get H1.out hp).1
    have HP := Lib.hid hp
    have q1 : (k : Int) < (ps.length : Int) := by omega
    clear hp
    generalize rsum (fB ps a b) k = sm at hsb HS ⊢
    have HN := Lib.hid (show rsum (fB ps a b) (k + 1) = sm + max (min p.en b - max p.bg a) 0 from by rw [HS.out, fB, gP_of HP.out])
    have q2 : IntKind.i64.wrap (min p.en b - max p.bg a) = min p.en b - max p.bg a := wr64 (by omega) (by omega)
    have q3 : IntKind.i64.wrap (sm + max (min p.en b - max p.bg a) 0) = sm + max (min p.en b - max p.bg a) 0 := wr64 (by omega) (by omega)
    go_wp2_with fail
    have C := pass_cells p wr 46
    have hbx : Below w.heap.size w (wr.alloc (.cells #[.int .i64 p.ln, .int .i64 p.bg, .int .i64 p.en, .int .i64 p.pg, .int .i64 p.bd, .int .i64 p.cs] 46)) := hb.trans ((below_alloc1 _ _).mono hb.size)
    generalize wr.alloc (.cells #[.int .i64 p.ln, .int .i64 p.bg, .int .i64 p.en, .int .i64 p.pg, .int .i64 p.bd, .int .i64 p.cs] 46) = wx at C hbx ⊢
    obtain ⟨d0, d1, d2, d3, d4, d5⟩ := C
    go_wp2_with fail
    go_roundw
    case rel => exact ⟨k + 1, by omega, by go_num, (by rw [HN.out]; congr 1; (repeat' split) <;> omega), hbx⟩
    case measure => simp [intOf]; omega

set_option maxHeartbeats 2000000 in
set_option maxRecDepth 100000 in
theorem sBusyShare {A : Option Addr} {c lo hi : Nat} {ps : List GPass} {a b : Int} {w : World} (hr : RdP w lo hi A ps) (hl : ps.length ≤ 2097152) (hh : hi ≤ w.heap.size) :
    Calls Try.prog 18 #[.slice A ps.length c, .int .i64 a, .int .i64 b] w (RetIIB (vBusyShare ps a b).1 (vBusyShare ps a b).2.1 (vBusyShare ps a b).2.2 w) := by
  by_cases h1 : isPL ps = true
  rotate_left
  · have h1' : isPL ps = false := by simpa using h1
    have HE := Lib.hid (show vBusyShare ps a b = (0, 0, false) from by unfold vBusyShare; rw [if_neg (by simp [h1'])])
    clear h1
    go_enter Try.func18, Try.ntmps18
    go_wp2_with fail
    refine (l11Good_any hr (by omega) hh).mono ?_
    rintro e w1 ⟨rfl, B1⟩
    go_wp2_with fail
    go_ret3
    rw [HE.out]
    exact ⟨rfl, B1⟩
  by_cases h3 : inR b 0 10000 = true
  rotate_left
  · have h3' : inR b 0 10000 = false := by simpa using h3
    have HE := Lib.hid (show vBusyShare ps a b = (0, 0, false) from by unfold vBusyShare; rw [if_neg (by simp [h3'])])
    clear h3
    go_enter Try.func18, Try.ntmps18
    go_wp2_with fail
    refine (l11Good_any hr (by omega) hh).mono ?_
    rintro e w1 ⟨rfl, B1⟩
    go_wp2_with (first | (go_at_call 35; refine (l2Time_any _ _).mono ?_; rintro e w' ⟨rfl, rfl⟩) | (go_at_call 36; refine (l1In_any _ _ _ _).mono ?_; rintro e w' ⟨rfl, rfl⟩))
    go_ret3
    rw [HE.out]
    exact ⟨rfl, B1⟩
  have h3b := inR_true.1 h3
  have q0 : IntKind.i64.wrap (b - 1) = b - 1 := wr64 (by omega) (by omega)
  by_cases h2 : inR a 0 (b - 1) = true
  rotate_left
  · have h2' : inR a 0 (b - 1) = false := by simpa using h2
    have HE := Lib.hid (show vBusyShare ps a b = (0, 0, false) from by unfold vBusyShare; rw [if_neg (fun h => by have x := inR_true.1 h.2.1; have y := inR_false.1 h2'; omega)])
    clear h2
    go_enter Try.func18, Try.ntmps18
    go_wp2_with fail
    refine (l11Good_any hr (by omega) hh).mono ?_
    rintro e w1 ⟨rfl, B1⟩
    go_wp2_with (first | (go_at_call 35; refine (l2Time_any _ _).mono ?_; rintro e w' ⟨rfl, rfl⟩) | (go_at_call 36; refine (l1In_any _ _ _ _).mono ?_; rintro e w' ⟨rfl, rfl⟩))
    go_ret3
    rw [HE.out]
    exact ⟨rfl, B1⟩
  have h2b := inR_true.1 h2
  have h23 : (0 ≤ a ∧ a ≤ 10000) ∧ (0 ≤ b ∧ b ≤ 10000) := by omega
  have h4 : a < b := by omega
  have HE := Lib.hid (show vBusyShare ps a b = (redN (rsum (fB ps a b) ps.length) (b - a), redD (rsum (fB ps a b) ps.length) (b - a), true) from by unfold vBusyShare; rw [if_pos ⟨h1, inR_true.2 (by omega), inR_true.2 (by omega), h4⟩])
  have H1 := Lib.hid h1
  have qba : IntKind.i64.wrap (b - a) = b - a := wr64 (by omega) (by omega)
  go_enter Try.func18, Try.ntmps18
  go_wp2_with fail
  refine (l11Good_any hr (by omega) hh).mono ?_
  rintro e w1 ⟨rfl, B1⟩
  go_wp2_with (first | (go_at_call 35; refine (l2Time_any _ _).mono ?_; rintro e w' ⟨rfl, rfl⟩) | (go_at_call 36; refine (l1In_any _ _ _ _).mono ?_; rintro e w' ⟨rfl, rfl⟩))
  clear h1
  go_loopw [9, 10] (fun s i wr => ∃ k : Nat, k ≤ ps.length ∧ i = .int .i64 k ∧ s = .int .i64 (rsum (fB ps a b) k) ∧ Below w.heap.size w wr) (fun _ i _ => ps.length - (intOf i).toNat)
  case atStart => exact ⟨0, Nat.zero_le _, rfl, rfl, B1⟩
  case round =>
    obtain ⟨k, hk, rfl, rfl, hb⟩ := hrel
    have hsb := fB_bound (a := a) (b := b) H1.out k hk
    have HS := Lib.hid (rsum_succ (fB ps a b) k)
    by_cases hlt : k < ps.length
    rotate_left
    · obtain rfl : k = ps.length := by omega
      generalize rsum (fB ps a b) ps.length = sm at hsb HS HE ⊢
      go_wp2_with fail
      refine (l2Reduce_any sm (b - a) _ (by omega) (by omega) (by omega)).mono ?_
      rintro e w3 ⟨rfl, n, rfl⟩
      have hb3 := below_drewN hb n
      go_wp2_with fail
      go_ret3
      rw [HE.out]
      exact ⟨rfl, hb3⟩
    obtain ⟨b0, off, p, rfl, hblo, hbhi, hp, c0, c1, c2, c3, c4, c5⟩ := (hr.below hb hh).getp hlt
    have hpb := isPs_bound (isPL_get H1.out hp).1
    have HP := Lib.hid hp
    have q1 : (k : Int) < (ps.length : Int) := by omega
    clear hp
    generalize rsum (fB ps a b) k = sm at hsb HS ⊢
    have HN := Lib.hid (show rsum (fB ps a b) (k + 1) = sm + max (min p.en b - max p.bg a) 0 from by rw [HS.out, fB, gP_of HP.out])
    have m1 := leastI_eq b p.en
    have m2 := mostI_eq a p.bg
    have m3 := mostI_eq 0 (leastI b p.en - mostI a p.bg)
    have HM := Lib.hid (show sm + mostI 0 (leastI b p.en - mostI a p.bg) = sm + max (min p.en b - max p.bg a) 0 from by omega)
    have q2 : IntKind.i64.wrap (leastI b p.en - mostI a p.bg) = leastI b p.en - mostI a p.bg := wr64 (by omega) (by omega)
    have q3 : IntKind.i64.wrap (sm + mostI 0 (leastI b p.en - mostI a p.bg)) = sm + mostI 0 (leastI b p.en - mostI a p.bg) := wr64 (by omega) (by omega)
    clear m1 m2 m3
    go_wp2_with fail
    go_quiet ((first | (go_at_call 37; exact quiet_left (l1Most_any _ _ _)) | (go_at_call 38; exact quiet_left (passLeast_any _ _ _))))
    go_wp2_with fail
    go_roundw
    case rel => exact ⟨k + 1, by omega, by go_num, by rw [HN.out, HM.out], below_drewN hb _⟩
    case measure => simp [intOf]; omega

/-- Number k is in range, and greater than the one before it. -/
def aOk (xs : List Int) (lo hi : Int) (k : Nat) : Bool := (xs[k]?.any fun x => inR x lo hi) && (k == 0 || (xs[k - 1]?.any fun y => xs[k]?.any fun x => decide (y < x)))
def isAsc (xs : List Int) (lo hi : Int) : Bool := (List.range xs.length).all (aOk xs lo hi)
theorem aOk_bad {xs : List Int} {lo hi : Int} {k : Nat} {x : Int} (hp : xs[k]? = some x) (h : inR x lo hi = false) : aOk xs lo hi k = false := by simp [aOk, hp, h]
theorem aOk_zero {xs : List Int} {lo hi : Int} {k : Nat} {x : Int} (hk : k = 0) (hp : xs[k]? = some x) (h : inR x lo hi = true) : aOk xs lo hi k = true := by subst hk; simp [aOk, hp, h]
theorem aOk_late {xs : List Int} {lo hi : Int} {k : Nat} {x y : Int} (hk : 0 < k) (hp : xs[k]? = some x) (hq : xs[k - 1]? = some y) (h2 : x ≤ y) : aOk xs lo hi k = false := by
  simp [aOk, hp, hq]; intro _; exact ⟨by omega, h2⟩
theorem aOk_next {xs : List Int} {lo hi : Int} {k : Nat} {x y : Int} (hp : xs[k]? = some x) (hq : xs[k - 1]? = some y) (h : inR x lo hi = true) (h2 : y < x) : aOk xs lo hi k = true := by simp [aOk, hp, hq, h, h2]
theorem isAsc_bad {xs : List Int} {lo hi : Int} {k : Nat} (hk : k < xs.length) (h : aOk xs lo hi k = false) : isAsc xs lo hi = false := by
  unfold isAsc
  rw [List.all_eq_false]
  exact ⟨k, List.mem_range.2 hk, by rw [h]; exact Bool.false_ne_true⟩

set_option maxHeartbeats 2000000 in
set_option maxRecDepth 100000 in
theorem ascending_any {A : Option Addr} {c lo hi : Nat} {xs : List Int} {l h : Int} {w : World} (hr : RdI w lo hi A xs) (hl : xs.length ≤ 4194304) (hh : hi ≤ w.heap.size) :
    Calls Try.prog 46 #[.slice A xs.length c, .int .i64 l, .int .i64 h] w (RetB (isAsc xs l h) w) := by
  go_enter Try.func46, Try.ntmps46
  go_wp2_with fail
  go_loopw [11] (fun i wr => ∃ k : Nat, k ≤ xs.length ∧ i = .int .i64 k ∧ (List.range k).all (aOk xs l h) = true ∧ Below w.heap.size w wr) (fun i _ => xs.length - (intOf i).toNat)
  case atStart => exact ⟨0, Nat.zero_le _, rfl, rfl, Below.refl _ _⟩
  case round =>
    obtain ⟨k, hk, rfl, hok, hb⟩ := hrel
    have HK := Lib.hid hok
    clear hok
    by_cases hlt : k < xs.length
    rotate_left
    · obtain rfl : k = xs.length := by omega
      go_wp2_with fail
      go_ret
      exact ⟨ret_bool HK.out.symm, hb⟩
    obtain ⟨b, off, x, rfl, hp, c0⟩ := (hr.below hb hh).geti hlt
    have HP := Lib.hid hp
    have q1 : (k : Int) < (xs.length : Int) := by omega
    clear hp
    by_cases hps : inR x l h = true
    rotate_left
    · have hps' : inR x l h = false := by simpa using hps
      clear hps
      have HO := Lib.hid (aOk_bad HP.out hps')
      go_wp2_with (go_at_call 49; refine (inside_any _ _ _ _).mono ?_; rintro e w' ⟨rfl, rfl⟩)
      go_ret
      exact ⟨ret_bool (isAsc_bad hlt HO.out).symm, hb⟩
    rcases Nat.eq_zero_or_pos k with hz | hpos
    · have hd : decide (0 < k) = false := by simp; omega
      have HO := Lib.hid (aOk_zero hz HP.out hps)
      clear hz
      go_wp2_with (go_at_call 49; refine (inside_any _ _ _ _).mono ?_; rintro e w' ⟨rfl, rfl⟩)
      go_roundw
      case rel => exact ⟨k + 1, by omega, by go_num, all_step HK.out HO.out, hb⟩
      case measure => simp [intOf]; omega
    obtain ⟨b', off', y, hA, hq, e0⟩ := (hr.below hb hh).geti (show k - 1 < xs.length by omega)
    obtain ⟨rfl, rfl⟩ : b = b' ∧ off = off' := by cases hA; exact ⟨rfl, rfl⟩
    have HQ := Lib.hid hq
    clear hA hq
    have g0 : (0 : Int) < (k : Int) := by omega
    have g2 : (0 : Int) ≤ (k : Int) - 1 := by omega
    have g2b : (1 : Int) ≤ (k : Int) := by omega
    have g3 : ((k : Int) - 1).toNat = k - 1 := by omega
    have g7 : (k : Int) - 1 < (xs.length : Int) := by omega
    have g4 : IntKind.i64.wrap ((k : Int) - 1) = (k : Int) - 1 := wr64 (by omega) (by omega)
    by_cases hov : x ≤ y
    · have HO := Lib.hid (aOk_late (lo := l) (hi := h) hpos HP.out HQ.out hov)
      go_wp2_with (go_at_call 49; refine (inside_any _ _ _ _).mono ?_; rintro e w' ⟨rfl, rfl⟩)
      go_ret
      exact ⟨ret_bool (isAsc_bad hlt HO.out).symm, hb⟩
    · have hov' : y < x := by omega
      have HO := Lib.hid (aOk_next HP.out HQ.out hps hov')
      go_wp2_with (go_at_call 49; refine (inside_any _ _ _ _).mono ?_; rintro e w' ⟨rfl, rfl⟩)
      go_roundw
      case rel => exact ⟨k + 1, by omega, by go_num, all_step HK.out HO.out, hb⟩
      case measure => simp [intOf]; omega

set_option maxHeartbeats 2000000 in
set_option maxRecDepth 100000 in
theorem l1Rising_any {A : Option Addr} {c lo hi : Nat} {xs : List Int} {l h : Int} {w : World} (hr : RdI w lo hi A xs) (hl : xs.length ≤ 4194304) (hh : hi ≤ w.heap.size) :
    Calls Try.prog 44 #[.slice A xs.length c, .int .i64 l, .int .i64 h] w (RetB (isAsc xs l h) w) := by
  go_enter Try.func44, Try.ntmps44
  go_wp2_with fail
  go_loopw [7] (fun i wr => ∃ k : Nat, k ≤ xs.length ∧ i = .int .i64 k ∧ (List.range k).all (aOk xs l h) = true ∧ Below w.heap.size w wr) (fun i _ => xs.length - (intOf i).toNat)
  case atStart => exact ⟨0, Nat.zero_le _, rfl, rfl, Below.refl _ _⟩
  case round =>
    obtain ⟨k, hk, rfl, hok, hb⟩ := hrel
    have HK := Lib.hid hok
    clear hok
    by_cases hlt : k < xs.length
    rotate_left
    · obtain rfl : k = xs.length := by omega
      go_wp2_with fail
      go_ret
      exact ⟨ret_bool HK.out.symm, hb⟩
    obtain ⟨b, off, x, rfl, hp, c0⟩ := (hr.below hb hh).geti hlt
    have HP := Lib.hid hp
    have q1 : (k : Int) < (xs.length : Int) := by omega
    clear hp
    by_cases hps : inR x l h = true
    rotate_left
    · have hps' : inR x l h = false := by simpa using hps
      clear hps
      have HO := Lib.hid (aOk_bad HP.out hps')
      go_wp2_with fail
      go_quiet ((go_at_call 36; exact quiet_left (l1In_any _ _ _ _)))
      go_wp2_with fail
      go_ret
      exact ⟨ret_bool (isAsc_bad hlt HO.out).symm, below_drewN hb _⟩
    rcases Nat.eq_zero_or_pos k with hz | hpos
    · have hd : decide (0 < k) = false := by simp; omega
      have HO := Lib.hid (aOk_zero hz HP.out hps)
      clear hz
      go_wp2_with fail
      go_quiet ((go_at_call 36; exact quiet_left (l1In_any _ _ _ _)))
      go_wp2_with fail
      go_roundw
      case rel => exact ⟨k + 1, by omega, by go_num, all_step HK.out HO.out, below_drewN hb _⟩
      case measure => simp [intOf]; omega
    obtain ⟨b', off', y, hA, hq, e0⟩ := (hr.below hb hh).geti (show k - 1 < xs.length by omega)
    obtain ⟨rfl, rfl⟩ : b = b' ∧ off = off' := by cases hA; exact ⟨rfl, rfl⟩
    have HQ := Lib.hid hq
    clear hA hq
    have g0 : (0 : Int) < (k : Int) := by omega
    have g2 : (0 : Int) ≤ (k : Int) - 1 := by omega
    have g2b : (1 : Int) ≤ (k : Int) := by omega
    have g3 : ((k : Int) - 1).toNat = k - 1 := by omega
    have g7 : (k : Int) - 1 < (xs.length : Int) := by omega
    have g4 : IntKind.i64.wrap ((k : Int) - 1) = (k : Int) - 1 := wr64 (by omega) (by omega)
    by_cases hov : x ≤ y
    · have HO := Lib.hid (aOk_late (lo := l) (hi := h) hpos HP.out HQ.out hov)
      go_wp2_with fail
      go_quiet ((go_at_call 36; exact quiet_left (l1In_any _ _ _ _)))
      go_wp2_with fail
      go_ret
      exact ⟨ret_bool (isAsc_bad hlt HO.out).symm, below_drewN hb _⟩
    · have hov' : y < x := by omega
      have HO := Lib.hid (aOk_next HP.out HQ.out hps hov')
      go_wp2_with fail
      go_quiet ((go_at_call 36; exact quiet_left (l1In_any _ _ _ _)))
      go_wp2_with fail
      go_roundw
      case rel => exact ⟨k + 1, by omega, by go_num, all_step HK.out HO.out, below_drewN hb _⟩
      case measure => simp [intOf]; omega

def pRep (ps : List GPass) (xs : List Int) (i : Nat) : Bool := !sailed ps (xs.getD i 0)
def fRep (xs : List Int) (i : Nat) : Int := xs.getD i 0
def vLinesToRepeat (ps : List GPass) (xs : List Int) : List Int × Bool := if isPL ps = true ∧ xs.length ≤ 30 ∧ isAsc xs 1 999 = true then (gath (pRep ps xs) (fRep xs) xs.length, true) else ([], false)
theorem vLinesToRepeat_len0 (ps : List GPass) (xs : List Int) : (vLinesToRepeat ps xs).1.length ≤ xs.length := by
  unfold vLinesToRepeat
  split
  · exact gath_le _ _ _
  · simp

set_option maxHeartbeats 2000000 in
set_option maxRecDepth 100000 in
theorem iLinesToRepeat {A B : Option Addr} {c d lo hi lo' hi' : Nat} {ps : List GPass} {xs : List Int} {w : World} (hr : RdP w lo hi A ps) (hl : ps.length ≤ 2097152) (hh : hi ≤ w.heap.size) (hr' : RdI w lo' hi' B xs) (hl' : xs.length ≤ 4194304) (hh' : hi' ≤ w.heap.size) :
    Calls Try.prog 24 #[.slice A ps.length c, .slice B xs.length d] w (RetLB (vLinesToRepeat ps xs).1 (vLinesToRepeat ps xs).2 w) := by
  obtain ⟨i0, hi0, hz0, hz1, hz2⟩ := info_parts int_info
  by_cases h1 : isPL ps = true
  rotate_left
  · have h1' : isPL ps = false := by simpa using h1
    have HE := Lib.hid (show vLinesToRepeat ps xs = ([], false) from by unfold vLinesToRepeat; rw [if_neg (by simp [h1'])])
    clear h1
    go_enter Try.func24, Try.ntmps24
    go_wp2_with fail
    refine (arePasses_any hr (by omega) hh).mono ?_
    rintro e w1 ⟨rfl, B1⟩
    go_wp2_with fail
    go_ret2
    rw [HE.out]
    exact retLB_nil _ _ _ B1
  by_cases h2 : xs.length ≤ 30
  rotate_left
  · have h2' : (30 : Int) < (xs.length : Int) := by omega
    have HE := Lib.hid (show vLinesToRepeat ps xs = ([], false) from by unfold vLinesToRepeat; rw [if_neg (fun h => h2 h.2.1)])
    clear h2
    go_enter Try.func24, Try.ntmps24
    go_wp2_with fail
    refine (arePasses_any hr (by omega) hh).mono ?_
    rintro e w1 ⟨rfl, B1⟩
    go_wp2_with fail
    go_ret2
    rw [HE.out]
    exact retLB_nil _ _ _ B1
  have h2' : ¬ ((30 : Int) < (xs.length : Int)) := by omega
  by_cases h3 : isAsc xs 1 999 = true
  rotate_left
  · have h3' : isAsc xs 1 999 = false := by simpa using h3
    have HE := Lib.hid (show vLinesToRepeat ps xs = ([], false) from by unfold vLinesToRepeat; rw [if_neg (by simp [h3'])])
    clear h3
    go_enter Try.func24, Try.ntmps24
    go_wp2_with fail
    refine (arePasses_any hr (by omega) hh).mono ?_
    rintro e w1 ⟨rfl, B1⟩
    go_wp2_with fail
    refine (ascending_any (hr'.below B1 hh') (by omega) (by have := B1.size; omega)).mono ?_
    rintro e w2 ⟨rfl, B2⟩
    have B3 := B1.trans (B2.mono B1.size)
    go_wp2_with fail
    go_ret2
    rw [HE.out]
    exact retLB_nil _ _ _ B3
  have HE := Lib.hid (show vLinesToRepeat ps xs = (gath (pRep ps xs) (fRep xs) xs.length, true) from by unfold vLinesToRepeat; rw [if_pos ⟨h1, h2, h3⟩])
  have H1 := Lib.hid h1
  go_enter Try.func24, Try.ntmps24
  go_wp2_with fail
  refine (arePasses_any hr (by omega) hh).mono ?_
  rintro e w1 ⟨rfl, B1⟩
  go_wp2_with fail
  refine (ascending_any (hr'.below B1 hh') (by omega) (by have := B1.size; omega)).mono ?_
  rintro e w2 ⟨rfl, B2⟩
  have B3 := B1.trans (B2.mono B1.size)
  go_wp2_with fail
  clear h1
  go_loopw [6, 25] (fun v i wr => ∃ k : Nat, k ≤ xs.length ∧ i = .int .i64 k ∧ wr.ownsRow w.heap.size 3 1 v (gath (pRep ps xs) (fRep xs) k).length (ints (gath (pRep ps xs) (fRep xs) k)) ∧ Below w.heap.size w wr) (fun _ i _ => xs.length - (intOf i).toNat)
  case atStart => exact ⟨0, Nat.zero_le _, rfl, row_empty_at _ _ _ B3.size, B3.alloc B3.size _⟩
  case round =>
    obtain ⟨k, hk, rfl, hown, hb⟩ := hrel
    have hgl := gath_le (pRep ps xs) (fRep xs) k
    by_cases hlt : k < xs.length
    rotate_left
    · obtain rfl : k = xs.length := by omega
      go_wp2_with fail
      go_ret2
      rw [HE.out]
      exact retLB_of hown hb
    obtain ⟨b, off, x, rfl, hx, hcell⟩ := (hr'.below hb hh').geti hlt
    have HX := Lib.hid (getD_of hx)
    have q1 : (k : Int) < (xs.length : Int) := by omega
    clear hx
    obtain ⟨sv, hsv⟩ : ∃ sv, sv = sailed ps x := ⟨_, rfl⟩
    have HSV := Lib.hid hsv
    clear hsv
    by_cases hs : sv = true
    rotate_left
    · have hs' : sv = false := by simpa using hs
      have HG := Lib.hid (gath_yes (p := pRep ps xs) (f := fRep xs) (k := k) (x := x) (by unfold pRep; rw [HX.out, ← HSV.out, hs']; rfl) HX.out)
      clear hs
      generalize gath (pRep ps xs) (fRep xs) k = F at hown hgl HG ⊢
      go_wp2_with fail
      refine (isSailed_any (hr.below hb hh) (by omega) (by have := hb.size; omega) H1.out).mono ?_
      rintro e w5 ⟨rfl, B5⟩
      rw [← HSV.out, hs']
      obtain ⟨A5, c5, rfl, O5⟩ := Own.of_row hown
      have O6 := O5.below B5 (Nat.le_refl _)
      have hb5 := hb.trans (B5.mono hb.size)
      have hc5 : w5.cell? ⟨b, off + k, none⟩ = some (.int .i64 x) := by rw [← hcell]; exact B5.cell (p := ⟨b, off + k, none⟩) (World.block_lt_of_cell? wr _ hcell)
      clear hcell hown O5
      go_wp2_with (at_builtin; refine wpList_push _ rfl _ _ 37 rfl w.heap.size 3 i0 (.int .i64 0) 1 8 Try.underlying37 hi0 hz0 hz1 hz2 rfl (by decide) _ F.length (ints F) rfl O6.1 [.int .i64 x] rfl (one_int x) rfl (by omega) (by decide) hb5.size ?_; intro v7 w7 hown7 hb7 hs7 _ _)
      have hown8 := push_rel HG.out hown7
      have hb8 := hb7 _ hb5
      go_wp2_with fail
      go_roundw
      case rel => exact ⟨k + 1, by omega, by go_num, hown8, hb8⟩
      case measure => simp [intOf]; omega
    · have hs' : sv = true := hs
      have HG := Lib.hid (gath_no (p := pRep ps xs) (f := fRep xs) (k := k) (by unfold pRep; rw [HX.out, ← HSV.out, hs']; rfl))
      clear hs
      generalize gath (pRep ps xs) (fRep xs) k = F at hown hgl HG ⊢
      go_wp2_with fail
      refine (isSailed_any (hr.below hb hh) (by omega) (by have := hb.size; omega) H1.out).mono ?_
      rintro e w5 ⟨rfl, B5⟩
      rw [← HSV.out, hs']
      obtain ⟨A5, c5, rfl, O5⟩ := Own.of_row hown
      have O6 := O5.below B5 (Nat.le_refl _)
      have hb5 := hb.trans (B5.mono hb.size)
      have hc5 : w5.cell? ⟨b, off + k, none⟩ = some (.int .i64 x) := by rw [← hcell]; exact B5.cell (p := ⟨b, off + k, none⟩) (World.block_lt_of_cell? wr _ hcell)
      clear hcell hown O5
      go_wp2_with fail
      go_roundw
      case rel => exact ⟨k + 1, by omega, by go_num, by rw [HG.out]; exact O6.1, hb5⟩
      case measure => simp [intOf]; omega

set_option maxHeartbeats 2000000 in
set_option maxRecDepth 100000 in
theorem sLinesToRepeat {A B : Option Addr} {c d lo hi lo' hi' : Nat} {ps : List GPass} {xs : List Int} {w : World} (hr : RdP w lo hi A ps) (hl : ps.length ≤ 2097152) (hh : hi ≤ w.heap.size) (hr' : RdI w lo' hi' B xs) (hl' : xs.length ≤ 4194304) (hh' : hi' ≤ w.heap.size) :
    Calls Try.prog 22 #[.slice A ps.length c, .slice B xs.length d] w (RetLB (vLinesToRepeat ps xs).1 (vLinesToRepeat ps xs).2 w) := by
  obtain ⟨i0, hi0, hz0, hz1, hz2⟩ := info_parts int_info
  by_cases h1 : isPL ps = true
  rotate_left
  · have h1' : isPL ps = false := by simpa using h1
    have HE := Lib.hid (show vLinesToRepeat ps xs = ([], false) from by unfold vLinesToRepeat; rw [if_neg (by simp [h1'])])
    clear h1
    go_enter Try.func22, Try.ntmps22
    go_wp2_with fail
    have X0 := below_alloc1 w (.cells #[] 3)
    have R0 := row_empty w 3 1
    generalize w.alloc (.cells #[] 3) = wx at X0 R0 ⊢
    have R1 : Own wx 3 w.heap.size wx.heap.size 1 (some ⟨w.heap.size, 0, none⟩) 0 0 [] := ⟨R0, fun a ha => by cases ha; exact (R0.lt _ rfl).2⟩
    refine (l11Good_any (hr.below X0 hh) (by omega) (by have := X0.size; omega)).mono ?_
    rintro e w1 ⟨rfl, B1'⟩
    have R2 := R1.below B1' (Nat.le_refl _)
    have B1 := X0.trans (B1'.mono X0.size)
    have sz1 := B1'.size
    go_wp2_with fail
    go_ret2
    rw [HE.out]
    exact ⟨_, 0, rfl, R2.more (Nat.le_refl _) sz1, B1⟩
  by_cases h2 : xs.length ≤ 30
  rotate_left
  · have h2' : (30 : Int) < (xs.length : Int) := by omega
    have HE := Lib.hid (show vLinesToRepeat ps xs = ([], false) from by unfold vLinesToRepeat; rw [if_neg (fun h => h2 h.2.1)])
    clear h2
    go_enter Try.func22, Try.ntmps22
    go_wp2_with fail
    have X0 := below_alloc1 w (.cells #[] 3)
    have R0 := row_empty w 3 1
    generalize w.alloc (.cells #[] 3) = wx at X0 R0 ⊢
    have R1 : Own wx 3 w.heap.size wx.heap.size 1 (some ⟨w.heap.size, 0, none⟩) 0 0 [] := ⟨R0, fun a ha => by cases ha; exact (R0.lt _ rfl).2⟩
    refine (l11Good_any (hr.below X0 hh) (by omega) (by have := X0.size; omega)).mono ?_
    rintro e w1 ⟨rfl, B1'⟩
    have R2 := R1.below B1' (Nat.le_refl _)
    have B1 := X0.trans (B1'.mono X0.size)
    have sz1 := B1'.size
    go_wp2_with fail
    go_ret2
    rw [HE.out]
    exact ⟨_, 0, rfl, R2.more (Nat.le_refl _) sz1, B1⟩
  have h2' : ¬ ((30 : Int) < (xs.length : Int)) := by omega
  by_cases h3 : isAsc xs 1 999 = true
  rotate_left
  · have h3' : isAsc xs 1 999 = false := by simpa using h3
    have HE := Lib.hid (show vLinesToRepeat ps xs = ([], false) from by unfold vLinesToRepeat; rw [if_neg (by simp [h3'])])
    clear h3
    go_enter Try.func22, Try.ntmps22
    go_wp2_with fail
    have X0 := below_alloc1 w (.cells #[] 3)
    have R0 := row_empty w 3 1
    generalize w.alloc (.cells #[] 3) = wx at X0 R0 ⊢
    have R1 : Own wx 3 w.heap.size wx.heap.size 1 (some ⟨w.heap.size, 0, none⟩) 0 0 [] := ⟨R0, fun a ha => by cases ha; exact (R0.lt _ rfl).2⟩
    refine (l11Good_any (hr.below X0 hh) (by omega) (by have := X0.size; omega)).mono ?_
    rintro e w1 ⟨rfl, B1'⟩
    have R2 := R1.below B1' (Nat.le_refl _)
    have B1 := X0.trans (B1'.mono X0.size)
    have sz1 := B1'.size
    go_wp2_with fail
    refine (l1Rising_any (hr'.below B1 hh') (by omega) (by have := B1.size; omega)).mono ?_
    rintro e w2 ⟨rfl, B2⟩
    have B3 := B1.trans (B2.mono B1.size)
    have R3 := R2.below B2 sz1
    have sz2 := B2.size
    go_wp2_with fail
    go_ret2
    rw [HE.out]
    exact ⟨_, 0, rfl, R3.more (Nat.le_refl _) (by omega), B3⟩
  have HE := Lib.hid (show vLinesToRepeat ps xs = (gath (pRep ps xs) (fRep xs) xs.length, true) from by unfold vLinesToRepeat; rw [if_pos ⟨h1, h2, h3⟩])
  have H1 := Lib.hid h1
  go_enter Try.func22, Try.ntmps22
  go_wp2_with fail
  have X0 := below_alloc1 w (.cells #[] 3)
  have R0 := row_empty w 3 1
  generalize w.alloc (.cells #[] 3) = wx at X0 R0 ⊢
  have R1 : Own wx 3 w.heap.size wx.heap.size 1 (some ⟨w.heap.size, 0, none⟩) 0 0 [] := ⟨R0, fun a ha => by cases ha; exact (R0.lt _ rfl).2⟩
  refine (l11Good_any (hr.below X0 hh) (by omega) (by have := X0.size; omega)).mono ?_
  rintro e w1 ⟨rfl, B1'⟩
  have R2 := R1.below B1' (Nat.le_refl _)
  have B1 := X0.trans (B1'.mono X0.size)
  have sz1 := B1'.size
  go_wp2_with fail
  refine (l1Rising_any (hr'.below B1 hh') (by omega) (by have := B1.size; omega)).mono ?_
  rintro e w2 ⟨rfl, B2⟩
  have B3 := B1.trans (B2.mono B1.size)
  have R3 := R2.below B2 sz1
  have sz2 := B2.size
  go_wp2_with fail
  clear h1
  go_loopw [6, 7] (fun v i wr => ∃ k : Nat, k ≤ xs.length ∧ i = .int .i64 k ∧ wr.ownsRow w.heap.size 3 1 v (gath (pRep ps xs) (fRep xs) k).length (ints (gath (pRep ps xs) (fRep xs) k)) ∧ Below w.heap.size w wr) (fun _ i _ => xs.length - (intOf i).toNat)
  case atStart => exact ⟨0, Nat.zero_le _, rfl, R3.1, B3⟩
  case round =>
    obtain ⟨k, hk, rfl, hown, hb⟩ := hrel
    have hgl := gath_le (pRep ps xs) (fRep xs) k
    by_cases hlt : k < xs.length
    rotate_left
    · obtain rfl : k = xs.length := by omega
      go_wp2_with fail
      go_ret2
      rw [HE.out]
      exact retLB_of hown hb
    obtain ⟨b, off, x, rfl, hx, hcell⟩ := (hr'.below hb hh').geti hlt
    have HX := Lib.hid (getD_of hx)
    have q1 : (k : Int) < (xs.length : Int) := by omega
    clear hx
    obtain ⟨sv, hsv⟩ : ∃ sv, sv = sailed ps x := ⟨_, rfl⟩
    have HSV := Lib.hid hsv
    clear hsv
    by_cases hs : sv = true
    rotate_left
    · have hs' : sv = false := by simpa using hs
      have HG := Lib.hid (gath_yes (p := pRep ps xs) (f := fRep xs) (k := k) (x := x) (by unfold pRep; rw [HX.out, ← HSV.out, hs']; rfl) HX.out)
      clear hs
      generalize gath (pRep ps xs) (fRep xs) k = F at hown hgl HG ⊢
      go_wp2_with fail
      refine (l11Sailed_any (hr.below hb hh) (by omega) (by have := hb.size; omega) H1.out).mono ?_
      rintro e w5 ⟨rfl, B5⟩
      rw [← HSV.out, hs']
      obtain ⟨A5, c5, rfl, O5⟩ := Own.of_row hown
      have O6 := O5.below B5 (Nat.le_refl _)
      have hb5 := hb.trans (B5.mono hb.size)
      have hc5 : w5.cell? ⟨b, off + k, none⟩ = some (.int .i64 x) := by rw [← hcell]; exact B5.cell (p := ⟨b, off + k, none⟩) (World.block_lt_of_cell? wr _ hcell)
      clear hcell hown O5
      go_wp2_with (at_builtin; refine wpList_push _ rfl _ _ 37 rfl w.heap.size 3 i0 (.int .i64 0) 1 8 Try.underlying37 hi0 hz0 hz1 hz2 rfl (by decide) _ F.length (ints F) rfl O6.1 [.int .i64 x] rfl (one_int x) rfl (by omega) (by decide) hb5.size ?_; intro v7 w7 hown7 hb7 hs7 _ _)
      have hown8 := push_rel HG.out hown7
      have hb8 := hb7 _ hb5
      go_wp2_with fail
      go_roundw
      case rel => exact ⟨k + 1, by omega, by go_num, hown8, hb8⟩
      case measure => simp [intOf]; omega
    · have hs' : sv = true := hs
      have HG := Lib.hid (gath_no (p := pRep ps xs) (f := fRep xs) (k := k) (by unfold pRep; rw [HX.out, ← HSV.out, hs']; rfl))
      clear hs
      generalize gath (pRep ps xs) (fRep xs) k = F at hown hgl HG ⊢
      go_wp2_with fail
      refine (l11Sailed_any (hr.below hb hh) (by omega) (by have := hb.size; omega) H1.out).mono ?_
      rintro e w5 ⟨rfl, B5⟩
      rw [← HSV.out, hs']
      obtain ⟨A5, c5, rfl, O5⟩ := Own.of_row hown
      have O6 := O5.below B5 (Nat.le_refl _)
      have hb5 := hb.trans (B5.mono hb.size)
      have hc5 : w5.cell? ⟨b, off + k, none⟩ = some (.int .i64 x) := by rw [← hcell]; exact B5.cell (p := ⟨b, off + k, none⟩) (World.block_lt_of_cell? wr _ hcell)
      clear hcell hown O5
      go_wp2_with fail
      go_roundw
      case rel => exact ⟨k + 1, by omega, by go_num, by rw [HG.out]; exact O6.1, hb5⟩
      case measure => simp [intOf]; omega

end Go.Proofs.Ytnljjocoloijfaa
