/-
  This file proves contracts of the test of crossings, of the program and of the reference.
  Conditions: each contract's own hypotheses (that a slice reads as a list of crossings, that it is not too long).
-/
import Derived.Test.YtiegnhpccbnhhaaCrossingS
import Derived.Test.YtiegnhpccbnhhaaBase2
namespace Go.Proofs.Ytiegnhpccbnhhaa
open Go.RowKit
set_option linter.unusedSimpArgs false
set_option linter.unusedVariables false

def isCx (p : GCrossing) : Bool := inR p.ln 1 99 && (inR p.cr 1 99 && (inR p.mn (-1000) 20000 && inR p.ck (-1000) 20000))
def gC (ps : List GCrossing) (k : Nat) : GCrossing := ps.getD k ⟨0, 0, 0, 0⟩
theorem gC_of {ps : List GCrossing} {k : Nat} {p : GCrossing} (h : ps[k]? = some p) : gC ps k = p := by simp [gC, List.getD, h]
/-- Crossing j lies elsewhere than crossing k. -/
def apart (ps : List GCrossing) (k j : Nat) : Bool := !(decide ((gC ps k).ln = (gC ps j).ln) && decide ((gC ps k).cr = (gC ps j).cr))
def cOk (ps : List GCrossing) (k : Nat) : Bool := isCx (gC ps k) && (List.range k).all (apart ps k)
def isCL (ps : List GCrossing) : Bool := (List.range ps.length).all (cOk ps) && decide (ps.length ≤ 10)
theorem isCL_bad {ps : List GCrossing} {k : Nat} (hk : k < ps.length) (h : cOk ps k = false) : isCL ps = false := by
  unfold isCL
  rw [Bool.and_eq_false_iff, List.all_eq_false]
  exact .inl ⟨k, List.mem_range.2 hk, by rw [h]; exact Bool.false_ne_true⟩
theorem cOk_bad {ps : List GCrossing} {k : Nat} {p : GCrossing} (hp : ps[k]? = some p) (h : isCx p = false) : cOk ps k = false := by unfold cOk; rw [gC_of hp, h]; rfl
theorem cOk_same {ps : List GCrossing} {k j : Nat} (hj : j < k) (h : apart ps k j = false) : cOk ps k = false := by
  unfold cOk
  rw [Bool.and_eq_false_iff, List.all_eq_false]
  exact .inr ⟨j, List.mem_range.2 hj, by rw [h]; exact Bool.false_ne_true⟩
theorem cOk_good {ps : List GCrossing} {k : Nat} {p : GCrossing} (hp : ps[k]? = some p) (h : isCx p = true) (h2 : (List.range k).all (apart ps k) = true) : cOk ps k = true := by unfold cOk; rw [gC_of hp, h, h2]; rfl
theorem range_step {g : Nat → Bool} {k : Nat} (h : (List.range k).all g = true) (hk : g k = true) : (List.range (k + 1)).all g = true := by
  rw [List.range_succ, List.all_append, h]; simp [hk]

set_option maxHeartbeats 4000000 in
set_option maxRecDepth 100000 in
theorem l10Good_any {A : Option Addr} {c lo hi : Nat} {ps : List GCrossing} {w : World} (hr : RdC w lo hi A ps) (hl : ps.length ≤ 2097152) (hh : hi ≤ w.heap.size) :
    Calls Try.prog 51 #[.slice A ps.length c] w (RetB (isCL ps) w) := by
  go_enter Try.func51, Try.ntmps51
  go_wp2_with fail
  go_loopw [3] (fun i wr => ∃ k : Nat, k ≤ ps.length ∧ i = .int .i64 k ∧ (List.range k).all (cOk ps) = true ∧ Below w.heap.size w wr) (fun i _ => ps.length - (intOf i).toNat)
  case atStart => exact ⟨0, Nat.zero_le _, rfl, rfl, Below.refl _ _⟩
  case round =>
    obtain ⟨k, hk, rfl, hok, hb⟩ := hrel
    have HK := Lib.hid hok
    clear hok
    by_cases hlt : k < ps.length
    rotate_left
    · obtain rfl : k = ps.length := by omega
      have HE := Lib.hid (show isCL ps = decide (ps.length ≤ 10) from by unfold isCL; rw [HK.out, Bool.true_and])
      by_cases h12 : ps.length ≤ 10
      · have q1 : (ps.length : Int) ≤ 10 := by omega
        go_wp2_with fail
        go_ret
        rw [HE.out]
        exact ⟨by simp [h12], hb⟩
      · have q1 : ¬ ((ps.length : Int) ≤ 10) := by omega
        go_wp2_with fail
        go_ret
        rw [HE.out]
        exact ⟨by simp [h12], hb⟩
    obtain ⟨b, off, p, rfl, hblo, hbhi, hp, c0, c1, c2, c3⟩ := (hr.below hb hh).getCrossing hlt
    have HP := Lib.hid hp
    have q1 : (k : Int) < (ps.length : Int) := by omega
    clear hp
    by_cases t0 : inR p.ln 1 99 = true
    rotate_left
    · have t0' : inR p.ln 1 99 = false := by simpa using t0
      clear t0
      have HO := Lib.hid (cOk_bad HP.out (show isCx p = false from by simp [isCx, t0']))
      go_wp2_with fail
      have C := Crossing_cells p wr 59
      have hbx : Below w.heap.size w (wr.alloc (.cells #[.int .i64 p.ln, .int .i64 p.cr, .int .i64 p.mn, .int .i64 p.ck] 59)) := hb.trans ((below_alloc1 _ _).mono hb.size)
      have hsx : (wr.alloc (.cells #[.int .i64 p.ln, .int .i64 p.cr, .int .i64 p.mn, .int .i64 p.ck] 59)).heap.size = wr.heap.size + 1 := by simp
      skip
      generalize wr.alloc (.cells #[.int .i64 p.ln, .int .i64 p.cr, .int .i64 p.mn, .int .i64 p.ck] 59) = wx at C hbx hsx ⊢
      obtain ⟨d0, d1, d2, d3⟩ := C
      go_wp2_with (first | (go_at_call 52; refine (l1In_any _ _ _ _).mono ?_; rintro e w' ⟨rfl, rfl⟩) | (go_at_call 76; refine (l2Depth_any _ _).mono ?_; rintro e w' ⟨rfl, rfl⟩))
      go_ret
      exact ⟨ret_bool (isCL_bad hlt HO.out).symm, hbx⟩
    by_cases t1 : inR p.cr 1 99 = true
    rotate_left
    · have t1' : inR p.cr 1 99 = false := by simpa using t1
      clear t1
      have HO := Lib.hid (cOk_bad HP.out (show isCx p = false from by simp [isCx, t1', t0]))
      go_wp2_with fail
      have C := Crossing_cells p wr 59
      have hbx : Below w.heap.size w (wr.alloc (.cells #[.int .i64 p.ln, .int .i64 p.cr, .int .i64 p.mn, .int .i64 p.ck] 59)) := hb.trans ((below_alloc1 _ _).mono hb.size)
      have hsx : (wr.alloc (.cells #[.int .i64 p.ln, .int .i64 p.cr, .int .i64 p.mn, .int .i64 p.ck] 59)).heap.size = wr.heap.size + 1 := by simp
      skip
      generalize wr.alloc (.cells #[.int .i64 p.ln, .int .i64 p.cr, .int .i64 p.mn, .int .i64 p.ck] 59) = wx at C hbx hsx ⊢
      obtain ⟨d0, d1, d2, d3⟩ := C
      go_wp2_with (first | (go_at_call 52; refine (l1In_any _ _ _ _).mono ?_; rintro e w' ⟨rfl, rfl⟩) | (go_at_call 76; refine (l2Depth_any _ _).mono ?_; rintro e w' ⟨rfl, rfl⟩))
      go_ret
      exact ⟨ret_bool (isCL_bad hlt HO.out).symm, hbx⟩
    by_cases t2 : inR p.mn (-1000) 20000 = true
    rotate_left
    · have t2' : inR p.mn (-1000) 20000 = false := by simpa using t2
      clear t2
      have HO := Lib.hid (cOk_bad HP.out (show isCx p = false from by simp [isCx, t2', t0, t1]))
      go_wp2_with fail
      have C := Crossing_cells p wr 59
      have hbx : Below w.heap.size w (wr.alloc (.cells #[.int .i64 p.ln, .int .i64 p.cr, .int .i64 p.mn, .int .i64 p.ck] 59)) := hb.trans ((below_alloc1 _ _).mono hb.size)
      have hsx : (wr.alloc (.cells #[.int .i64 p.ln, .int .i64 p.cr, .int .i64 p.mn, .int .i64 p.ck] 59)).heap.size = wr.heap.size + 1 := by simp
      skip
      generalize wr.alloc (.cells #[.int .i64 p.ln, .int .i64 p.cr, .int .i64 p.mn, .int .i64 p.ck] 59) = wx at C hbx hsx ⊢
      obtain ⟨d0, d1, d2, d3⟩ := C
      go_wp2_with (first | (go_at_call 52; refine (l1In_any _ _ _ _).mono ?_; rintro e w' ⟨rfl, rfl⟩) | (go_at_call 76; refine (l2Depth_any _ _).mono ?_; rintro e w' ⟨rfl, rfl⟩))
      go_ret
      exact ⟨ret_bool (isCL_bad hlt HO.out).symm, hbx⟩
    by_cases t3 : inR p.ck (-1000) 20000 = true
    rotate_left
    · have t3' : inR p.ck (-1000) 20000 = false := by simpa using t3
      clear t3
      have HO := Lib.hid (cOk_bad HP.out (show isCx p = false from by simp [isCx, t3', t0, t1, t2]))
      go_wp2_with fail
      have C := Crossing_cells p wr 59
      have hbx : Below w.heap.size w (wr.alloc (.cells #[.int .i64 p.ln, .int .i64 p.cr, .int .i64 p.mn, .int .i64 p.ck] 59)) := hb.trans ((below_alloc1 _ _).mono hb.size)
      have hsx : (wr.alloc (.cells #[.int .i64 p.ln, .int .i64 p.cr, .int .i64 p.mn, .int .i64 p.ck] 59)).heap.size = wr.heap.size + 1 := by simp
      skip
      generalize wr.alloc (.cells #[.int .i64 p.ln, .int .i64 p.cr, .int .i64 p.mn, .int .i64 p.ck] 59) = wx at C hbx hsx ⊢
      obtain ⟨d0, d1, d2, d3⟩ := C
      go_wp2_with (first | (go_at_call 52; refine (l1In_any _ _ _ _).mono ?_; rintro e w' ⟨rfl, rfl⟩) | (go_at_call 76; refine (l2Depth_any _ _).mono ?_; rintro e w' ⟨rfl, rfl⟩))
      go_ret
      exact ⟨ret_bool (isCL_bad hlt HO.out).symm, hbx⟩
    have HX := Lib.hid (show isCx p = true from by simp [isCx, t0, t1, t2, t3])
    go_wp2_with fail
    have C := Crossing_cells p wr 59
    have hbx : Below w.heap.size w (wr.alloc (.cells #[.int .i64 p.ln, .int .i64 p.cr, .int .i64 p.mn, .int .i64 p.ck] 59)) := hb.trans ((below_alloc1 _ _).mono hb.size)
    have hsx : (wr.alloc (.cells #[.int .i64 p.ln, .int .i64 p.cr, .int .i64 p.mn, .int .i64 p.ck] 59)).heap.size = wr.heap.size + 1 := by simp
    skip
    generalize wr.alloc (.cells #[.int .i64 p.ln, .int .i64 p.cr, .int .i64 p.mn, .int .i64 p.ck] 59) = wx at C hbx hsx ⊢
    obtain ⟨d0, d1, d2, d3⟩ := C
    go_wp2_with (first | (go_at_call 52; refine (l1In_any _ _ _ _).mono ?_; rintro e w' ⟨rfl, rfl⟩) | (go_at_call 76; refine (l2Depth_any _ _).mono ?_; rintro e w' ⟨rfl, rfl⟩))
    clear t0 t1 t2 t3 c0 c1 c2 c3
    have hN1 : w.heap.size ≤ wr.heap.size := hb.size
    obtain ⟨N, hNN⟩ : ∃ N, N = wx.heap.size := ⟨_, rfl⟩
    have hrx := hr.below hbx hh
    have hbN : b < N := by omega
    have hgN : wr.heap.size < N := by omega
    generalize hgb : wr.heap.size = gb at d0 d1 d2 d3 hgN ⊢
    go_loopw [5] (fun i wy => ∃ j : Nat, j ≤ k ∧ i = .int .i64 j ∧ (List.range j).all (apart ps k) = true ∧ Below N wx wy) (fun i _ => k - (intOf i).toNat)
    case atStart => exact ⟨0, Nat.zero_le _, rfl, rfl, Below.refl _ _⟩
    case round =>
      obtain ⟨j, hj, rfl, hap, hby⟩ := hrel
      have HAP := Lib.hid hap
      clear hap
      have hbz : Below w.heap.size w _ := hbx.trans (hby.mono (by omega))
      have e0 := (hby.cell (p := ⟨gb, 0, none⟩) hgN).trans d0
      have e1 := (hby.cell (p := ⟨gb, 1, none⟩) hgN).trans d1
      by_cases hjk : j < k
      rotate_left
      · obtain rfl : j = k := by omega
        have HO := Lib.hid (cOk_good HP.out HX.out HAP.out)
        go_wp2_with fail
        go_roundw
        case rel => exact ⟨j + 1, by omega, by go_num, range_step HK.out HO.out, hbz⟩
        case measure => simp [intOf]; omega
      obtain ⟨b', off', q, hA, _, _, hq, k0, k1, k2, k3⟩ := (hrx.below hby (by omega)).getCrossing (show j < ps.length by omega)
      obtain ⟨rfl, rfl⟩ : b = b' ∧ off = off' := by cases hA; exact ⟨rfl, rfl⟩
      have HQ := Lib.hid hq
      have g1 : (j : Int) < (k : Int) := by omega
      have g2 : (j : Int) < (ps.length : Int) := by omega
      have g3 : j < ps.length := by omega
      clear hA hq
      by_cases hln : p.ln = q.ln
      rotate_left
      · have HO := Lib.hid (show apart ps k j = true from by unfold apart; rw [gC_of HP.out, gC_of HQ.out]; simp [hln])
        have s1 : (p.ln == q.ln) = false := by simpa using hln
        have s2 : (q.ln == p.ln) = false := by simpa using fun h => hln h.symm
        clear hln
        go_wp2_with fail
        go_quiet (fail)
        go_wp2_with fail
        go_roundw
        case rel => exact ⟨j + 1, by omega, by go_num, range_step HAP.out HO.out, below_drewN hby _⟩
        case measure => simp [intOf]; omega
      have s1 : (p.ln == q.ln) = true := by simpa using hln
      have s2 : (q.ln == p.ln) = true := by simpa using hln.symm
      by_cases hcr : p.cr = q.cr
      · have HO := Lib.hid (show apart ps k j = false from by unfold apart; rw [gC_of HP.out, gC_of HQ.out]; simp [hln, hcr])
        have s3 : (p.cr == q.cr) = true := by simpa using hcr
        have s4 : (q.cr == p.cr) = true := by simpa using hcr.symm
        have HB := Lib.hid (isCL_bad hlt (cOk_same hjk HO.out))
        clear hln hcr
        go_wp2_with fail
        go_quiet (fail)
        go_wp2_with fail
        go_ret
        exact ⟨ret_bool HB.out.symm, hbx.trans ((below_drewN hby _).mono (by omega))⟩
      · have HO := Lib.hid (show apart ps k j = true from by unfold apart; rw [gC_of HP.out, gC_of HQ.out]; simp [hcr])
        have s3 : (p.cr == q.cr) = false := by simpa using hcr
        have s4 : (q.cr == p.cr) = false := by simpa using fun h => hcr h.symm
        clear hln hcr
        go_wp2_with fail
        go_quiet (fail)
        go_wp2_with fail
        go_roundw
        case rel => exact ⟨j + 1, by omega, by go_num, range_step HAP.out HO.out, below_drewN hby _⟩
        case measure => simp [intOf]; omega

set_option maxHeartbeats 4000000 in
set_option maxRecDepth 100000 in
theorem areCrossings_any {A : Option Addr} {c lo hi : Nat} {ps : List GCrossing} {w : World} (hr : RdC w lo hi A ps) (hl : ps.length ≤ 2097152) (hh : hi ≤ w.heap.size) (hcap : ps.length ≤ c) :
    Calls Try.prog 37 #[.slice A ps.length c] w (RetB (isCL ps) w) := by
  go_enter Try.func37, Try.ntmps37
  go_wp2_with fail
  go_loopw [9] (fun i wr => ∃ k : Nat, k ≤ ps.length ∧ i = .int .i64 k ∧ (List.range k).all (cOk ps) = true ∧ Below w.heap.size w wr) (fun i _ => ps.length - (intOf i).toNat)
  case atStart => exact ⟨0, Nat.zero_le _, rfl, rfl, Below.refl _ _⟩
  case round =>
    obtain ⟨k, hk, rfl, hok, hb⟩ := hrel
    have HK := Lib.hid hok
    clear hok
    by_cases hlt : k < ps.length
    rotate_left
    · obtain rfl : k = ps.length := by omega
      have HE := Lib.hid (show isCL ps = decide (ps.length ≤ 10) from by unfold isCL; rw [HK.out, Bool.true_and])
      by_cases h12 : ps.length ≤ 10
      · have q1 : (ps.length : Int) ≤ 10 := by omega
        go_wp2_with fail
        go_ret
        rw [HE.out]
        exact ⟨by simp [h12], hb⟩
      · have q1 : ¬ ((ps.length : Int) ≤ 10) := by omega
        go_wp2_with fail
        go_ret
        rw [HE.out]
        exact ⟨by simp [h12], hb⟩
    obtain ⟨b, off, p, rfl, hblo, hbhi, hp, c0, c1, c2, c3⟩ := (hr.below hb hh).getCrossing hlt
    have HP := Lib.hid hp
    have q1 : (k : Int) < (ps.length : Int) := by omega
    clear hp
    by_cases t0 : inR p.ln 1 99 = true
    rotate_left
    · have t0' : inR p.ln 1 99 = false := by simpa using t0
      clear t0
      have HO := Lib.hid (cOk_bad HP.out (show isCx p = false from by simp [isCx, t0']))
      go_wp2_with fail
      have C := Crossing_cells p wr 59
      have hbx : Below w.heap.size w (wr.alloc (.cells #[.int .i64 p.ln, .int .i64 p.cr, .int .i64 p.mn, .int .i64 p.ck] 59)) := hb.trans ((below_alloc1 _ _).mono hb.size)
      have hsx : (wr.alloc (.cells #[.int .i64 p.ln, .int .i64 p.cr, .int .i64 p.mn, .int .i64 p.ck] 59)).heap.size = wr.heap.size + 1 := by simp
      skip
      generalize wr.alloc (.cells #[.int .i64 p.ln, .int .i64 p.cr, .int .i64 p.mn, .int .i64 p.ck] 59) = wx at C hbx hsx ⊢
      obtain ⟨d0, d1, d2, d3⟩ := C
      go_wp2_with (first | (go_at_call 59; refine (inside_any _ _ _ _).mono ?_; rintro e w' ⟨rfl, rfl⟩) | (go_at_call 72; refine (isDepth_any _ _).mono ?_; rintro e w' ⟨rfl, rfl⟩))
      go_ret
      exact ⟨ret_bool (isCL_bad hlt HO.out).symm, hbx⟩
    by_cases t1 : inR p.cr 1 99 = true
    rotate_left
    · have t1' : inR p.cr 1 99 = false := by simpa using t1
      clear t1
      have HO := Lib.hid (cOk_bad HP.out (show isCx p = false from by simp [isCx, t1', t0]))
      go_wp2_with fail
      have C := Crossing_cells p wr 59
      have hbx : Below w.heap.size w (wr.alloc (.cells #[.int .i64 p.ln, .int .i64 p.cr, .int .i64 p.mn, .int .i64 p.ck] 59)) := hb.trans ((below_alloc1 _ _).mono hb.size)
      have hsx : (wr.alloc (.cells #[.int .i64 p.ln, .int .i64 p.cr, .int .i64 p.mn, .int .i64 p.ck] 59)).heap.size = wr.heap.size + 1 := by simp
      skip
      generalize wr.alloc (.cells #[.int .i64 p.ln, .int .i64 p.cr, .int .i64 p.mn, .int .i64 p.ck] 59) = wx at C hbx hsx ⊢
      obtain ⟨d0, d1, d2, d3⟩ := C
      go_wp2_with (first | (go_at_call 59; refine (inside_any _ _ _ _).mono ?_; rintro e w' ⟨rfl, rfl⟩) | (go_at_call 72; refine (isDepth_any _ _).mono ?_; rintro e w' ⟨rfl, rfl⟩))
      go_ret
      exact ⟨ret_bool (isCL_bad hlt HO.out).symm, hbx⟩
    by_cases t2 : inR p.mn (-1000) 20000 = true
    rotate_left
    · have t2' : inR p.mn (-1000) 20000 = false := by simpa using t2
      clear t2
      have HO := Lib.hid (cOk_bad HP.out (show isCx p = false from by simp [isCx, t2', t0, t1]))
      go_wp2_with fail
      have C := Crossing_cells p wr 59
      have hbx : Below w.heap.size w (wr.alloc (.cells #[.int .i64 p.ln, .int .i64 p.cr, .int .i64 p.mn, .int .i64 p.ck] 59)) := hb.trans ((below_alloc1 _ _).mono hb.size)
      have hsx : (wr.alloc (.cells #[.int .i64 p.ln, .int .i64 p.cr, .int .i64 p.mn, .int .i64 p.ck] 59)).heap.size = wr.heap.size + 1 := by simp
      skip
      generalize wr.alloc (.cells #[.int .i64 p.ln, .int .i64 p.cr, .int .i64 p.mn, .int .i64 p.ck] 59) = wx at C hbx hsx ⊢
      obtain ⟨d0, d1, d2, d3⟩ := C
      go_wp2_with (first | (go_at_call 59; refine (inside_any _ _ _ _).mono ?_; rintro e w' ⟨rfl, rfl⟩) | (go_at_call 72; refine (isDepth_any _ _).mono ?_; rintro e w' ⟨rfl, rfl⟩))
      go_ret
      exact ⟨ret_bool (isCL_bad hlt HO.out).symm, hbx⟩
    by_cases t3 : inR p.ck (-1000) 20000 = true
    rotate_left
    · have t3' : inR p.ck (-1000) 20000 = false := by simpa using t3
      clear t3
      have HO := Lib.hid (cOk_bad HP.out (show isCx p = false from by simp [isCx, t3', t0, t1, t2]))
      go_wp2_with fail
      have C := Crossing_cells p wr 59
      have hbx : Below w.heap.size w (wr.alloc (.cells #[.int .i64 p.ln, .int .i64 p.cr, .int .i64 p.mn, .int .i64 p.ck] 59)) := hb.trans ((below_alloc1 _ _).mono hb.size)
      have hsx : (wr.alloc (.cells #[.int .i64 p.ln, .int .i64 p.cr, .int .i64 p.mn, .int .i64 p.ck] 59)).heap.size = wr.heap.size + 1 := by simp
      skip
      generalize wr.alloc (.cells #[.int .i64 p.ln, .int .i64 p.cr, .int .i64 p.mn, .int .i64 p.ck] 59) = wx at C hbx hsx ⊢
      obtain ⟨d0, d1, d2, d3⟩ := C
      go_wp2_with (first | (go_at_call 59; refine (inside_any _ _ _ _).mono ?_; rintro e w' ⟨rfl, rfl⟩) | (go_at_call 72; refine (isDepth_any _ _).mono ?_; rintro e w' ⟨rfl, rfl⟩))
      go_ret
      exact ⟨ret_bool (isCL_bad hlt HO.out).symm, hbx⟩
    have HX := Lib.hid (show isCx p = true from by simp [isCx, t0, t1, t2, t3])
    have qc : (k : Int) ≤ (c : Int) := by omega
    go_wp2_with fail
    have C := Crossing_cells p wr 59
    have hbx : Below w.heap.size w (wr.alloc (.cells #[.int .i64 p.ln, .int .i64 p.cr, .int .i64 p.mn, .int .i64 p.ck] 59)) := hb.trans ((below_alloc1 _ _).mono hb.size)
    have hsx : (wr.alloc (.cells #[.int .i64 p.ln, .int .i64 p.cr, .int .i64 p.mn, .int .i64 p.ck] 59)).heap.size = wr.heap.size + 1 := by simp
    skip
    generalize wr.alloc (.cells #[.int .i64 p.ln, .int .i64 p.cr, .int .i64 p.mn, .int .i64 p.ck] 59) = wx at C hbx hsx ⊢
    obtain ⟨d0, d1, d2, d3⟩ := C
    go_wp2_with (first | (go_at_call 59; refine (inside_any _ _ _ _).mono ?_; rintro e w' ⟨rfl, rfl⟩) | (go_at_call 72; refine (isDepth_any _ _).mono ?_; rintro e w' ⟨rfl, rfl⟩))
    clear t0 t1 t2 t3 c0 c1 c2 c3
    have hN1 : w.heap.size ≤ wr.heap.size := hb.size
    obtain ⟨N, hNN⟩ : ∃ N, N = wx.heap.size := ⟨_, rfl⟩
    have hrx := hr.below hbx hh
    have hbN : b < N := by omega
    have hgN : wr.heap.size < N := by omega
    generalize hgb : wr.heap.size = gb at d0 d1 d2 d3 hgN ⊢
    go_loopw [40] (fun i wy => ∃ j : Nat, j ≤ k ∧ i = .int .i64 j ∧ (List.range j).all (apart ps k) = true ∧ Below N wx wy) (fun i _ => k - (intOf i).toNat)
    case atStart => exact ⟨0, Nat.zero_le _, rfl, rfl, Below.refl _ _⟩
    case round =>
      obtain ⟨j, hj, rfl, hap, hby⟩ := hrel
      have HAP := Lib.hid hap
      clear hap
      have hbz : Below w.heap.size w _ := hbx.trans (hby.mono (by omega))
      have e0 := (hby.cell (p := ⟨gb, 0, none⟩) hgN).trans d0
      have e1 := (hby.cell (p := ⟨gb, 1, none⟩) hgN).trans d1
      by_cases hjk : j < k
      rotate_left
      · obtain rfl : j = k := by omega
        have HO := Lib.hid (cOk_good HP.out HX.out HAP.out)
        go_wp2_with fail
        go_roundw
        case rel => exact ⟨j + 1, by omega, by go_num, range_step HK.out HO.out, hbz⟩
        case measure => simp [intOf]; omega
      obtain ⟨b', off', q, hA, _, _, hq, k0, k1, k2, k3⟩ := (hrx.below hby (by omega)).getCrossing (show j < ps.length by omega)
      obtain ⟨rfl, rfl⟩ : b = b' ∧ off = off' := by cases hA; exact ⟨rfl, rfl⟩
      have HQ := Lib.hid hq
      have g1 : (j : Int) < (k : Int) := by omega
      have g2 : (j : Int) < (ps.length : Int) := by omega
      have g3 : j < ps.length := by omega
      clear hA hq
      by_cases hln : p.ln = q.ln
      rotate_left
      · have HO := Lib.hid (show apart ps k j = true from by unfold apart; rw [gC_of HP.out, gC_of HQ.out]; simp [hln])
        have s1 : (p.ln == q.ln) = false := by simpa using hln
        have s2 : (q.ln == p.ln) = false := by simpa using fun h => hln h.symm
        clear hln
        have hby2 : Below N wx (wr.alloc (.cells #[.int .i64 q.ln, .int .i64 q.cr, .int .i64 q.mn, .int .i64 q.ck] 59)) := hby.trans ((below_alloc1 _ _).mono (by have := hby.size; omega))
        have f0 := (hby2.cell (p := ⟨gb, 0, none⟩) hgN).trans d0
        have f1 := (hby2.cell (p := ⟨gb, 1, none⟩) hgN).trans d1
        obtain ⟨j0, j1, j2, j3⟩ := Crossing_cells q wr 59
        go_wp2_with fail
        go_roundw
        case rel => exact ⟨j + 1, by omega, by go_num, range_step HAP.out HO.out, hby2⟩
        case measure => simp [intOf]; omega
      have s1 : (p.ln == q.ln) = true := by simpa using hln
      have s2 : (q.ln == p.ln) = true := by simpa using hln.symm
      by_cases hcr : p.cr = q.cr
      · have HO := Lib.hid (show apart ps k j = false from by unfold apart; rw [gC_of HP.out, gC_of HQ.out]; simp [hln, hcr])
        have s3 : (p.cr == q.cr) = true := by simpa using hcr
        have s4 : (q.cr == p.cr) = true := by simpa using hcr.symm
        have HB := Lib.hid (isCL_bad hlt (cOk_same hjk HO.out))
        clear hln hcr
        have hby2 : Below N wx (wr.alloc (.cells #[.int .i64 q.ln, .int .i64 q.cr, .int .i64 q.mn, .int .i64 q.ck] 59)) := hby.trans ((below_alloc1 _ _).mono (by have := hby.size; omega))
        have f0 := (hby2.cell (p := ⟨gb, 0, none⟩) hgN).trans d0
        have f1 := (hby2.cell (p := ⟨gb, 1, none⟩) hgN).trans d1
        obtain ⟨j0, j1, j2, j3⟩ := Crossing_cells q wr 59
        go_wp2_with fail
        go_ret
        exact ⟨ret_bool HB.out.symm, hbx.trans (hby2.mono (by omega))⟩
      · have HO := Lib.hid (show apart ps k j = true from by unfold apart; rw [gC_of HP.out, gC_of HQ.out]; simp [hcr])
        have s3 : (p.cr == q.cr) = false := by simpa using hcr
        have s4 : (q.cr == p.cr) = false := by simpa using fun h => hcr h.symm
        clear hln hcr
        have hby2 : Below N wx (wr.alloc (.cells #[.int .i64 q.ln, .int .i64 q.cr, .int .i64 q.mn, .int .i64 q.ck] 59)) := hby.trans ((below_alloc1 _ _).mono (by have := hby.size; omega))
        have f0 := (hby2.cell (p := ⟨gb, 0, none⟩) hgN).trans d0
        have f1 := (hby2.cell (p := ⟨gb, 1, none⟩) hgN).trans d1
        obtain ⟨j0, j1, j2, j3⟩ := Crossing_cells q wr 59
        go_wp2_with fail
        go_roundw
        case rel => exact ⟨j + 1, by omega, by go_num, range_step HAP.out HO.out, hby2⟩
        case measure => simp [intOf]; omega

end Go.Proofs.Ytiegnhpccbnhhaa
