/-
  This file proves contracts of the functions on the pings and the minutes of passes: pingsOn, GoodShare, isSailed, BusyShare, of the program and of the reference.
  Conditions: each contract's own hypotheses (that a slice reads as a list of passes, that it is not too long).
-/
import Derived.Test.YtnljjocoloijfaaPassD
import Derived.Test.YtnljjocoloijfaaRed
namespace Go.Proofs.Ytnljjocoloijfaa
open Go.RowKit
set_option linter.unusedSimpArgs false
set_option linter.unusedVariables false

def fG (ps : List GPass) (line : Int) (i : Nat) : Int := if (gP ps i).ln = line then (gP ps i).pg - (gP ps i).bd else 0
def fA (ps : List GPass) (line : Int) (i : Nat) : Int := if (gP ps i).ln = line then (gP ps i).pg else 0
def sumG (ps : List GPass) (line : Int) : Int := rsum (fG ps line) ps.length
def sumA (ps : List GPass) (line : Int) : Int := rsum (fA ps line) ps.length
theorem fG_bound {ps : List GPass} {line : Int} (h : isPL ps = true) (k : Nat) (hk : k ≤ ps.length) : (0 ≤ rsum (fG ps line) k ∧ rsum (fG ps line) k ≤ 1200000) ∧ (0 ≤ rsum (fA ps line) k ∧ rsum (fA ps line) k ≤ 1200000) := by
  have h12 := isPL_len h
  have h1 := rsum_bound (f := fG ps line) (B := 100000) (k := k) (fun i hi => by
    have hp : ps[i]? = some ps[i] := List.getElem?_eq_getElem (by omega)
    have hb := isPs_bound (isPL_get h hp).1
    unfold fG
    rw [gP_of hp]
    split <;> omega)
  have h2 := rsum_bound (f := fA ps line) (B := 100000) (k := k) (fun i hi => by
    have hp : ps[i]? = some ps[i] := List.getElem?_eq_getElem (by omega)
    have hb := isPs_bound (isPL_get h hp).1
    unfold fA
    rw [gP_of hp]
    split <;> omega)
  omega
theorem sum_bound {ps : List GPass} {line : Int} (h : isPL ps = true) : (0 ≤ sumG ps line ∧ sumG ps line ≤ 1200000) ∧ (0 ≤ sumA ps line ∧ sumA ps line ≤ 1200000) := fG_bound h _ (Nat.le_refl _)
def vGoodShare (ps : List GPass) (line : Int) : Int × Int × Bool := if isPL ps = true ∧ inR line 1 999 = true ∧ sumA ps line ≠ 0 then (redN (sumG ps line) (sumA ps line), redD (sumG ps line) (sumA ps line), true) else (0, 0, false)
def sailed (ps : List GPass) (line : Int) : Bool := decide (0 < sumA ps line) && decide (9 * sumA ps line ≤ 10 * sumG ps line)
def fB (ps : List GPass) (a b : Int) (i : Nat) : Int := max (min (gP ps i).en b - max (gP ps i).bg a) 0
def vBusyShare (ps : List GPass) (a b : Int) : Int × Int × Bool := if isPL ps = true ∧ inR a 0 10000 = true ∧ inR b 0 10000 = true ∧ a < b then (redN (rsum (fB ps a b) ps.length) (b - a), redD (rsum (fB ps a b) ps.length) (b - a), true) else (0, 0, false)
theorem fB_bound {ps : List GPass} {a b : Int} (h : isPL ps = true) (k : Nat) (hk : k ≤ ps.length) : 0 ≤ rsum (fB ps a b) k ∧ rsum (fB ps a b) k ≤ 120000 := by
  have h12 := isPL_len h
  have h1 := rsum_bound (f := fB ps a b) (B := 10000) (k := k) (fun i hi => by
    have hp : ps[i]? = some ps[i] := List.getElem?_eq_getElem (by omega)
    have hb := isPs_bound (isPL_get h hp).1
    unfold fB
    rw [gP_of hp]
    omega)
  omega

theorem passLeast_any (a b : Int) (w : World) : Calls Try.prog 38 #[.int .i64 a, .int .i64 b] w fun e w' => e = .returned (.int .i64 (leastI a b)) ∧ w = w' := by
  by_cases h : a < b
  · go_enter Try.func38, Try.ntmps38
    go_wp2
    go_ret
    exact ⟨ret_int (by rw [leastI, if_pos h]), rfl⟩
  · go_enter Try.func38, Try.ntmps38
    go_wp2
    go_ret
    exact ⟨ret_int (by rw [leastI, if_neg (by omega)]), rfl⟩

set_option maxHeartbeats 2000000 in
set_option maxRecDepth 100000 in
theorem pingsOn_any {A : Option Addr} {c lo hi : Nat} {ps : List GPass} {line : Int} {w : World} (hr : RdP w lo hi A ps) (hl : ps.length ≤ 2097152) (hh : hi ≤ w.heap.size) (h1 : isPL ps = true) :
    Calls Try.prog 43 #[.slice A ps.length c, .int .i64 line] w fun e w' => e = .returned (.tuple #[.int .i64 (sumG ps line), .int .i64 (sumA ps line)]) ∧ Below w.heap.size w w' := by
  have H1 := Lib.hid h1
  clear h1
  have HE := Lib.hid (show sumG ps line = rsum (fG ps line) ps.length ∧ sumA ps line = rsum (fA ps line) ps.length from ⟨rfl, rfl⟩)
  go_enter Try.func43, Try.ntmps43
  go_wp2_with fail
  go_loopw [6, 7, 12] (fun s t i wr => ∃ k : Nat, k ≤ ps.length ∧ i = .int .i64 k ∧ s = .int .i64 (rsum (fG ps line) k) ∧ t = .int .i64 (rsum (fA ps line) k) ∧ Below w.heap.size w wr) (fun _ _ i _ => ps.length - (intOf i).toNat)
  case atStart => exact ⟨0, Nat.zero_le _, rfl, rfl, rfl, Below.refl _ _⟩
  case round =>
    obtain ⟨k, hk, rfl, rfl, rfl, hb⟩ := hrel
    have hsb := fG_bound (line := line) H1.out k hk
    have HS := Lib.hid (rsum_succ (fG ps line) k)
    have HT := Lib.hid (rsum_succ (fA ps line) k)
    by_cases hlt : k < ps.length
    rotate_left
    · obtain rfl : k = ps.length := by omega
      go_wp2_with fail
      go_ret2
      rw [HE.out.1, HE.out.2]
      exact ⟨rfl, hb⟩
    obtain ⟨b, off, p, rfl, hblo, hbhi, hp, c0, c1, c2, c3, c4, c5⟩ := (hr.below hb hh).getp hlt
    have hpb := isPs_bound (isPL_get H1.out hp).1
    have HP := Lib.hid hp
    have q1 : (k : Int) < (ps.length : Int) := by omega
    clear hp
    generalize rsum (fG ps line) k = sm at hsb HS ⊢
    generalize rsum (fA ps line) k = sn at hsb HT ⊢
    have q2 : IntKind.i64.wrap (p.pg - p.bd) = p.pg - p.bd := wr64 (by omega) (by omega)
    have q3 : IntKind.i64.wrap (sm + (p.pg - p.bd)) = sm + (p.pg - p.bd) := wr64 (by omega) (by omega)
    have q4 : IntKind.i64.wrap (sn + p.pg) = sn + p.pg := wr64 (by omega) (by omega)
    by_cases hln : p.ln = line
    · have HN := Lib.hid (show rsum (fG ps line) (k + 1) = sm + (p.pg - p.bd) ∧ rsum (fA ps line) (k + 1) = sn + p.pg from by rw [HS.out, HT.out, fG, fA, gP_of HP.out, if_pos hln, if_pos hln]; exact ⟨rfl, rfl⟩)
      have qe : (p.ln == line) = true := by simpa using hln
      clear hln
      go_wp2_with fail
      have C := pass_cells p wr 46
      have hbx : Below w.heap.size w (wr.alloc (.cells #[.int .i64 p.ln, .int .i64 p.bg, .int .i64 p.en, .int .i64 p.pg, .int .i64 p.bd, .int .i64 p.cs] 46)) := hb.trans ((below_alloc1 _ _).mono hb.size)
      generalize wr.alloc (.cells #[.int .i64 p.ln, .int .i64 p.bg, .int .i64 p.en, .int .i64 p.pg, .int .i64 p.bd, .int .i64 p.cs] 46) = wx at C hbx ⊢
      obtain ⟨d0, d1, d2, d3, d4, d5⟩ := C
      go_wp2_with fail
      go_roundw
      case rel => exact ⟨k + 1, by omega, by go_num, by rw [HN.out.1], by rw [HN.out.2], hbx⟩
      case measure => simp [intOf]; omega
    · have HN := Lib.hid (show rsum (fG ps line) (k + 1) = sm ∧ rsum (fA ps line) (k + 1) = sn from by rw [HS.out, HT.out, fG, fA, gP_of HP.out, if_neg hln, if_neg hln, Int.add_zero, Int.add_zero]; exact ⟨rfl, rfl⟩)
      have qe : (p.ln == line) = false := by simpa using hln
      clear hln
      go_wp2_with fail
      have C := pass_cells p wr 46
      have hbx : Below w.heap.size w (wr.alloc (.cells #[.int .i64 p.ln, .int .i64 p.bg, .int .i64 p.en, .int .i64 p.pg, .int .i64 p.bd, .int .i64 p.cs] 46)) := hb.trans ((below_alloc1 _ _).mono hb.size)
      generalize wr.alloc (.cells #[.int .i64 p.ln, .int .i64 p.bg, .int .i64 p.en, .int .i64 p.pg, .int .i64 p.bd, .int .i64 p.cs] 46) = wx at C hbx ⊢
      obtain ⟨d0, d1, d2, d3, d4, d5⟩ := C
      go_wp2_with fail
      go_roundw
      case rel => exact ⟨k + 1, by omega, by go_num, by rw [HN.out.1], by rw [HN.out.2], hbx⟩
      case measure => simp [intOf]; omega

set_option maxHeartbeats 2000000 in
set_option maxRecDepth 100000 in
theorem l11Pings_any {A : Option Addr} {c lo hi : Nat} {ps : List GPass} {line : Int} {w : World} (hr : RdP w lo hi A ps) (hl : ps.length ≤ 2097152) (hh : hi ≤ w.heap.size) :
    Calls Try.prog 42 #[.slice A ps.length c, .int .i64 line] w fun e w' => ∃ a b : Int, e = .returned (.tuple #[.int .i64 a, .int .i64 b]) ∧ (isPL ps = true → a = sumG ps line ∧ b = sumA ps line) ∧ Below w.heap.size w w' := by
  have HE := Lib.hid (show sumG ps line = rsum (fG ps line) ps.length ∧ sumA ps line = rsum (fA ps line) ps.length from ⟨rfl, rfl⟩)
  go_enter Try.func42, Try.ntmps42
  go_wp2_with fail
  go_loopw [6, 7, 8] (fun s t i wr => ∃ (k : Nat) (a b : Int), k ≤ ps.length ∧ i = .int .i64 k ∧ s = .int .i64 a ∧ t = .int .i64 b ∧ (isPL ps = true → a = rsum (fG ps line) k ∧ b = rsum (fA ps line) k) ∧ Below w.heap.size w wr) (fun _ _ i _ => ps.length - (intOf i).toNat)
  case atStart => exact ⟨0, 0, 0, Nat.zero_le _, rfl, rfl, rfl, fun _ => ⟨rfl, rfl⟩, Below.refl _ _⟩
  case round =>
    obtain ⟨k, a, b, hk, rfl, rfl, rfl, hab, hb⟩ := hrel
    have HAB := Lib.hid hab
    clear hab
    by_cases hlt : k < ps.length
    rotate_left
    · obtain rfl : k = ps.length := by omega
      go_wp2_with fail
      go_ret2
      exact ⟨a, b, rfl, fun h => by rw [HE.out.1, HE.out.2]; exact HAB.out h, hb⟩
    obtain ⟨bb, off, p, rfl, hblo, hbhi, hp, c0, c1, c2, c3, c4, c5⟩ := (hr.below hb hh).getp hlt
    have HP := Lib.hid hp
    have q1 : (k : Int) < (ps.length : Int) := by omega
    clear hp
    by_cases hln : p.ln = line
    · have HN := Lib.hid (show isPL ps = true → wrap64 (wrap64 (a + p.pg) - p.bd) = rsum (fG ps line) (k + 1) ∧ wrap64 (b + p.pg) = rsum (fA ps line) (k + 1) from fun h => by
        have hpb := isPs_bound (isPL_get h HP.out).1
        have hsb := fG_bound (line := line) h k hk
        obtain ⟨e1, e2⟩ := HAB.out h
        rw [rsum_succ, rsum_succ, fG, fA, gP_of HP.out, if_pos hln, if_pos hln, ← e1, ← e2]
        rw [← e1, ← e2] at hsb
        rw [IntWalk.wrap64_in (a + p.pg) ⟨by omega, by omega⟩, IntWalk.wrap64_in (a + p.pg - p.bd) ⟨by omega, by omega⟩, IntWalk.wrap64_in (b + p.pg) ⟨by omega, by omega⟩]
        omega)
      have qe : (p.ln == line) = true := by simpa using hln
      clear hln
      go_wp2_with fail
      go_quiet (fail)
      go_wp2_with fail
      go_roundw
      case rel => exact ⟨k + 1, _, _, by omega, by go_num, rfl, rfl, HN.out, below_drewN hb _⟩
      case measure => simp [intOf]; omega
    · have HN := Lib.hid (show isPL ps = true → a = rsum (fG ps line) (k + 1) ∧ b = rsum (fA ps line) (k + 1) from fun h => by
        obtain ⟨e1, e2⟩ := HAB.out h
        rw [rsum_succ, rsum_succ, fG, fA, gP_of HP.out, if_neg hln, if_neg hln, ← e1, ← e2]
        omega)
      have qe : (p.ln == line) = false := by simpa using hln
      clear hln
      go_wp2_with fail
      go_roundw
      case rel => exact ⟨k + 1, a, b, by omega, by go_num, rfl, rfl, HN.out, hb⟩
      case measure => simp [intOf]; omega

set_option maxHeartbeats 1000000 in
theorem isSailed_any {A : Option Addr} {c lo hi : Nat} {ps : List GPass} {line : Int} {w : World} (hr : RdP w lo hi A ps) (hl : ps.length ≤ 2097152) (hh : hi ≤ w.heap.size) (h1 : isPL ps = true) :
    Calls Try.prog 47 #[.slice A ps.length c, .int .i64 line] w (RetB (sailed ps line) w) := by
  have hsb := sum_bound (line := line) h1
  obtain ⟨G, hG⟩ : ∃ G, G = sumG ps line := ⟨_, rfl⟩
  obtain ⟨L, hL⟩ : ∃ L, L = sumA ps line := ⟨_, rfl⟩
  rw [← hG, ← hL] at hsb
  have HE := Lib.hid (show sailed ps line = (decide (0 < L) && decide (9 * L ≤ 10 * G)) from by rw [hG, hL]; rfl)
  have HGL := Lib.hid (show G = sumG ps line ∧ L = sumA ps line from ⟨hG, hL⟩)
  have H1 := Lib.hid h1
  clear hG hL h1
  have q1 : IntKind.i64.wrap (10 * G) = 10 * G := wr64 (by omega) (by omega)
  have q2 : IntKind.i64.wrap (9 * L) = 9 * L := wr64 (by omega) (by omega)
  by_cases h0 : 0 < L
  · by_cases h2 : 9 * L ≤ 10 * G
    · skip
      go_enter Try.func47, Try.ntmps47
      go_wp2_with fail
      refine (pingsOn_any hr hl hh H1.out).mono ?_
      rintro e w1 ⟨rfl, B1⟩
      rw [← HGL.out.1, ← HGL.out.2]
      go_wp2_with fail
      go_ret
      rw [HE.out]
      exact ⟨by simp [h0, h2] <;> (intro _; omega), B1⟩
    · skip
      go_enter Try.func47, Try.ntmps47
      go_wp2_with fail
      refine (pingsOn_any hr hl hh H1.out).mono ?_
      rintro e w1 ⟨rfl, B1⟩
      rw [← HGL.out.1, ← HGL.out.2]
      go_wp2_with fail
      go_ret
      rw [HE.out]
      exact ⟨by simp [h0, h2] <;> (intro _; omega), B1⟩
  · have h0' : decide (0 < L) = false := by simpa using h0
    go_enter Try.func47, Try.ntmps47
    go_wp2_with fail
    refine (pingsOn_any hr hl hh H1.out).mono ?_
    rintro e w1 ⟨rfl, B1⟩
    rw [← HGL.out.1, ← HGL.out.2]
    go_wp2_with fail
    go_ret
    rw [HE.out]
    exact ⟨by simp [h0] <;> (intro _; omega), B1⟩

set_option maxHeartbeats 1000000 in
theorem l11Sailed_any {A : Option Addr} {c lo hi : Nat} {ps : List GPass} {line : Int} {w : World} (hr : RdP w lo hi A ps) (hl : ps.length ≤ 2097152) (hh : hi ≤ w.heap.size) (h1 : isPL ps = true) :
    Calls Try.prog 45 #[.slice A ps.length c, .int .i64 line] w (RetB (sailed ps line) w) := by
  have hsb := sum_bound (line := line) h1
  obtain ⟨G, hG⟩ : ∃ G, G = sumG ps line := ⟨_, rfl⟩
  obtain ⟨L, hL⟩ : ∃ L, L = sumA ps line := ⟨_, rfl⟩
  rw [← hG, ← hL] at hsb
  have HE := Lib.hid (show sailed ps line = (decide (0 < L) && decide (9 * L ≤ 10 * G)) from by rw [hG, hL]; rfl)
  have HGL := Lib.hid (show G = sumG ps line ∧ L = sumA ps line from ⟨hG, hL⟩)
  have H1 := Lib.hid h1
  clear hG hL h1
  have q1 : IntKind.i64.wrap (10 * G) = 10 * G := wr64 (by omega) (by omega)
  have q2 : IntKind.i64.wrap (9 * L) = 9 * L := wr64 (by omega) (by omega)
  by_cases h0 : 0 < L
  · by_cases h2 : 9 * L ≤ 10 * G
    · skip
      go_enter Try.func45, Try.ntmps45
      go_wp2_with fail
      refine (l11Pings_any hr hl hh).mono ?_
      rintro e w1 ⟨a, b, rfl, hab, B1⟩
      obtain ⟨rfl, rfl⟩ : a = G ∧ b = L := ⟨(hab H1.out).1.trans HGL.out.1.symm, (hab H1.out).2.trans HGL.out.2.symm⟩
      clear hab
      go_wp2_with fail
      go_ret
      rw [HE.out]
      exact ⟨by simp [h0, h2] <;> (intro _; omega), B1⟩
    · skip
      go_enter Try.func45, Try.ntmps45
      go_wp2_with fail
      refine (l11Pings_any hr hl hh).mono ?_
      rintro e w1 ⟨a, b, rfl, hab, B1⟩
      obtain ⟨rfl, rfl⟩ : a = G ∧ b = L := ⟨(hab H1.out).1.trans HGL.out.1.symm, (hab H1.out).2.trans HGL.out.2.symm⟩
      clear hab
      go_wp2_with fail
      go_ret
      rw [HE.out]
      exact ⟨by simp [h0, h2] <;> (intro _; omega), B1⟩
  · have h0' : decide (0 < L) = false := by simpa using h0
    go_enter Try.func45, Try.ntmps45
    go_wp2_with fail
    refine (l11Pings_any hr hl hh).mono ?_
    rintro e w1 ⟨a, b, rfl, hab, B1⟩
    obtain ⟨rfl, rfl⟩ : a = G ∧ b = L := ⟨(hab H1.out).1.trans HGL.out.1.symm, (hab H1.out).2.trans HGL.out.2.symm⟩
    clear hab
    go_wp2_with fail
    go_ret
    rw [HE.out]
    exact ⟨by simp [h0] <;> (intro _; omega), B1⟩

set_option maxHeartbeats 2000000 in
theorem iGoodShare {A : Option Addr} {c lo hi : Nat} {ps : List GPass} {line : Int} {w : World} (hr : RdP w lo hi A ps) (hl : ps.length ≤ 2097152) (hh : hi ≤ w.heap.size) :
    Calls Try.prog 21 #[.slice A ps.length c, .int .i64 line] w (RetIIB (vGoodShare ps line).1 (vGoodShare ps line).2.1 (vGoodShare ps line).2.2 w) := by
  by_cases h1 : isPL ps = true
  rotate_left
  · have h1' : isPL ps = false := by simpa using h1
    clear h1
    have HE := Lib.hid (show vGoodShare ps line = (0, 0, false) from by unfold vGoodShare; rw [if_neg (by simp [h1'])])
    go_enter Try.func21, Try.ntmps21
    go_wp2_with fail
    refine (arePasses_any hr (by omega) hh).mono ?_
    rintro e w1 ⟨rfl, B1⟩
    go_wp2_with fail
    go_ret3
    rw [HE.out]
    exact ⟨rfl, B1⟩
  by_cases h2 : inR line 1 999 = true
  rotate_left
  · have h2' : inR line 1 999 = false := by simpa using h2
    clear h2
    have HE := Lib.hid (show vGoodShare ps line = (0, 0, false) from by unfold vGoodShare; rw [if_neg (by simp [h2'])])
    go_enter Try.func21, Try.ntmps21
    go_wp2_with fail
    refine (arePasses_any hr (by omega) hh).mono ?_
    rintro e w1 ⟨rfl, B1⟩
    go_wp2_with (go_at_call 34; refine (isLine_any _ _).mono ?_; rintro e w' ⟨rfl, rfl⟩)
    go_ret3
    rw [HE.out]
    exact ⟨rfl, B1⟩
  have hsb := sum_bound (line := line) h1
  have HV := Lib.hid (show vGoodShare ps line = if sumA ps line ≠ 0 then (redN (sumG ps line) (sumA ps line), redD (sumG ps line) (sumA ps line), true) else (0, 0, false) from by unfold vGoodShare; simp [h1, h2])
  obtain ⟨G, hG⟩ : ∃ G, G = sumG ps line := ⟨_, rfl⟩
  obtain ⟨L, hL⟩ : ∃ L, L = sumA ps line := ⟨_, rfl⟩
  rw [← hG, ← hL] at hsb HV
  have HGL := Lib.hid (show G = sumG ps line ∧ L = sumA ps line from ⟨hG, hL⟩)
  have H1 := Lib.hid h1
  clear hG hL
  by_cases h3 : L = 0
  · have HE := Lib.hid (show vGoodShare ps line = (0, 0, false) from by rw [HV.out, if_neg (by simp [h3])])
    have q : (L == 0) = true := by simpa using h3
    have h0 : 0 < L ∨ L = 0 := by omega
    clear h0 h3
    go_enter Try.func21, Try.ntmps21
    go_wp2_with fail
    refine (arePasses_any hr (by omega) hh).mono ?_
    rintro e w1 ⟨rfl, B1⟩
    go_wp2_with (go_at_call 34; refine (isLine_any _ _).mono ?_; rintro e w' ⟨rfl, rfl⟩)
    refine (pingsOn_any (hr.below B1 hh) hl (by have := B1.size; omega) H1.out).mono ?_
    rintro e w2 ⟨rfl, B2⟩
    replace B1 := B1.trans (B2.mono B1.size)
    rw [← HGL.out.1, ← HGL.out.2]
    go_wp2_with fail
    go_ret3
    rw [HE.out]
    exact ⟨rfl, B1⟩
  · have HE := Lib.hid (show vGoodShare ps line = (redN G L, redD G L, true) from by rw [HV.out, if_pos h3])
    have q : (L == 0) = false := by simpa using h3
    have h0 : 0 < L ∨ L = 0 := by omega
    have hpos : 0 < L := by omega
    clear h0 h3
    go_enter Try.func21, Try.ntmps21
    go_wp2_with fail
    refine (arePasses_any hr (by omega) hh).mono ?_
    rintro e w1 ⟨rfl, B1⟩
    go_wp2_with (go_at_call 34; refine (isLine_any _ _).mono ?_; rintro e w' ⟨rfl, rfl⟩)
    refine (pingsOn_any (hr.below B1 hh) hl (by have := B1.size; omega) H1.out).mono ?_
    rintro e w2 ⟨rfl, B2⟩
    replace B1 := B1.trans (B2.mono B1.size)
    rw [← HGL.out.1, ← HGL.out.2]
    go_wp2_with fail
    refine (lowestTerms_any G L _ (by omega) (by omega) hpos).mono ?_
    rintro e w3 ⟨rfl, n, rfl⟩
    replace B1 := below_drewN B1 n
    go_wp2_with fail
    go_ret3
    rw [HE.out]
    exact ⟨rfl, B1⟩

set_option maxHeartbeats 2000000 in
theorem sGoodShare {A : Option Addr} {c lo hi : Nat} {ps : List GPass} {line : Int} {w : World} (hr : RdP w lo hi A ps) (hl : ps.length ≤ 2097152) (hh : hi ≤ w.heap.size) :
    Calls Try.prog 20 #[.slice A ps.length c, .int .i64 line] w (RetIIB (vGoodShare ps line).1 (vGoodShare ps line).2.1 (vGoodShare ps line).2.2 w) := by
  by_cases h1 : isPL ps = true
  rotate_left
  · have h1' : isPL ps = false := by simpa using h1
    clear h1
    have HE := Lib.hid (show vGoodShare ps line = (0, 0, false) from by unfold vGoodShare; rw [if_neg (by simp [h1'])])
    go_enter Try.func20, Try.ntmps20
    go_wp2_with fail
    refine (l11Pings_any hr hl hh).mono ?_
    rintro e w0 ⟨a, b, rfl, hab, B0⟩
    have HAB := Lib.hid hab
    clear hab
    go_wp2_with fail
    refine (l11Good_any (hr.below B0 hh) (by omega) (by have := B0.size; omega)).mono ?_
    rintro e w1 ⟨rfl, B1'⟩
    have B1 := B0.trans (B1'.mono B0.size)
    go_wp2_with fail
    go_ret3
    rw [HE.out]
    exact ⟨rfl, B1⟩
  by_cases h2 : inR line 1 999 = true
  rotate_left
  · have h2' : inR line 1 999 = false := by simpa using h2
    clear h2
    have HE := Lib.hid (show vGoodShare ps line = (0, 0, false) from by unfold vGoodShare; rw [if_neg (by simp [h2'])])
    go_enter Try.func20, Try.ntmps20
    go_wp2_with fail
    refine (l11Pings_any hr hl hh).mono ?_
    rintro e w0 ⟨a, b, rfl, hab, B0⟩
    have HAB := Lib.hid hab
    clear hab
    go_wp2_with fail
    refine (l11Good_any (hr.below B0 hh) (by omega) (by have := B0.size; omega)).mono ?_
    rintro e w1 ⟨rfl, B1'⟩
    have B1 := B0.trans (B1'.mono B0.size)
    go_wp2_with (go_at_call 33; refine (l11Line_any _ _).mono ?_; rintro e w' ⟨rfl, rfl⟩)
    go_ret3
    rw [HE.out]
    exact ⟨rfl, B1⟩
  have hsb := sum_bound (line := line) h1
  have HV := Lib.hid (show vGoodShare ps line = if sumA ps line ≠ 0 then (redN (sumG ps line) (sumA ps line), redD (sumG ps line) (sumA ps line), true) else (0, 0, false) from by unfold vGoodShare; simp [h1, h2])
  obtain ⟨G, hG⟩ : ∃ G, G = sumG ps line := ⟨_, rfl⟩
  obtain ⟨L, hL⟩ : ∃ L, L = sumA ps line := ⟨_, rfl⟩
  rw [← hG, ← hL] at hsb HV
  have HGL := Lib.hid (show G = sumG ps line ∧ L = sumA ps line from ⟨hG, hL⟩)
  have H1 := Lib.hid h1
  clear hG hL
  by_cases h3 : L = 0
  · have HE := Lib.hid (show vGoodShare ps line = (0, 0, false) from by rw [HV.out, if_neg (by simp [h3])])
    have q : (L == 0) = true := by simpa using h3
    have h0 : 0 < L ∨ L = 0 := by omega
    clear h0 h3
    go_enter Try.func20, Try.ntmps20
    go_wp2_with fail
    refine (l11Pings_any hr hl hh).mono ?_
    rintro e w0 ⟨a, b, rfl, hab, B0⟩
    have HAB := Lib.hid hab
    clear hab
    go_wp2_with fail
    refine (l11Good_any (hr.below B0 hh) (by omega) (by have := B0.size; omega)).mono ?_
    rintro e w1 ⟨rfl, B1'⟩
    have B1 := B0.trans (B1'.mono B0.size)
    obtain ⟨rfl, rfl⟩ : a = G ∧ b = L := ⟨(HAB.out H1.out).1.trans HGL.out.1.symm, (HAB.out H1.out).2.trans HGL.out.2.symm⟩
    go_wp2_with (go_at_call 33; refine (l11Line_any _ _).mono ?_; rintro e w' ⟨rfl, rfl⟩)
    go_ret3
    rw [HE.out]
    exact ⟨rfl, B1⟩
  · have HE := Lib.hid (show vGoodShare ps line = (redN G L, redD G L, true) from by rw [HV.out, if_pos h3])
    have q : (L == 0) = false := by simpa using h3
    have h0 : 0 < L ∨ L = 0 := by omega
    have hpos : 0 < L := by omega
    clear h0 h3
    go_enter Try.func20, Try.ntmps20
    go_wp2_with fail
    refine (l11Pings_any hr hl hh).mono ?_
    rintro e w0 ⟨a, b, rfl, hab, B0⟩
    have HAB := Lib.hid hab
    clear hab
    go_wp2_with fail
    refine (l11Good_any (hr.below B0 hh) (by omega) (by have := B0.size; omega)).mono ?_
    rintro e w1 ⟨rfl, B1'⟩
    have B1 := B0.trans (B1'.mono B0.size)
    obtain ⟨rfl, rfl⟩ : a = G ∧ b = L := ⟨(HAB.out H1.out).1.trans HGL.out.1.symm, (HAB.out H1.out).2.trans HGL.out.2.symm⟩
    go_wp2_with (go_at_call 33; refine (l11Line_any _ _).mono ?_; rintro e w' ⟨rfl, rfl⟩)
    refine (l2Reduce_any a b _ (by omega) (by omega) hpos).mono ?_
    rintro e w3 ⟨rfl, n, rfl⟩
    replace B1 := below_drewN B1 n
    go_wp2_with fail
    go_ret3
    rw [HE.out]
    exact ⟨rfl, B1⟩

end Go.Proofs.Ytnljjocoloijfaa
