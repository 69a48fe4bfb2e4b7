/-
  This file proves contracts of the functions that bring a fraction to its lowest terms, of the program and of the reference.
  Conditions: that the numbers are small and the denominator is greater than 0.
-/
import Derived.Test.YtnljjocoloijfaaBase
import Derived.Test.YtnljjocoloijfaaBase2
import Derived.BigQuiet
namespace Go.Proofs.Ytnljjocoloijfaa
open Go.RowKit
set_option linter.unusedSimpArgs false
set_option linter.unusedVariables false

/-- The fraction a / b in lowest terms. -/
def redN (a b : Int) : Int := a.tdiv (Nat.gcd a.natAbs b.natAbs : Nat)
def redD (a b : Int) : Int := b.tdiv (Nat.gcd a.natAbs b.natAbs : Nat)
theorem tdiv_le (a : Int) (g : Nat) : -(a.natAbs : Int) ≤ a.tdiv g ∧ a.tdiv g ≤ a.natAbs := by
  have h : (a.tdiv g).natAbs ≤ a.natAbs := by
    rw [Int.natAbs_tdiv]
    exact Nat.div_le_self _ _
  omega
theorem absI_nat (a : Int) : absI a = (a.natAbs : Int) := by unfold absI; split <;> omega

set_option maxHeartbeats 1000000 in
theorem gcdOf_any (a b : Int) (w : World) (ha : a.natAbs ≤ 1099511627776) (hb : b.natAbs ≤ 1099511627776) :
    Calls Try.prog 50 #[.int .i64 a, .int .i64 b] w fun e w' => e = .returned (.int .i64 (Nat.gcd a.natAbs b.natAbs : Nat)) ∧ ∃ n, w.drewN n = w' := by
  obtain ⟨G, hG⟩ : ∃ G, G = Nat.gcd a.natAbs b.natAbs := ⟨_, rfl⟩
  have ha1 := absI_nat a
  have hb1 := absI_nat b
  obtain ⟨x0, hx0⟩ : ∃ x0, x0 = a.natAbs := ⟨_, rfl⟩
  obtain ⟨y0, hy0⟩ : ∃ y0, y0 = b.natAbs := ⟨_, rfl⟩
  rw [← hG]
  rw [← hx0, ← hy0] at hG
  rw [← hx0] at ha1 ha
  rw [← hy0] at hb1 hb
  have HA := Lib.hid ha1
  have HB := Lib.hid hb1
  have HG := Lib.hid hG
  have hna : -4611686018427387904 ≤ a ∧ a ≤ 4611686018427387904 := by omega
  have hnb : -4611686018427387904 ≤ b ∧ b ≤ 4611686018427387904 := by omega
  clear ha1 hb1 hG
  go_enter Try.func50, Try.ntmps50
  go_wp2_with (go_at_call 51; refine (absOf_any _ _ (by omega) (by omega)).mono ?_; rintro e w' ⟨rfl, rfl⟩)
  rw [HA.out, HB.out]
  go_loopw [0, 1] (fun s t wr => ∃ x y n : Nat, s = .int .i64 x ∧ t = .int .i64 y ∧ Nat.gcd x y = G ∧ x ≤ 1099511627776 ∧ y ≤ 1099511627776 ∧ w.drewN n = wr) (fun _ t _ => (intOf t).toNat)
  case atStart => exact ⟨x0, y0, 0, rfl, rfl, HG.out.symm, by omega, by omega, rfl⟩
  case round =>
    obtain ⟨x, y, n, rfl, rfl, hg, hx, hy, rfl⟩ := hrel
    have H := Lib.hid hg
    clear hg
    rcases Nat.eq_zero_or_pos y with hz | hpos
    · subst hz
      have H2 := Lib.hid (show x = G from by have := H.out; rwa [Nat.gcd_zero_right] at this)
      go_wp2_with fail
      go_ret
      rw [← H2.out]
      exact ⟨rfl, n, rfl⟩
    · have e1 : ((y : Int) != 0) = true := by rw [bne_iff_ne]; omega
      have e2 : ¬ ((y : Int) = 0) := by omega
      have e3 : ¬ (y = 0) := by omega
      have hlt := Nat.mod_lt x hpos
      have e4 : IntKind.i64.wrap ((x : Int).tmod (y : Int)) = ((x % y : Nat) : Int) := by rw [← Int.ofNat_tmod]; exact wr64 (by omega) (by omega)
      have H3 := Lib.hid (show Nat.gcd y (x % y) = G from by have := H.out; rw [Nat.gcd_comm, Nat.gcd_rec] at this; rw [Nat.gcd_comm]; exact this)
      generalize hm : x % y = m at hlt e4 H3
      have HMm := Lib.hid (show (x : Int) % (y : Int) = (m : Int) from by rw [← hm]; exact (Int.natCast_emod x y).symm)
      clear hm
      go_wp2_with fail
      go_quiet (fail)
      go_wp2_with fail
      go_roundw
      case rel => exact ⟨y, m, n + nq, rfl, (by first | rfl | exact congrArg (Value.int .i64) HMm.out), H3.out, by omega, by omega, by rw [World.drewN_drewN]⟩
      case measure => have hh := HMm.out; simp [intOf]; omega

set_option maxHeartbeats 1000000 in
theorem lowestTerms_any (a b : Int) (w : World) (ha : a.natAbs ≤ 1099511627776) (hb : b.natAbs ≤ 1099511627776) (hb0 : 0 < b) :
    Calls Try.prog 41 #[.int .i64 a, .int .i64 b] w fun e w' => e = .returned (.tuple #[.int .i64 (redN a b), .int .i64 (redD a b)]) ∧ ∃ n, w.drewN n = w' := by
  obtain ⟨G, hG⟩ : ∃ G, G = Nat.gcd a.natAbs b.natAbs := ⟨_, rfl⟩
  have hpos : 0 < G := by rw [hG]; exact Nat.gcd_pos_of_pos_right _ (by omega)
  have HN := Lib.hid (show redN a b = a.tdiv G from by unfold redN; rw [← hG])
  have HD := Lib.hid (show redD a b = b.tdiv G from by unfold redD; rw [← hG])
  have e1 : ¬ ((G : Int) = 0) := by omega
  have e2 : ¬ (G = 0) := by omega
  have t1 := tdiv_le a G
  have t2 := tdiv_le b G
  have e3 : IntKind.i64.wrap (a.tdiv (G : Int)) = a.tdiv (G : Int) := wr64 (by omega) (by omega)
  have e4 : IntKind.i64.wrap (b.tdiv (G : Int)) = b.tdiv (G : Int) := wr64 (by omega) (by omega)
  have HG := Lib.hid hG
  clear hG t1 t2
  go_enter Try.func41, Try.ntmps41
  go_wp2_with fail
  refine (gcdOf_any a b _ ha hb).mono ?_
  rintro e w1 ⟨rfl, n, rfl⟩
  rw [← HG.out]
  go_wp2_with fail
  go_quiet (fail)
  go_wp2_with fail
  go_ret2
  rw [HN.out, HD.out]
  exact ⟨rfl, n + nq, by rw [World.drewN_drewN]⟩

set_option maxHeartbeats 1000000 in
theorem l2Reduce_any (a b : Int) (w : World) (ha : a.natAbs ≤ 1099511627776) (hb : b.natAbs ≤ 1099511627776) (hb0 : 0 < b) :
    Calls Try.prog 39 #[.int .i64 a, .int .i64 b] w fun e w' => e = .returned (.tuple #[.int .i64 (redN a b), .int .i64 (redD a b)]) ∧ ∃ n, w.drewN n = w' := by
  obtain ⟨G, hG⟩ : ∃ G, G = Nat.gcd a.natAbs b.natAbs := ⟨_, rfl⟩
  have hpos : 0 < G := by rw [hG]; exact Nat.gcd_pos_of_pos_right _ (by omega)
  have HN := Lib.hid (show redN a b = a.tdiv G from by unfold redN; rw [← hG])
  have HD := Lib.hid (show redD a b = b.tdiv G from by unfold redD; rw [← hG])
  have t1 := tdiv_le a G
  have t2 := tdiv_le b G
  obtain ⟨x0, hx0⟩ : ∃ x0, x0 = a.natAbs := ⟨_, rfl⟩
  have hm : mostI a (-a) = (x0 : Int) := by rw [hx0]; unfold mostI; split <;> omega
  have hbe : b = (b.natAbs : Int) := by omega
  have e3 : IntKind.i64.wrap (a.tdiv (G : Int)) = a.tdiv (G : Int) := wr64 (by omega) (by omega)
  have e4 : IntKind.i64.wrap (b.tdiv (G : Int)) = b.tdiv (G : Int) := wr64 (by omega) (by omega)
  have e5 : IntKind.i64.wrap (-a) = -a := wr64 (by omega) (by omega)
  rw [← hx0] at hG ha
  have HG := Lib.hid hG
  have HM := Lib.hid hm
  have HBE := Lib.hid hbe
  clear hG t1 t2 hx0 hm hbe
  go_enter Try.func39, Try.ntmps39
  go_wp2_with (go_at_call 37; refine (l1Most_any _ _ _).mono ?_; rintro e w' ⟨rfl, rfl⟩)
  rw [HM.out]
  go_loopw [6, 7] (fun s t wr => ∃ x y : Nat, s = .int .i64 x ∧ t = .int .i64 y ∧ Nat.gcd x y = G ∧ x ≤ 1099511627776 ∧ y ≤ 1099511627776 ∧ w = wr) (fun _ t _ => (intOf t).toNat)
  case atStart => exact ⟨x0, b.natAbs, rfl, congrArg (Value.int .i64) HBE.out, HG.out.symm, ha, hb, rfl⟩
  case round =>
    obtain ⟨x, y, rfl, rfl, hg, hx, hy, rfl⟩ := hrel
    have H := Lib.hid hg
    clear hg
    rcases Nat.eq_zero_or_pos y with hz | hposy
    · subst hz
      obtain rfl : x = G := by have := H.out; rwa [Nat.gcd_zero_right] at this
      have e1 : ¬ ((x : Int) = 0) := by omega
      have e2 : ¬ (x = 0) := by omega
      go_wp2_with fail
      go_quiet (fail)
      go_wp2_with fail
      go_ret2
      rw [HN.out, HD.out]
      exact ⟨rfl, _, rfl⟩
    · have e1 : ((y : Int) != 0) = true := by rw [bne_iff_ne]; omega
      have e2 : ¬ ((y : Int) = 0) := by omega
      have e2' : ¬ (y = 0) := by omega
      have hlt := Nat.mod_lt x hposy
      have e6 : IntKind.i64.wrap ((x : Int).tmod (y : Int)) = ((x % y : Nat) : Int) := by rw [← Int.ofNat_tmod]; exact wr64 (by omega) (by omega)
      have H3 := Lib.hid (show Nat.gcd y (x % y) = G from by have := H.out; rw [Nat.gcd_comm, Nat.gcd_rec] at this; rw [Nat.gcd_comm]; exact this)
      generalize hm : x % y = m at hlt e6 H3
      have HMm := Lib.hid (show (x : Int) % (y : Int) = (m : Int) from by rw [← hm]; exact (Int.natCast_emod x y).symm)
      clear hm
      go_wp2_with fail
      go_roundw
      case rel => exact ⟨y, m, rfl, (by first | rfl | exact congrArg (Value.int .i64) HMm.out), H3.out, by omega, by omega, by first | rfl | trivial⟩
      case measure => have hh := HMm.out; simp [intOf]; omega

end Go.Proofs.Ytnljjocoloijfaa
