/-
  This file proves the contract of the draw of two tracks.
  Conditions: that the code reads as a list of bytes, 65536 at most.
-/
import Derived.Test.YtchgcpdmomeofaaTrackK
import Derived.Test.YtchgcpdmomeofaaCopy
import Derived.RegionTactic
import Derived.Deep.RegionLaw
namespace Go.Proofs.Ytchgcpdmomeofaa
open Go.RowKit
set_option linter.unusedSimpArgs false
set_option linter.unusedVariables false

set_option maxHeartbeats 4000000 in
set_option maxRecDepth 100000 in
theorem drawWhereShoaler_any {A : Option Addr} {c : Nat} {xs : List Int} {w : World} (hc : Code8 w A xs) :
    Calls Try.prog 35 #[.slice A xs.length c] w (DrII 31 w) := by
  have C0 := Cur.new (c := c) hc 50
  have hb0 := below_alloc1 w (.cells #[.slice A xs.length c, .int .i64 0, .int .u64 0] 50)
  have hgw := C0.lt
  go_enter Try.func35, Try.ntmps35
  go_wp2_with fail
  generalize w.alloc (.cells #[.slice A xs.length c, .int .i64 0, .int .u64 0] 50) = wx at C0 hb0 hgw ⊢
  refine (track_any C0 (by omega)).mono ?_
  rintro e w1 ⟨B, d, ys, rfl, hl2, hl, U0⟩
  have hsw1 : w.heap.size ≤ w1.heap.size := Nat.le_trans hb0.size U0.base
  go_wp2_with fail
  refine (one_any U0.cur (by omega) (by omega) (by omega)).mono ?_
  rintro e w2 ⟨bv, rfl, on2, cc2, z2⟩
  have U1 := U0.step on2 cc2
  have hg2 : w.heap.size < w2.heap.size := Nat.lt_of_lt_of_le U1.hg U1.base
  clear U0 on2 cc2 z2
  rcases bv with _ | _
  rotate_left
  · go_wp2_with fail
    refine (track_any U1.cur (by omega)).mono ?_
    rintro e w3 ⟨C, h, zs, rfl, hz2, hz, U2⟩
    go_wp2_with fail
    go_ret2
    exact ⟨B, C, d, h, ys, zs, rfl, hl, by omega, (U1.own.only U2.on (.inr U1.hg) (Nat.le_refl _)).more hb0.size U2.on.size, U2.own.more (by omega) (Nat.le_refl _), (U1.out hb0).trans (U2.on.bel hg2 (Nat.le_refl _))⟩
  go_wp2_with fail
  refine (l1Own_any U1.own.rd (by omega) (Nat.le_refl _)).mono ?_
  rintro e w3 ⟨C, h, rfl, OC, B3⟩
  have S0 : St w2 w3 w.heap.size (0 + 200 + 2) 3 1 C ys.length h (ints ys) := ⟨OC, Only.of_below B3, U1.cur.below B3 hg2, hg2⟩
  obtain ⟨g', rfl, hg1', hg2'⟩ := OC.length_pos (by omega)
  clear OC B3
  go_wp2_with fail
  refine (pick_any S0.cur (by omega) (by omega) (by omega)).mono ?_
  rintro e w4 ⟨pn, rfl, p1, p2, on4, c4, z4⟩
  have S1 := S0.step on4 c4
  clear S0 z4 on4 c4
  obtain ⟨n, rfl⟩ : ∃ n : Nat, pn = (n : Int) := ⟨pn.toNat, by omega⟩
  go_wp2_with fail
  go_loopw [7] (fun nv wr => ∃ (n : Nat) (F : List Int), nv = .int .i64 n ∧ n ≤ 3 ∧ F.length = ys.length ∧ St w2 wr w.heap.size (300 + 4 * (3 - n)) 3 1 (some ⟨g', 0, none⟩) ys.length h (ints F)) (fun nv _ => (intOf nv).toNat)
  case atStart => exact ⟨n, ys, rfl, by omega, rfl, S1.more (by omega)⟩
  case round => as_aux_lemma =>
    clear S1
    obtain ⟨n, F, rfl, hn, hF, S2⟩ := hrel
    have HF := Lib.hid hF
    by_cases hlt : 0 < n
    rotate_left
    · obtain rfl : n = 0 := by omega
      rw [← hF] at S2
      go_wp2_with fail
      go_ret2
      exact ⟨B, _, d, h, ys, F, by rw [HF.out]; rfl, hl, by omega, (U1.own.only S2.on (.inr U1.hg) (Nat.le_refl _)).more hb0.size S2.on.size, S2.own.more (by omega) (Nat.le_refl _), (U1.out hb0).trans (S2.on.bel hg2 (Nat.le_refl _))⟩
    have q1 : (0 : Int) < (n : Int) := by omega
    have hFl : 2 ≤ F.length ∧ F.length ≤ 31 := by omega
    clear hF
    go_wp2_with fail
    refine (pick_any S2.cur (by omega) (by omega) (by omega)).mono ?_
    rintro e w5 ⟨iv, rfl, i1, i2, on5, c5, z5⟩
    have S3 := S2.step on5 c5
    clear S2 z5 on5 c5
    obtain ⟨j, rfl⟩ : ∃ j : Nat, iv = (j : Int) := ⟨iv.toNat, by omega⟩
    have q2 : (j : Int) < (ys.length : Int) := by omega
    have q0 : (0 : Int) ≤ (j : Int) := by omega
    have hjF : j < F.length := by have := HF.out; omega
    obtain ⟨x, hx⟩ : ∃ x, F[j]? = some x := ⟨_, List.getElem?_eq_getElem hjF⟩
    have HX := Lib.hid hx
    have hcell : w5.cell? ⟨g', j, none⟩ = some (.int .i64 x) := (S3.own.1.cellAt j (by have := HF.out; omega)).trans (by simp [ints, hx])
    have hfr : w5.frozen? ⟨g', j, none⟩ = false := S3.own.frozen j
    have T := S3.alloc (.cells #[.int .i64 (-5), .int .i64 3, .int .i64 0] 3)
    have hcellT : (w5.alloc (.cells #[.int .i64 (-5), .int .i64 3, .int .i64 0] 3)).cell? ⟨g', j, none⟩ = some (.int .i64 x) := (T.own.1.cellAt j (by have := HF.out; omega)).trans (by simp [ints, hx])
    have hfrT : (w5.alloc (.cells #[.int .i64 (-5), .int .i64 3, .int .i64 0] 3)).frozen? ⟨g', j, none⟩ = false := T.own.frozen j
    have R := rdI_new w5 3 [-5, 3, 0] #[.int .i64 (-5), .int .i64 3, .int .i64 0] rfl
    clear hx
    go_wp2_with fail
    go_region_law ((go_simp; go_at_call 53; refine (among_any (w := (w5.alloc (.cells #[.int .i64 (-5), .int .i64 3, .int .i64 0] 3)).drew) (T.drewN 1).cur (by omega) (R.drewN 1) (.inr (by have := S3.base; have := S3.hg; omega)) (by simp) (by decide) (by decide)).mono ?_; rintro e v6 ⟨dv, _, rfl, on6, c6, z6⟩; have S6 := (T.drewN 1).step on6 c6; have hcell6 : v6.cell? ⟨g', j, none⟩ = some (.int .i64 x) := (S6.own.1.cellAt j (by have := HF.out; omega)).trans (by simp [ints, HX.out]); have hfr6 : v6.frozen? ⟨g', j, none⟩ = false := S6.own.frozen j; clear z6))
    all_goals
      rw [← HF.out] at S6
      obtain ⟨F', hF', S9⟩ := S6.storeI (j := j) (x := wrap64 (x + dv))
      rw [hF', HF.out] at S9
      obtain ⟨n', rfl⟩ : ∃ n', n = n' + 1 := ⟨n - 1, by omega⟩
      have HF' := Lib.hid hF'
      clear hF' S6 hcell6 hfr6 T R
      go_wp2_with fail
      go_roundw
      case rel => exact ⟨n', F', by go_num, by omega, by rw [HF'.out, HF.out], S9.more (by omega)⟩
      case measure => first | (simp [intOf]; done) | (simp [intOf]; omega)

end Go.Proofs.Ytchgcpdmomeofaa
