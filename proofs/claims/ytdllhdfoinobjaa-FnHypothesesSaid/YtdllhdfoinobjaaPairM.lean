/-
  This file proves the contract of the law's function that marks a slice of pairs of integers in place.
  Conditions: that the slice is a row of the call's own, that the marks are small.
-/
import Derived.Test.YtdllhdfoinobjaaPairS
namespace Go.Proofs.Ytdllhdfoinobjaa
open Go.RowKit
set_option linter.unusedSimpArgs false
set_option linter.unusedVariables false

theorem mark_one {zs : List Value} {k : Int} {q r : Nat} (hz : zs.length = r + 1) :
    ∃ zs' : List Value, (ints (marks k q) ++ zs).set q (.int .i64 (k + (q : Int))) = ints (marks k (q + 1)) ++ zs' ∧ zs'.length = r := by
  have hX : (ints (marks k q)).length = q := by simp [ints, marks_length]
  match zs, hz with
  | z :: R, hz =>
    refine ⟨R, ?_, by simpa using hz⟩
    have e : ints (marks k (q + 1)) = ints (marks k q) ++ [.int .i64 (k + (q : Int))] := by simp [marks, ints]
    rw [e, List.set_append, if_neg (by omega), hX, Nat.sub_self]
    simp
set_option maxHeartbeats 1000000 in
set_option maxRecDepth 100000 in
theorem markIntA2S_any (A : Option Addr) (c lo hi : Nat) (ps : List GPair) (k : Int) (w : World) (ho : Own w 66 lo hi 2 A ps.length c (cellsPair ps)) (h0 : 0 ≤ k) (h1 : k ≤ 1000000000000) (hl : ps.length ≤ 1099511627776) :
    Calls Try.prog 33 #[.slice A ps.length c, .int .i64 k] w fun e w' => e = .returned (.int .i64 (k + (ps.length : Int) * 2)) ∧ Own w' 66 lo hi 2 A ps.length c (ints (marks k (ps.length * 2))) ∧ Only lo hi w w' ∧ w'.heap.size ≤ w.heap.size := by
  go_enter Try.func33, Try.ntmps33
  go_wp2_with fail
  go_loopw [1, 5] (fun t i wr => ∃ (j : Nat) (zs : List Value), j ≤ ps.length ∧ i = .int .i64 j ∧ t = .int .i64 (k + (j : Int) * 2) ∧ zs.length = (ps.length - j) * 2 ∧ Own wr 66 lo hi 2 A ps.length c (ints (marks k (j * 2)) ++ zs) ∧ Only lo hi w wr ∧ wr.heap.size = w.heap.size) (fun _ i _ => ps.length - (intOf i).toNat)
  case atStart => exact ⟨0, cellsPair ps, Nat.zero_le _, rfl, by simp, by rw [cellsPair_length]; rfl, by simpa [marks] using ho, Only.refl _ _ _, rfl⟩
  case round =>
    obtain ⟨j, zs, hj, rfl, rfl, hz, hown, honly, hsz⟩ := hrel
    have HZ := Lib.hid hsz
    have HL := Lib.hid hz
    clear hsz hz
    by_cases hlt : j < ps.length
    · obtain ⟨g, rfl, hg1, hg2⟩ := hown.length_pos (by omega)
      have w1 : IntKind.i64.wrap (k + (j : Int) * 2 + 1) = k + (j : Int) * 2 + 1 := wr64 (by omega) (by omega)
      have w2 : IntKind.i64.wrap (k + (j : Int) * 2 + 1 + 1) = k + (j : Int) * 2 + 1 + 1 := wr64 (by omega) (by omega)
      have q1 : (j : Int) < (ps.length : Int) := by omega
      go_wp2_with fail
      go_loopw [1, 6] (fun t i wz => ∃ (m : Nat) (zs : List Value), m ≤ 2 ∧ i = .int .i64 m ∧ t = .int .i64 (k + (j : Int) * 2 + (m : Int)) ∧ zs.length + m = (ps.length - j) * 2 ∧ Own wz 66 lo hi 2 (some ⟨g, 0, none⟩) ps.length c (ints (marks k (j * 2 + m)) ++ zs) ∧ Only lo hi w wz ∧ wz.heap.size = w.heap.size) (fun _ i _ => 2 - (intOf i).toNat)
      case atStart => exact ⟨0, zs, by omega, rfl, by simp, by rw [HL.out]; rfl, hown, honly, HZ.out⟩
      case round =>
        clear hown honly HZ HL
        obtain ⟨m, zs, hm, rfl, rfl, hz, hown, honly, hsz⟩ := hrel
        have HZ := Lib.hid hsz
        clear hsz
        by_cases hm2 : m < 2
        · obtain ⟨zs', hs, hz'⟩ := mark_one (k := k) (q := j * 2 + m) (zs := zs) (r := (ps.length - j) * 2 - m - 1) (by omega)
          obtain ⟨u0, hu0⟩ : ∃ u, wr.cell? ⟨g, j * 2 + m, none⟩ = some u := by
            have e1 := hown.1.cellAt (j * 2 + m) (by omega)
            exact ⟨_, e1.trans (List.getElem?_eq_getElem (by rw [hown.length]; omega))⟩
          have hf0 : wr.frozen? ⟨g, j * 2 + m, none⟩ = false := hown.frozen _
          have hown' := hown.store (j * 2 + m) (.int .i64 (k + (j : Int) * 2 + (m : Int)))
          have ek : k + ((j * 2 + m : Nat) : Int) = k + (j : Int) * 2 + (m : Int) := by omega
          rw [ek] at hs
          rw [hs] at hown'
          have hz2 : zs'.length + (m + 1) = (ps.length - j) * 2 := by omega
          have w3 : IntKind.i64.wrap (k + (j : Int) * 2 + (m : Int) + 1) = k + (j : Int) * 2 + (m : Int) + 1 := wr64 (by omega) (by omega)
          have HZ2 := Lib.hid hz2
          have q2 : (m : Int) < 2 := by omega
          clear hs hz' hown ek hz hz2
          go_wp2_with fail
          go_roundw
          case rel => exact ⟨m + 1, zs', by omega, by go_num, by congr 1; omega, HZ2.out, hown', honly.setCell hg1 hg2 _, by simpa [World.setCell] using HZ.out⟩
          case measure => simp [intOf]; omega
        · obtain rfl : m = 2 := by omega
          have HZ2 := Lib.hid (show zs.length = (ps.length - (j + 1)) * 2 from by omega)
          have HO := Lib.hid (show Own wr 66 lo hi 2 (some ⟨g, 0, none⟩) ps.length c (ints (marks k ((j + 1) * 2)) ++ zs) from by rw [show (j + 1) * 2 = j * 2 + 2 by omega]; exact hown)
          clear hown hz
          go_wp2_with fail
          go_roundw
          case rel => exact ⟨j + 1, zs, by omega, by go_num, by congr 1; omega, HZ2.out, HO.out, honly, HZ.out⟩
          case measure => simp [intOf]; omega
    · obtain rfl : j = ps.length := by omega
      go_wp2_with fail
      go_ret
      have hz0 : zs = [] := List.eq_nil_of_length_eq_zero (by rw [HL.out]; omega)
      rw [hz0, List.append_nil] at hown
      exact ⟨rfl, hown, honly, Nat.le_of_eq HZ.out⟩


end Go.Proofs.Ytdllhdfoinobjaa
