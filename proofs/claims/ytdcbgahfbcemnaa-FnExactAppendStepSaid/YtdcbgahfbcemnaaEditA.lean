/-
  This file proves contracts on edit steps: whether a text is a word, whether a step has its form.
  Conditions: that the text is no longer than any string of the machine; that the number of soundings lies from 1 to 15.
-/
import Derived.Test.YtdcbgahfbcemnaaEditP
import Derived.Handy
namespace Go.Proofs.Ytdcbgahfbcemnaa
open Go.RowKit
set_option linter.unusedSimpArgs false
set_option linter.unusedVariables false

theorem takeB_snoc (s : ByteArray) (k : Nat) (h : k < s.size) : s.data.toList.take (k + 1) = s.data.toList.take k ++ [s[k]] := by
  rw [List.take_succ_eq_append_getElem (by simpa using h)]; rfl
theorem letters_yes {s : ByteArray} {k : Nat} (h : k < s.size) (hp : (s.data.toList.take k).all isLetter = true) (h1 : ¬ (s[k].toNat : Int) < 97) (h2 : ¬ 122 < (s[k].toNat : Int)) : (s.data.toList.take (k + 1)).all isLetter = true := by
  rw [takeB_snoc s k h, List.all_append, hp]
  simp only [List.all_cons, List.all_nil, Bool.and_true, Bool.true_and, isLetter, Bool.and_eq_true, decide_eq_true_eq]
  omega
theorem letters_no {s : ByteArray} {k : Nat} (h : k < s.size) (hb : (s[k].toNat : Int) < 97 ∨ 122 < (s[k].toNat : Int)) : wordB s = false := by
  unfold wordB lettersB
  rw [Bool.and_eq_false_iff]
  left
  rw [List.all_eq_false]
  refine ⟨s[k], by rw [ByteArray.getElem_eq_getElem_data]; exact Array.mem_toList_iff.2 (Array.getElem_mem _), ?_⟩
  simp only [isLetter, Bool.and_eq_true, decide_eq_true_eq]
  omega
theorem word_all {s : ByteArray} (hp : (s.data.toList.take s.size).all isLetter = true) : wordB s = inR s.size 1 10 := by
  unfold wordB lettersB
  rw [List.take_of_length_le (by simp)] at hp
  rw [hp, Bool.true_and]
theorem word_size {s : ByteArray} (h : wordB s = true) : 1 ≤ s.size ∧ s.size ≤ 10 := by
  unfold wordB at h
  rw [Bool.and_eq_true] at h
  have := inR_true.1 h.2
  omega

set_option maxHeartbeats 1000000 in
theorem isWord_any (s : ByteArray) (w : World) (hs : s.size ≤ maxLen) : Calls Try.prog 64 #[.string s] w fun e w' => e = .returned (.bool (wordB s)) ∧ w = w' := by
  unfold maxLen at hs
  go_enter Try.func64, Try.ntmps64
  go_wp2_with fail
  go_loop [3] (fun i => ∃ k : Nat, k ≤ s.size ∧ i = .int .i64 k ∧ (s.data.toList.take k).all isLetter = true) (fun i => s.size - (intOf i).toNat)
  case atStart => exact ⟨0, Nat.zero_le _, rfl, rfl⟩
  case round =>
    obtain ⟨k, hk, rfl, hp⟩ := hrel
    have HP := Lib.hid hp
    clear hp
    by_cases hlt : k < s.size
    · by_cases h1 : (s[k].toNat : Int) < 97
      · have HN := Lib.hid (letters_no hlt (.inl h1))
        go_wp2_with fail
        go_ret
        exact ⟨ret_bool HN.out.symm, rfl⟩
      · by_cases h2 : 122 < (s[k].toNat : Int)
        · have HN := Lib.hid (letters_no hlt (.inr h2))
          go_wp2_with fail
          go_ret
          exact ⟨ret_bool HN.out.symm, rfl⟩
        · have HY := Lib.hid (letters_yes hlt HP.out h1 h2)
          go_wp2_with fail
          go_round
          case rel => exact ⟨k + 1, by omega, by go_num, HY.out⟩
          case measure => simp [intOf]; omega
    · obtain rfl : k = s.size := by omega
      have HY := Lib.hid (word_all HP.out)
      go_wp2_with (go_at_call 54; refine (inside_any _ _ _ _).mono ?_; rintro e w' ⟨rfl, rfl⟩)
      go_ret
      exact ⟨ret_bool HY.out.symm, rfl⟩

set_option maxHeartbeats 1000000 in
theorem l2Word_any (s : ByteArray) (w : World) (hs : s.size ≤ maxLen) : Calls Try.prog 63 #[.string s] w fun e w' => e = .returned (.bool (wordB s)) ∧ w = w' := by
  unfold maxLen at hs
  go_enter Try.func63, Try.ntmps63
  go_wp2_with fail
  go_loop [3] (fun i => ∃ k : Nat, k ≤ s.size ∧ i = .int .i64 k ∧ (s.data.toList.take k).all isLetter = true) (fun i => s.size - (intOf i).toNat)
  case atStart => exact ⟨0, Nat.zero_le _, rfl, rfl⟩
  case round =>
    obtain ⟨k, hk, rfl, hp⟩ := hrel
    have HP := Lib.hid hp
    clear hp
    by_cases hlt : k < s.size
    · by_cases h1 : (s[k].toNat : Int) < 97
      · have HN := Lib.hid (letters_no hlt (.inl h1))
        go_wp2_with fail
        go_ret
        exact ⟨ret_bool HN.out.symm, rfl⟩
      · by_cases h2 : 122 < (s[k].toNat : Int)
        · have HN := Lib.hid (letters_no hlt (.inr h2))
          go_wp2_with fail
          go_ret
          exact ⟨ret_bool HN.out.symm, rfl⟩
        · have HY := Lib.hid (letters_yes hlt HP.out h1 h2)
          go_wp2_with fail
          go_round
          case rel => exact ⟨k + 1, by omega, by go_num, HY.out⟩
          case measure => simp [intOf]; omega
    · obtain rfl : k = s.size := by omega
      have HY := Lib.hid (word_all HP.out)
      go_wp2_with (go_at_call 53; refine (l1In_any _ _ _ _).mono ?_; rintro e w' ⟨rfl, rfl⟩)
      go_ret
      exact ⟨ret_bool HY.out.symm, rfl⟩

theorem form_word {m : Int} {p : GEditStep} (h : wordB p.rs = false) : formB m p = false := by unfold formB; rw [h]; rfl
theorem form_mark {m : Int} {p : GEditStep} (h : inR p.mr 0 (m - 1) = false) : formB m p = false := by unfold formB; rw [h, Bool.and_false]; rfl
theorem form_rest {m : Int} {p : GEditStep} {b : Bool} (h : wordB p.rs = true) (h2 : inR p.mr 0 (m - 1) = true) (h3 : kindB p = b) : formB m p = b := by unfold formB; rw [h, h2, h3]; rfl
theorem kind_01 {p : GEditStep} (h : p.kd = 0 ∨ p.kd = 1) : kindB p = (p.sh == 0) := by unfold kindB; rw [if_pos h, Bool.eq_iff_iff]; simp
theorem kind_2 {p : GEditStep} (h : p.kd = 2) : kindB p = (inR p.sh (-100) 100 && (p.sh != 0)) := by unfold kindB; rw [if_neg (by omega), if_pos h, Bool.eq_iff_iff]; simp
theorem kind_3 {p : GEditStep} (h : p.kd = 3) : kindB p = ((p.mr == 0) && (p.sh == 0)) := by unfold kindB; rw [if_neg (by omega), if_neg (by omega), if_pos h, Bool.eq_iff_iff]; simp
theorem kind_no {p : GEditStep} (h : ¬ (p.kd = 0 ∨ p.kd = 1)) (h2 : p.kd ≠ 2) (h3 : p.kd ≠ 3) : kindB p = false := by unfold kindB; rw [if_neg h, if_neg h2, if_neg h3]

set_option maxHeartbeats 4000000 in
theorem isEditStep_any (m : Int) (p : GEditStep) (w : World) (hs : p.rs.size ≤ maxLen) (hm : 1 ≤ m ∧ m ≤ 15) : Calls Try.prog 59 #[.int .i64 m, .agg #[.int .i64 p.kd, .int .i64 p.mr, .int .i64 p.sh, .string p.rs]] w (RetB (formB m p) w) := by
  have q1 : IntKind.i64.wrap (m - 1) = m - 1 := wr64 (by omega) (by omega)
  rcases hw : wordB p.rs with _ | _
  · have HF := Lib.hid (form_word (m := m) hw)
    go_enter Try.func59, Try.ntmps59
    go_wp2_with (first | (go_at_call 64; refine (isWord_any _ _ hs).mono ?_; rintro e w' ⟨rfl, rfl⟩) | (go_at_call 54; refine (inside_any _ _ _ _).mono ?_; rintro e w' ⟨rfl, rfl⟩))
    go_ret
    exact ⟨ret_bool (by rw [HF.out]), by go_grown⟩
  rcases hi : inR p.mr 0 (m - 1) with _ | _
  · have HF := Lib.hid (form_mark hi)
    go_enter Try.func59, Try.ntmps59
    go_wp2_with (first | (go_at_call 64; refine (isWord_any _ _ hs).mono ?_; rintro e w' ⟨rfl, rfl⟩) | (go_at_call 54; refine (inside_any _ _ _ _).mono ?_; rintro e w' ⟨rfl, rfl⟩))
    go_ret
    exact ⟨ret_bool (by rw [HF.out]), by go_grown⟩
  by_cases h0 : p.kd = 0
  · have HF := Lib.hid (form_rest hw hi (kind_01 (.inl h0)))
    have t0 : (p.kd == 0) = true := by simpa using h0
    clear h0
    go_enter Try.func59, Try.ntmps59
    go_wp2_with (first | (go_at_call 64; refine (isWord_any _ _ hs).mono ?_; rintro e w' ⟨rfl, rfl⟩) | (go_at_call 54; refine (inside_any _ _ _ _).mono ?_; rintro e w' ⟨rfl, rfl⟩))
    go_ret
    exact ⟨ret_bool (by rw [HF.out]), by go_grown⟩
  by_cases h1 : p.kd = 1
  · have HF := Lib.hid (form_rest hw hi (kind_01 (.inr h1)))
    have t0 : (p.kd == 0) = false := by simpa using h0
    have t1 : (p.kd == 1) = true := by simpa using h1
    clear h0 h1
    go_enter Try.func59, Try.ntmps59
    go_wp2_with (first | (go_at_call 64; refine (isWord_any _ _ hs).mono ?_; rintro e w' ⟨rfl, rfl⟩) | (go_at_call 54; refine (inside_any _ _ _ _).mono ?_; rintro e w' ⟨rfl, rfl⟩))
    go_ret
    exact ⟨ret_bool (by rw [HF.out]), by go_grown⟩
  by_cases h2 : p.kd = 2
  · have HF := Lib.hid (form_rest hw hi (kind_2 h2))
    have t0 : (p.kd == 0) = false := by simpa using h0
    have t1 : (p.kd == 1) = false := by simpa using h1
    have t2 : (p.kd == 2) = true := by simpa using h2
    clear h0 h1 h2
    rcases hr : inR p.sh (-100) 100 with _ | _
    · rw [hr] at HF
      go_enter Try.func59, Try.ntmps59
      go_wp2_with (first | (go_at_call 64; refine (isWord_any _ _ hs).mono ?_; rintro e w' ⟨rfl, rfl⟩) | (go_at_call 54; refine (inside_any _ _ _ _).mono ?_; rintro e w' ⟨rfl, rfl⟩))
      go_ret
      exact ⟨ret_bool (by rw [HF.out]; first | rfl | simp), by go_grown⟩
    · rw [hr] at HF
      go_enter Try.func59, Try.ntmps59
      go_wp2_with (first | (go_at_call 64; refine (isWord_any _ _ hs).mono ?_; rintro e w' ⟨rfl, rfl⟩) | (go_at_call 54; refine (inside_any _ _ _ _).mono ?_; rintro e w' ⟨rfl, rfl⟩))
      go_ret
      exact ⟨ret_bool (by rw [HF.out]; first | rfl | simp), by go_grown⟩
  by_cases h3 : p.kd = 3
  · have HF := Lib.hid (form_rest hw hi (kind_3 h3))
    have t0 : (p.kd == 0) = false := by simpa using h0
    have t1 : (p.kd == 1) = false := by simpa using h1
    have t2 : (p.kd == 2) = false := by simpa using h2
    have t3 : (p.kd == 3) = true := by simpa using h3
    clear h0 h1 h2 h3
    rcases hr : (p.mr == 0) with _ | _
    · rw [hr] at HF
      go_enter Try.func59, Try.ntmps59
      go_wp2_with (first | (go_at_call 64; refine (isWord_any _ _ hs).mono ?_; rintro e w' ⟨rfl, rfl⟩) | (go_at_call 54; refine (inside_any _ _ _ _).mono ?_; rintro e w' ⟨rfl, rfl⟩))
      go_ret
      exact ⟨ret_bool (by rw [HF.out]; first | rfl | simp), by go_grown⟩
    · rw [hr] at HF
      go_enter Try.func59, Try.ntmps59
      go_wp2_with (first | (go_at_call 64; refine (isWord_any _ _ hs).mono ?_; rintro e w' ⟨rfl, rfl⟩) | (go_at_call 54; refine (inside_any _ _ _ _).mono ?_; rintro e w' ⟨rfl, rfl⟩))
      go_ret
      exact ⟨ret_bool (by rw [HF.out]; first | rfl | simp), by go_grown⟩
  · have HF := Lib.hid (form_rest hw hi (kind_no (by omega) h2 h3))
    have t0 : (p.kd == 0) = false := by simpa using h0
    have t1 : (p.kd == 1) = false := by simpa using h1
    have t2 : (p.kd == 2) = false := by simpa using h2
    have t3 : (p.kd == 3) = false := by simpa using h3
    clear h0 h1 h2 h3
    go_enter Try.func59, Try.ntmps59
    go_wp2_with (first | (go_at_call 64; refine (isWord_any _ _ hs).mono ?_; rintro e w' ⟨rfl, rfl⟩) | (go_at_call 54; refine (inside_any _ _ _ _).mono ?_; rintro e w' ⟨rfl, rfl⟩))
    go_ret
    exact ⟨ret_bool (by rw [HF.out]), by go_grown⟩

set_option maxHeartbeats 4000000 in
theorem l14Form_any (m : Int) (p : GEditStep) (w : World) (hs : p.rs.size ≤ maxLen) (hm : 1 ≤ m ∧ m ≤ 15) : Calls Try.prog 57 #[.int .i64 m, .agg #[.int .i64 p.kd, .int .i64 p.mr, .int .i64 p.sh, .string p.rs]] w (RetB (formB m p) w) := by
  have q1 : IntKind.i64.wrap (m - 1) = m - 1 := wr64 (by omega) (by omega)
  rcases hw : wordB p.rs with _ | _
  · have HF := Lib.hid (form_word (m := m) hw)
    go_enter Try.func57, Try.ntmps57
    go_wp2_with (first | (go_at_call 63; refine (l2Word_any _ _ hs).mono ?_; rintro e w' ⟨rfl, rfl⟩) | (go_at_call 53; refine (l1In_any _ _ _ _).mono ?_; rintro e w' ⟨rfl, rfl⟩))
    go_ret
    exact ⟨ret_bool (by rw [HF.out]), by go_grown⟩
  rcases hi : inR p.mr 0 (m - 1) with _ | _
  · have HF := Lib.hid (form_mark hi)
    go_enter Try.func57, Try.ntmps57
    go_wp2_with (first | (go_at_call 63; refine (l2Word_any _ _ hs).mono ?_; rintro e w' ⟨rfl, rfl⟩) | (go_at_call 53; refine (l1In_any _ _ _ _).mono ?_; rintro e w' ⟨rfl, rfl⟩))
    go_ret
    exact ⟨ret_bool (by rw [HF.out]), by go_grown⟩
  by_cases h0 : p.kd = 0
  · have HF := Lib.hid (form_rest hw hi (kind_01 (.inl h0)))
    have t0 : (p.kd == 0) = true := by simpa using h0
    clear h0
    go_enter Try.func57, Try.ntmps57
    go_wp2_with (first | (go_at_call 63; refine (l2Word_any _ _ hs).mono ?_; rintro e w' ⟨rfl, rfl⟩) | (go_at_call 53; refine (l1In_any _ _ _ _).mono ?_; rintro e w' ⟨rfl, rfl⟩))
    go_ret
    exact ⟨ret_bool (by rw [HF.out]), by go_grown⟩
  by_cases h1 : p.kd = 1
  · have HF := Lib.hid (form_rest hw hi (kind_01 (.inr h1)))
    have t0 : (p.kd == 0) = false := by simpa using h0
    have t1 : (p.kd == 1) = true := by simpa using h1
    clear h0 h1
    go_enter Try.func57, Try.ntmps57
    go_wp2_with (first | (go_at_call 63; refine (l2Word_any _ _ hs).mono ?_; rintro e w' ⟨rfl, rfl⟩) | (go_at_call 53; refine (l1In_any _ _ _ _).mono ?_; rintro e w' ⟨rfl, rfl⟩))
    go_ret
    exact ⟨ret_bool (by rw [HF.out]), by go_grown⟩
  by_cases h2 : p.kd = 2
  · have HF := Lib.hid (form_rest hw hi (kind_2 h2))
    have t0 : (p.kd == 0) = false := by simpa using h0
    have t1 : (p.kd == 1) = false := by simpa using h1
    have t2 : (p.kd == 2) = true := by simpa using h2
    clear h0 h1 h2
    rcases hr : inR p.sh (-100) 100 with _ | _
    · rw [hr] at HF
      go_enter Try.func57, Try.ntmps57
      go_wp2_with (first | (go_at_call 63; refine (l2Word_any _ _ hs).mono ?_; rintro e w' ⟨rfl, rfl⟩) | (go_at_call 53; refine (l1In_any _ _ _ _).mono ?_; rintro e w' ⟨rfl, rfl⟩))
      go_ret
      exact ⟨ret_bool (by rw [HF.out]; first | rfl | simp), by go_grown⟩
    · rw [hr] at HF
      go_enter Try.func57, Try.ntmps57
      go_wp2_with (first | (go_at_call 63; refine (l2Word_any _ _ hs).mono ?_; rintro e w' ⟨rfl, rfl⟩) | (go_at_call 53; refine (l1In_any _ _ _ _).mono ?_; rintro e w' ⟨rfl, rfl⟩))
      go_ret
      exact ⟨ret_bool (by rw [HF.out]; first | rfl | simp), by go_grown⟩
  by_cases h3 : p.kd = 3
  · have HF := Lib.hid (form_rest hw hi (kind_3 h3))
    have t0 : (p.kd == 0) = false := by simpa using h0
    have t1 : (p.kd == 1) = false := by simpa using h1
    have t2 : (p.kd == 2) = false := by simpa using h2
    have t3 : (p.kd == 3) = true := by simpa using h3
    clear h0 h1 h2 h3
    rcases hr : (p.sh == 0) with _ | _
    · rw [hr] at HF
      go_enter Try.func57, Try.ntmps57
      go_wp2_with (first | (go_at_call 63; refine (l2Word_any _ _ hs).mono ?_; rintro e w' ⟨rfl, rfl⟩) | (go_at_call 53; refine (l1In_any _ _ _ _).mono ?_; rintro e w' ⟨rfl, rfl⟩))
      go_ret
      exact ⟨ret_bool (by rw [HF.out]; first | rfl | simp), by go_grown⟩
    · rw [hr] at HF
      go_enter Try.func57, Try.ntmps57
      go_wp2_with (first | (go_at_call 63; refine (l2Word_any _ _ hs).mono ?_; rintro e w' ⟨rfl, rfl⟩) | (go_at_call 53; refine (l1In_any _ _ _ _).mono ?_; rintro e w' ⟨rfl, rfl⟩))
      go_ret
      exact ⟨ret_bool (by rw [HF.out]; first | rfl | simp), by go_grown⟩
  · have HF := Lib.hid (form_rest hw hi (kind_no (by omega) h2 h3))
    have t0 : (p.kd == 0) = false := by simpa using h0
    have t1 : (p.kd == 1) = false := by simpa using h1
    have t2 : (p.kd == 2) = false := by simpa using h2
    have t3 : (p.kd == 3) = false := by simpa using h3
    clear h0 h1 h2 h3
    go_enter Try.func57, Try.ntmps57
    go_wp2_with (first | (go_at_call 63; refine (l2Word_any _ _ hs).mono ?_; rintro e w' ⟨rfl, rfl⟩) | (go_at_call 53; refine (l1In_any _ _ _ _).mono ?_; rintro e w' ⟨rfl, rfl⟩))
    go_ret
    exact ⟨ret_bool (by rw [HF.out]), by go_grown⟩

end Go.Proofs.Ytdcbgahfbcemnaa
