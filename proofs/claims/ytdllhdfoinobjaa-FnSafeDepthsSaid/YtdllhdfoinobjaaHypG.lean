/-
  This file proves contracts on hypotheses: the strong ones of votes, and the safe depth of the program and of the reference.
  Conditions: that the slice reads as a list of depths, that it is not too long.
-/
import Derived.Test.YtdllhdfoinobjaaHypF
namespace Go.Proofs.Ytdllhdfoinobjaa
open Go.RowKit
set_option linter.unusedSimpArgs false
set_option linter.unusedVariables false

theorem isStrength_any (n : Int) (w : World) : Calls Try.prog 64 #[.int .i64 n] w fun e w' => e = .returned (.bool (inR n 1 20)) ∧ w = w' := by
  go_enter Try.func64, Try.ntmps64
  go_wp2_with (go_at_call 53; refine (inside_any _ _ _ _).mono ?_; rintro e w' ⟨rfl, rfl⟩)
  go_ret
  exact ⟨rfl, rfl⟩

/-- A list of hypotheses that reads, below all that the call turned. -/
def RetRdH (F : List GHypothesis) (w : World) (e : Ending) (w' : World) : Prop := ∃ (A : Option Addr) (c lo hi : Nat), e = .returned (.slice A F.length c) ∧ RdH w' lo hi A F ∧ w.heap.size ≤ lo ∧ hi ≤ w'.heap.size ∧ Below w.heap.size w w'
set_option maxHeartbeats 1000000 in
set_option maxRecDepth 100000 in
theorem strongOf_any {A : Option Addr} {c lo hi : Nat} {xs : List Int} {wd s : Int} {w : World} (hr : RdI w lo hi A xs) (hh : hi ≤ w.heap.size) (hcv : canV xs wd = true) :
    Calls Try.prog 65 #[.slice A xs.length c, .int .i64 wd, .int .i64 s] w (RetRdH (strL s (hypV xs wd)) w) := by
  have hl20 := (hypV_facts hcv).1
  have HC := Lib.hid hcv
  clear hcv
  have hb0 := below_alloc1 w (.cells #[.int .i64 s] 3)
  have hs0 : (w.alloc (.cells #[.int .i64 s] 3)).heap.size = w.heap.size + 1 := by simp
  have hc0 : (w.alloc (.cells #[.int .i64 s] 3)).cell? ⟨w.heap.size, 0, none⟩ = some (.int .i64 s) := by
    rw [cell_of_row _ _ _ _ _ (0, 0) (heap_alloc_new w _)]; rfl
  go_enter Try.func65, Try.ntmps65
  go_wp2_with fail
  generalize w.alloc (.cells #[.int .i64 s] 3) = wx at hb0 hs0 hc0 ⊢
  refine (hypothesesOf_any (hr.below hb0 hh) (by omega) HC.out).mono ?_
  rintro e w1 ⟨A1, c1, rfl, O1, B1⟩
  have hs1 := B1.size
  have hc1 := (B1.cell (p := ⟨w.heap.size, 0, none⟩) (show w.heap.size < wx.heap.size from by omega)).trans hc0
  have BB1 := hb0.trans (B1.mono (by omega))
  clear hc0 B1 hb0
  generalize hF : hypV xs wd = F at O1 hl20 ⊢
  go_wp2_with fail
  refine (deleteH_any hc1 (by omega) O1 (Nat.le_refl _) hs1 hl20).mono ?_
  rintro e w2 ⟨A2, c2, rfl, R2, B2⟩
  have hs2 := B2.size
  go_wp2_with fail
  go_ret
  subst hF
  exact ⟨A2, c2, wx.heap.size, w1.heap.size, rfl, R2, by omega, hs2, BB1.trans (B2.mono (by omega))⟩

def vSafeDepth (xs : List Int) (wd s : Int) : Int × Bool :=
  if canV xs wd = true ∧ inR s 1 20 = true then (match strL s (hypV xs wd) with | [] => (0, false) | h :: _ => (h.lw, true)) else (0, false)
theorem strL_hit {s : Int} {F : List GHypothesis} {k : Nat} {p : GHypothesis} (h0 : strL s (F.take k) = []) (hp : F[k]? = some p) (h : ¬ p.vt < s) : ∃ r, strL s F = p :: r := by
  refine ⟨strL s (F.drop (k + 1)), ?_⟩
  have hd : F.drop k = p :: F.drop (k + 1) := by
    obtain ⟨hj, rfl⟩ := List.getElem?_eq_some_iff.1 hp
    exact List.drop_eq_getElem_cons hj
  have e : strL s F = strL s (F.take k) ++ strL s (F.drop k) := by
    unfold strL
    rw [← List.filter_append, List.take_append_drop]
  rw [e, h0, hd]
  simp [strL, h]

set_option maxHeartbeats 1000000 in
set_option maxRecDepth 100000 in
theorem iSafeDepth {A : Option Addr} {c lo hi : Nat} {xs : List Int} {wd s : Int} {w : World} (hr : RdI w lo hi A xs) (hl : xs.length ≤ 4194304) (hh : hi ≤ w.heap.size) :
    Calls Try.prog 29 #[.slice A xs.length c, .int .i64 wd, .int .i64 s] w (RetIB (vSafeDepth xs wd s).1 (vSafeDepth xs wd s).2 w) := by
  by_cases h1 : canV xs wd = true
  rotate_left
  · have h1' : canV xs wd = false := by simpa using h1
    have HE := Lib.hid (show vSafeDepth xs wd s = (0, false) from by unfold vSafeDepth; rw [if_neg (by simp [h1'])])
    clear h1
    go_enter Try.func29, Try.ntmps29
    go_wp2_with fail
    refine (canVote_any hr hl hh).mono ?_
    rintro e w' ⟨rfl, rfl⟩
    rw [h1']
    go_wp2_with fail
    go_ret2
    rw [HE.out]
    exact ⟨rfl, Below.refl _ _⟩
  by_cases h2 : inR s 1 20 = true
  rotate_left
  · have h2' : inR s 1 20 = false := by simpa using h2
    have HE := Lib.hid (show vSafeDepth xs wd s = (0, false) from by unfold vSafeDepth; rw [if_neg (by simp [h2'])])
    clear h2
    go_enter Try.func29, Try.ntmps29
    go_wp2_with fail
    refine (canVote_any hr hl hh).mono ?_
    rintro e w' ⟨rfl, rfl⟩
    rw [h1]
    clear h1
    go_wp2_with fail
    refine (isStrength_any _ _).mono ?_
    rintro e w' ⟨rfl, rfl⟩
    rw [h2']
    go_wp2_with fail
    go_ret2
    rw [HE.out]
    exact ⟨rfl, Below.refl _ _⟩
  have HE := Lib.hid (show vSafeDepth xs wd s = (match strL s (hypV xs wd) with | [] => (0, false) | h :: _ => (h.lw, true)) from by unfold vSafeDepth; rw [if_pos ⟨h1, h2⟩])
  have H1 := Lib.hid h1
  have hl20 := (hypV_facts h1).1
  go_enter Try.func29, Try.ntmps29
  go_wp2_with fail
  refine (canVote_any hr hl hh).mono ?_
  rintro e w' ⟨rfl, rfl⟩
  rw [h1]
  clear h1
  go_wp2_with fail
  refine (isStrength_any _ _).mono ?_
  rintro e w' ⟨rfl, rfl⟩
  rw [h2]
  clear h2
  go_wp2_with fail
  refine (strongOf_any (s := s) hr hh H1.out).mono ?_
  rintro e w1 ⟨A1, c1, lo1, hi1, rfl, R1, _, _, B1⟩
  have hle := strL_le s (hypV xs wd)
  obtain ⟨G, hG⟩ : ∃ G, strL s (hypV xs wd) = G := ⟨_, rfl⟩
  rw [hG] at R1 hle ⊢
  have HG := Lib.hid hG
  clear hG
  rcases G with _ | ⟨h, G⟩
  · go_wp2_with fail
    go_ret2
    rw [HE.out, HG.out]
    exact ⟨rfl, B1⟩
  obtain ⟨b, off, p, rfl, _, _, hp, c0, c1', c2⟩ := R1.getHypothesis (k := 0) (by simp)
  simp only [List.getElem?_cons_zero, Option.some.injEq] at hp
  subst hp
  have q1 : (0 : Int) < ((h :: G).length : Int) := by
    have : 0 < (h :: G).length := by simp
    omega
  have q2 : (((h :: G).length : Int) == 0) = false := by rw [beq_eq_false_iff_ne]; omega
  rw [Nat.zero_mul, Nat.add_zero] at c0
  obtain ⟨n, hn⟩ : ∃ n, n = (h :: G).length := ⟨_, rfl⟩
  rw [← hn] at q1 q2 ⊢
  have q3 : ¬ n = 0 := by omega
  have q4 : 0 < n := by omega
  clear hn c1' c2
  go_wp2_with fail
  go_ret2
  rw [HE.out, HG.out]
  exact ⟨rfl, B1⟩


set_option maxHeartbeats 1000000 in
set_option maxRecDepth 100000 in
theorem sSafeDepth {A : Option Addr} {c lo hi : Nat} {xs : List Int} {wd s : Int} {w : World} (hr : RdI w lo hi A xs) (hl : xs.length ≤ 4194304) (hh : hi ≤ w.heap.size) :
    Calls Try.prog 27 #[.slice A xs.length c, .int .i64 wd, .int .i64 s] w (RetIB (vSafeDepth xs wd s).1 (vSafeDepth xs wd s).2 w) := by
  by_cases h1 : canV xs wd = true
  rotate_left
  · have h1' : canV xs wd = false := by simpa using h1
    have HE := Lib.hid (show vSafeDepth xs wd s = (0, false) from by unfold vSafeDepth; rw [if_neg (by simp [h1'])])
    clear h1
    go_enter Try.func27, Try.ntmps27
    go_wp2_with fail
    refine (l13Asked_any hr hl hh).mono ?_
    rintro e w' ⟨rfl, rfl⟩
    rw [h1']
    go_wp2_with fail
    go_ret2
    rw [HE.out]
    exact ⟨rfl, Below.refl _ _⟩
  by_cases h2 : inR s 1 20 = true
  rotate_left
  · have h2' : inR s 1 20 = false := by simpa using h2
    have HE := Lib.hid (show vSafeDepth xs wd s = (0, false) from by unfold vSafeDepth; rw [if_neg (by simp [h2'])])
    clear h2
    go_enter Try.func27, Try.ntmps27
    go_wp2_with fail
    refine (l13Asked_any hr hl hh).mono ?_
    rintro e w' ⟨rfl, rfl⟩
    rw [h1]
    clear h1
    go_wp2_with fail
    refine (l1In_any _ _ _ _).mono ?_
    rintro e w' ⟨rfl, rfl⟩
    rw [h2']
    go_wp2_with fail
    go_ret2
    rw [HE.out]
    exact ⟨rfl, Below.refl _ _⟩
  have HE := Lib.hid (show vSafeDepth xs wd s = (match strL s (hypV xs wd) with | [] => (0, false) | h :: _ => (h.lw, true)) from by unfold vSafeDepth; rw [if_pos ⟨h1, h2⟩])
  have H1 := Lib.hid h1
  have hl20 := (hypV_facts h1).1
  go_enter Try.func27, Try.ntmps27
  go_wp2_with fail
  refine (l13Asked_any hr hl hh).mono ?_
  rintro e w' ⟨rfl, rfl⟩
  rw [h1]
  clear h1
  go_wp2_with fail
  refine (l1In_any _ _ _ _).mono ?_
  rintro e w' ⟨rfl, rfl⟩
  rw [h2]
  clear h2
  go_wp2_with fail
  refine (l13Of_any hr hh H1.out).mono ?_
  rintro e w1 ⟨A1, c1, rfl, O1, B1⟩
  have hR := O1.rd
  clear O1
  generalize hF : hypV xs wd = F at hR hl20 ⊢
  rw [hF] at HE
  clear hF
  go_wp2_with fail
  go_loop [9] (fun i => ∃ k : Nat, k ≤ F.length ∧ i = .int .i64 k ∧ strL s (F.take k) = []) (fun i => F.length - (intOf i).toNat)
  case atStart => exact ⟨0, Nat.zero_le _, rfl, rfl⟩
  case round =>
    obtain ⟨k, hk, rfl, h0⟩ := hrel
    have H0 := Lib.hid h0
    clear h0
    by_cases hlt : k < F.length
    · obtain ⟨b, off, p, rfl, _, _, hp, c0, c1', c2⟩ := hR.getHypothesis hlt
      have q1 : (k : Int) < (F.length : Int) := by omega
      by_cases hv : p.vt < s
      · have HS := Lib.hid ((strL_skip hp hv).trans H0.out)
        have q2 : ¬ s ≤ p.vt := by omega
        clear hp
        go_wp2_with fail
        go_round
        case rel => exact ⟨k + 1, by omega, by go_num, HS.out⟩
        case measure => simp [intOf]; omega
      · obtain ⟨r, hr1⟩ := strL_hit H0.out hp hv
        have HS := Lib.hid hr1
        have q2 : s ≤ p.vt := by omega
        clear hp hr1 hv
        go_wp2_with fail
        go_ret2
        rw [HE.out, HS.out]
        exact ⟨rfl, B1⟩
    · have h0 := H0.out
      rw [List.take_of_length_le (by omega)] at h0
      have HN := Lib.hid h0
      clear h0
      go_wp2_with fail
      go_ret2
      rw [HE.out, HN.out]
      exact ⟨rfl, B1⟩


end Go.Proofs.Ytdllhdfoinobjaa
