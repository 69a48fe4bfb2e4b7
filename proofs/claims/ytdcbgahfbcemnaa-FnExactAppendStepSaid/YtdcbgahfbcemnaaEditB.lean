/-
  This file proves the reference's contracts on edit lists: which steps are live, the shift of a sounding, whether it is accepted, whether a list is good.
  Conditions: that the slice reads as a list of steps, that it is not too long.
-/
import Derived.Test.YtdcbgahfbcemnaaEditA
import Derived.Test.YtdcbgahfbcemnaaCopy
namespace Go.Proofs.Ytdcbgahfbcemnaa
open Go.RowKit
set_option linter.unusedSimpArgs false
set_option linter.unusedVariables false

def natL (l : List Nat) : List Int := l.map fun (i : Nat) => (i : Int)
theorem natL_len (l : List Nat) : (natL l).length = l.length := by simp [natL]
theorem natL_snoc (l : List Nat) (i : Nat) : natL (l ++ [i]) = natL l ++ [(i : Int)] := by simp [natL]
theorem natL_cut (l : List Nat) : natL l.dropLast = (natL l).take ((natL l).length - 1) := by simp [natL, List.dropLast_eq_take]
theorem natL_get {l : List Nat} {j : Nat} {x : Int} (h : (natL l)[j]? = some x) : ∃ i : Nat, x = (i : Int) ∧ l[j]? = some i := by
  unfold natL at h
  rw [List.getElem?_map] at h
  rcases hl : l[j]? with _ | i
  · rw [hl] at h; cases h
  · rw [hl] at h
    injection h with h
    exact ⟨i, h.symm, rfl⟩
theorem row_cut {w : World} {base : Nat} {e : TypeId} {A : Option Addr} {n c m : Nat} {xs : List Int} (h : w.ownsRow base e 1 (.slice A n c) n (ints xs)) (hm : m ≤ n) (hn : 0 < n) : w.ownsRow base e 1 (.slice A m c) m (ints (xs.take m)) := by
  have hl : xs.length = n := by have := h.1; simpa [ints] using this
  rcases h.2 with ⟨_, h0⟩ | ⟨g, cap, cur, hv, hg, hh, h1, h2, h3, h4⟩
  · omega
  · injection hv with e1 e2 e3
    subst e1 e3
    refine ⟨by simp [ints]; omega, .inr ⟨g, c, cur, rfl, hg, hh, by omega, h2, h3, ?_⟩⟩
    have : ints (xs.take m) = (ints xs).take m := by simp [ints, List.map_take]
    rw [this, ← h4, List.take_take]
    congr 1
    omega
theorem take_nat {l : List Nat} {j i : Nat} (h : l[j]? = some i) : l.take (j + 1) = l.take j ++ [i] := by rw [List.take_add_one, h]; rfl

set_option maxHeartbeats 1000000 in
set_option maxRecDepth 100000 in
theorem l14Live_any {A : Option Addr} {c lo hi k : Nat} {ps : List GEditStep} {w : World} (hr : RdE w lo hi A ps) (hh : hi ≤ w.heap.size) (hk : k ≤ ps.length) (hl : ps.length ≤ 4194304) :
    Calls Try.prog 50 #[.slice A k c] w (RetInts (natL (liveE ps k)) w) := by
  obtain ⟨i0, hi0, hz0, hz1, hz2⟩ := info_parts int_info
  go_enter Try.func50, Try.ntmps50
  go_wp2_with fail
  go_loopw [3, 4] (fun v i wr => ∃ j, j ≤ k ∧ i = .int .i64 (j : Nat) ∧ wr.ownsRow w.heap.size 3 1 v (natL (liveE ps j)).length (ints (natL (liveE ps j))) ∧ Below w.heap.size w wr) (fun _ i _ => k - (intOf i).toNat)
  case atStart => exact ⟨0, Nat.zero_le _, rfl, row_empty _ _ _, below_alloc1 _ _⟩
  case round =>
    obtain ⟨j, hj, rfl, hown, hb⟩ := hrel
    by_cases hlt : j < k
    · obtain ⟨b, off, p, rfl, _, _, hp, c0, c1, c2, c3⟩ := (hr.below hb hh).getEditStep (show j < ps.length by omega)
      have hg := gE_of hp
      have q1 : (j : Int) < (k : Int) := by omega
      have hjl := liveE_len (ps := ps) j
      by_cases h3 : p.kd = 3
      · have t3 : (p.kd != 3) = false := by simpa using h3
        have hlv := liveE_undo (ps := ps) (k := j) (by rw [hg]; exact h3)
        have HCUT := Lib.hid (natL_cut (liveE ps j))
        rw [← hlv] at HCUT
        have hlen : (natL (liveE ps j)).length ≤ j := by rw [natL_len]; exact hjl
        generalize hL : natL (liveE ps j) = L at *
        have HL := Lib.hid hL
        obtain ⟨A', c', rfl, ho⟩ := Own.of_row hown
        clear hL hg hp hlv h3 hjl hown
        by_cases h0 : L.length = 0
        · have q2 : ¬ (0 : Int) < (L.length : Int) := by omega
          have HLE := Lib.hid h0
          have HN := Lib.hid (List.eq_nil_of_length_eq_zero h0)
          clear h0
          go_wp2_with fail
          go_roundw
          case rel => exact ⟨j + 1, by omega, by go_num, by rw [HCUT.out, HN.out]; have := ho.1; rw [HN.out] at this; exact this, hb⟩
          case measure => simp [intOf]; omega
        · obtain ⟨n, hn⟩ : ∃ n, L.length = n + 1 := ⟨L.length - 1, by omega⟩
          have hcap := ho.cap
          have hrow := row_cut (m := n) ho.1 (by omega) (by omega)
          rw [hn] at hcap ho
          have HN := Lib.hid hn
          have q2 : (0 : Int) < ((n + 1 : Nat) : Int) := by omega
          have q4 : (n : Int) ≤ (c' : Int) := by omega
          have hj1 : j + 1 ≤ k := by omega
          have hms : k - (j + 1) < k - j := by omega
          have q3 : wrap64 (n : Int) = (n : Int) := IntWalk.wrap64_in _ ⟨by omega, by omega⟩
          clear h0
          rw [hn]
          clear hn
          go_wp2_with fail
          clear q3
          go_roundw
          case rel => exact ⟨j + 1, by omega, by go_num, by rw [HCUT.out, HN.out, Nat.add_sub_cancel]; simpa [HN.out] using hrow, hb⟩
          case measure => simp [intOf]; omega
      · have t3 : (p.kd != 3) = true := by simpa using h3
        have HLV := Lib.hid (liveE_push (ps := ps) (k := j) (by rw [hg]; exact h3))
        have HS := Lib.hid (natL_snoc (liveE ps j) j)
        have hlen : (natL (liveE ps j)).length ≤ j := by rw [natL_len]; exact hjl
        clear hg hp h3 hjl
        go_wp2_with (at_builtin; refine wpList_push _ rfl _ _ 31 rfl w.heap.size 3 i0 (.int .i64 0) 1 8 Try.underlying31 hi0 hz0 hz1 hz2 rfl (by decide) _ _ _ rfl hown [.int .i64 ↑j] rfl (one_int _) rfl (by omega) (by decide) hb.size ?_; intro v1 w1 hown1 hb1 hs1 _ _)
        go_roundw
        case rel => exact ⟨j + 1, by omega, by go_num, push_rel (by rw [HLV.out]; exact HS.out) hown1, hb1 _ hb⟩
        case measure => simp [intOf]; omega
    · obtain rfl : j = k := by omega
      have hlen : (natL (liveE ps j)).length ≤ j := by rw [natL_len]; exact liveE_len j
      obtain ⟨A', c', rfl, ho⟩ := Own.of_row hown
      go_wp2_with fail
      refine (l1Own_any ho.rd (by omega) (Nat.le_refl _)).mono ?_
      rintro e w2 ⟨A2, c2, rfl, O2, B2⟩
      go_wp2_with fail
      go_ret
      exact ⟨A2, c2, rfl, O2.more hb.size (Nat.le_refl _), hb.trans (B2.mono hb.size)⟩

theorem shiftE_bound {ps : List GEditStep} {mark : Int} : ∀ l : List Nat, (∀ i ∈ l, -100 ≤ (gE ps i).sh ∧ (gE ps i).sh ≤ 100) → -100 * (l.length : Int) ≤ shiftE ps mark l ∧ shiftE ps mark l ≤ 100 * (l.length : Int) := by
  intro l h
  have hr : ∀ r : List Nat, (∀ i ∈ r, -100 ≤ (gE ps i).sh ∧ (gE ps i).sh ≤ 100) → -100 * (r.length : Int) ≤ shiftE ps mark r.reverse ∧ shiftE ps mark r.reverse ≤ 100 * (r.length : Int) := by
    intro r
    induction r with
    | nil => intro _; simp [shiftE]
    | cons i r ih =>
      intro hr
      rw [List.reverse_cons, shiftE_snoc, List.length_cons]
      have h1 := ih (fun x hx => hr x (List.mem_cons_of_mem _ hx))
      have h2 := hr i (List.mem_cons_self ..)
      split <;> omega
  have := hr l.reverse (fun i hi => h i (List.mem_reverse.1 hi))
  rw [List.reverse_reverse, List.length_reverse] at this
  exact this

/-- Element j of the live steps, and the step that it is. -/
theorem live_step {w : World} {lo hi lo' hi' k j : Nat} {A B : Option Addr} {ps : List GEditStep} (hr : RdE w lo hi A ps) (hk : k ≤ ps.length) (hv : RdI w lo' hi' B (natL (liveE ps k))) (hj : j < (natL (liveE ps k)).length) :
    ∃ b off b' off' i q, A = some ⟨b, off, none⟩ ∧ b < hi ∧ B = some ⟨b', off', none⟩ ∧ b' < hi' ∧ i < k ∧ (liveE ps k)[j]? = some i ∧ gE ps i = q ∧ w.cell? ⟨b', off' + j, none⟩ = some (.int .i64 (i : Int)) ∧
      w.cell? ⟨b, off + i * 4, none⟩ = some (.int .i64 q.kd) ∧ w.cell? ⟨b, off + i * 4 + 1, none⟩ = some (.int .i64 q.mr) ∧ w.cell? ⟨b, off + i * 4 + 2, none⟩ = some (.int .i64 q.sh) ∧ w.cell? ⟨b, off + i * 4 + 3, none⟩ = some (.string q.rs) := by
  obtain ⟨b', off', x, rfl, hx, hcell⟩ := hv.geti hj
  obtain ⟨_, _, e1, _, hb', _⟩ := hv.2 (by omega)
  injection e1 with e1
  obtain ⟨i, rfl, hi⟩ := natL_get hx
  have hik := (liveE_mem (List.mem_of_getElem? hi)).1
  obtain ⟨b, off, q, rfl, _, hbl, hq, c0, c1, c2, c3⟩ := hr.getEditStep (show i < ps.length by omega)
  exact ⟨b, off, b', off', i, q, rfl, hbl, rfl, by injection e1 with e2; rw [e2]; exact hb', hik, hi, gE_of hq, hcell, c0, c1, c2, c3⟩

set_option maxHeartbeats 2000000 in
set_option maxRecDepth 100000 in
theorem l14Shift_any {A : Option Addr} {c lo hi k : Nat} {ps : List GEditStep} {mark : Int} {w : World} (hr : RdE w lo hi A ps) (hh : hi ≤ w.heap.size) (hk : k ≤ ps.length) (hl : ps.length ≤ 4194304) (hs : ∀ i, i < k → -100 ≤ (gE ps i).sh ∧ (gE ps i).sh ≤ 100) :
    Calls Try.prog 52 #[.slice A k c, .int .i64 mark] w fun e w' => e = .returned (.int .i64 (shiftE ps mark (liveE ps k))) ∧ Below w.heap.size w w' := by
  have HSB := Lib.hid hs
  clear hs
  go_enter Try.func52, Try.ntmps52
  go_wp2_with fail
  refine (l14Live_any hr hh hk hl).mono ?_
  rintro e w1 ⟨A1, c1, rfl, O1, B1⟩
  have hll : (natL (liveE ps k)).length ≤ k := by rw [natL_len]; exact liveE_len k
  have s1 := B1.size
  go_wp2_with fail
  go_loopw [5, 7] (fun v i wr => ∃ j : Nat, j ≤ (natL (liveE ps k)).length ∧ i = .int .i64 j ∧ v = .int .i64 (shiftE ps mark ((liveE ps k).take j)) ∧ Below w.heap.size w wr ∧ Below w1.heap.size w1 wr) (fun _ i _ => (natL (liveE ps k)).length - (intOf i).toNat)
  case atStart => exact ⟨0, Nat.zero_le _, rfl, rfl, B1, Below.refl _ _⟩
  case round =>
    obtain ⟨j, hj, rfl, rfl, hb, hb1⟩ := hrel
    by_cases hlt : j < (natL (liveE ps k)).length
    · obtain ⟨b, off, b', off', i, q, rfl, hbl, rfl, hbl', hik, hi, hgi, hcell, c0, c1, c2, c3⟩ := live_step (hr.below hb hh) hk (O1.below hb1 (Nat.le_refl _)).rd hlt
      have hsum := shiftE_bound (ps := ps) (mark := mark) ((liveE ps k).take j) (fun x hx => HSB.out x (liveE_mem (List.mem_of_mem_take hx)).1)
      have hsq := HSB.out i hik
      have hlt2 : ((liveE ps k).take j).length ≤ j := List.length_take_le _ _
      rw [hgi] at hsq
      have hst := shiftE_snoc ps mark ((liveE ps k).take j) i
      rw [← take_nat hi, hgi] at hst
      have HST := Lib.hid hst
      generalize shiftE ps mark ((liveE ps k).take j) = S at *
      have qi : (i : Int) < (ps.length : Int) := by omega
      have qik : (i : Int) < (k : Int) := by omega
      have qj : (j : Int) < ((natL (liveE ps k)).length : Int) := by omega
      have hbn := hb.trans ((below_alloc1 wr (.cells #[.int .i64 q.kd, .int .i64 q.mr, .int .i64 q.sh, .string q.rs] 42)).mono hb.size)
      have hbn1 := hb1.trans ((below_alloc1 wr (.cells #[.int .i64 q.kd, .int .i64 q.mr, .int .i64 q.sh, .string q.rs] 42)).mono hb1.size)
      clear hgi hi hst
      by_cases hm : q.mr = mark
      · have m1 : (q.mr == mark) = true := by simpa using hm
        by_cases h2 : q.kd = 2
        · have t2 : (q.kd == 2) = true := by simpa using h2
          have HE := Lib.hid (HST.out.trans (if_pos ⟨hm, h2⟩))
          clear hm h2
          go_wp2_with fail
          go_roundw
          case rel => exact ⟨j + 1, by omega, by go_num, by rw [HE.out], hbn, hbn1⟩
          case measure => simp [intOf]; omega
        · have t2 : (q.kd == 2) = false := by simpa using h2
          have HE := Lib.hid (HST.out.trans (if_neg (fun h => h2 h.2)))
          clear hm h2
          go_wp2_with fail
          go_roundw
          case rel => exact ⟨j + 1, by omega, by go_num, by rw [HE.out], hbn, hbn1⟩
          case measure => simp [intOf]; omega
      · have m1 : (q.mr == mark) = false := by simpa using hm
        have HE := Lib.hid (HST.out.trans (if_neg (fun h => hm h.1)))
        clear hm
        go_wp2_with fail
        go_roundw
        case rel => exact ⟨j + 1, by omega, by go_num, by rw [HE.out], hbn, hbn1⟩
        case measure => simp [intOf]; omega
    · have e : (liveE ps k).take j = liveE ps k := List.take_of_length_le (by rw [natL_len] at hlt; omega)
      rw [e]
      go_wp2_with fail
      go_ret
      exact ⟨rfl, hb⟩

set_option maxHeartbeats 2000000 in
set_option maxRecDepth 100000 in
theorem l14Accepted_any {A : Option Addr} {c lo hi k : Nat} {ps : List GEditStep} {mark : Int} {w : World} (hr : RdE w lo hi A ps) (hh : hi ≤ w.heap.size) (hk : k ≤ ps.length) (hl : ps.length ≤ 4194304) :
    Calls Try.prog 49 #[.slice A k c, .int .i64 mark] w fun e w' => e = .returned (.bool (accE ps mark (liveE ps k))) ∧ Below w.heap.size w w' := by
  go_enter Try.func49, Try.ntmps49
  go_wp2_with fail
  refine (l14Live_any hr hh hk hl).mono ?_
  rintro e w1 ⟨A1, c1, rfl, O1, B1⟩
  have hll : (natL (liveE ps k)).length ≤ k := by rw [natL_len]; exact liveE_len k
  have s1 := B1.size
  go_wp2_with fail
  go_loopw [5, 7] (fun v i wr => ∃ j : Nat, j ≤ (natL (liveE ps k)).length ∧ i = .int .i64 j ∧ v = .bool (accE ps mark ((liveE ps k).take j)) ∧ Below w.heap.size w wr ∧ Below w1.heap.size w1 wr) (fun _ i _ => (natL (liveE ps k)).length - (intOf i).toNat)
  case atStart => exact ⟨0, Nat.zero_le _, rfl, rfl, B1, Below.refl _ _⟩
  case round =>
    obtain ⟨j, hj, rfl, rfl, hb, hb1⟩ := hrel
    by_cases hlt : j < (natL (liveE ps k)).length
    · obtain ⟨b, off, b', off', i, q, rfl, hbl, rfl, hbl', hik, hi, hgi, hcell, c0, c1, c2, c3⟩ := live_step (hr.below hb hh) hk (O1.below hb1 (Nat.le_refl _)).rd hlt
      have hst := accE_snoc ps mark ((liveE ps k).take j) i
      rw [← take_nat hi, hgi] at hst
      have HST := Lib.hid hst
      generalize accE ps mark ((liveE ps k).take j) = S at *
      have qi : (i : Int) < (ps.length : Int) := by omega
      have qik : (i : Int) < (k : Int) := by omega
      have qj : (j : Int) < ((natL (liveE ps k)).length : Int) := by omega
      have hbn := hb.trans ((below_alloc1 wr (.cells #[.int .i64 q.kd, .int .i64 q.mr, .int .i64 q.sh, .string q.rs] 42)).mono hb.size)
      have hbn1 := hb1.trans ((below_alloc1 wr (.cells #[.int .i64 q.kd, .int .i64 q.mr, .int .i64 q.sh, .string q.rs] 42)).mono hb1.size)
      clear hgi hi hst
      by_cases hm : q.mr = mark
      · have m1 : (q.mr == mark) = true := by simpa using hm
        by_cases h2 : q.kd = 2
        · have t2 : (q.kd != 2) = false := by simpa using h2
          have HE := Lib.hid (HST.out.trans (if_neg (fun h => h.2 h2)))
          clear hm h2
          go_wp2_with fail
          go_roundw
          case rel => exact ⟨j + 1, by omega, by go_num, by rw [HE.out], hbn, hbn1⟩
          case measure => simp [intOf]; omega
        · have t2 : (q.kd != 2) = true := by simpa using h2
          have HE := Lib.hid (HST.out.trans (if_pos ⟨hm, h2⟩))
          clear hm h2
          go_wp2_with fail
          go_roundw
          case rel => exact ⟨j + 1, by omega, by go_num, by rw [HE.out]; first | rfl | simp, hbn, hbn1⟩
          case measure => simp [intOf]; omega
      · have m1 : (q.mr == mark) = false := by simpa using hm
        have HE := Lib.hid (HST.out.trans (if_neg (fun h => hm h.1)))
        clear hm
        go_wp2_with fail
        go_roundw
        case rel => exact ⟨j + 1, by omega, by go_num, by rw [HE.out], hbn, hbn1⟩
        case measure => simp [intOf]; omega
    · have e : (liveE ps k).take j = liveE ps k := List.take_of_length_le (by rw [natL_len] at hlt; omega)
      rw [e]
      go_wp2_with fail
      go_ret
      exact ⟨rfl, hb⟩

end Go.Proofs.Ytdcbgahfbcemnaa
