/-
  This file proves contracts of the laws' own functions on lists of bools, of texts and of edit steps: comparing them, marking them, telling whether they hold the marks.
  Conditions: each contract's own hypotheses (that a slice reads as a list, that it is not too long).
-/
import Derived.Test.YtdcbgahfbcemnaaEditM
import Derived.Test.YtdcbgahfbcemnaaDraw
namespace Go.Proofs.Ytdcbgahfbcemnaa
open Go.RowKit
set_option linter.unusedSimpArgs false
set_option linter.unusedVariables false

abbrev blsV (bs : List Bool) : List Value := bs.map Value.bool
abbrev strV (ss : List ByteArray) : List Value := ss.map Value.string
/-- Marks k, k + 1, .. of a kind. -/
def mks (F : Int → Value) (k : Int) : Nat → List Value
  | 0 => []
  | n + 1 => mks F k n ++ [F (k + n)]
theorem mks_length (F : Int → Value) (k : Int) (n : Nat) : (mks F k n).length = n := by
  induction n with
  | zero => rfl
  | succ n ih => simp [mks, ih]
theorem mks_get (F : Int → Value) (k : Int) (n j : Nat) (hj : j < n) : (mks F k n)[j]? = some (F (k + j)) := by
  induction n with
  | zero => omega
  | succ n ih =>
    rw [mks]
    rcases Nat.lt_or_ge j n with h | h
    · rw [List.getElem?_append_left (by rw [mks_length]; exact h)]
      exact ih h
    · have : j = n := by omega
      subst this
      rw [List.getElem?_append_right (by rw [mks_length]; exact Nat.le_refl _), mks_length]
      simp
theorem mks_step {F : Int → Value} {cs : List Value} {k : Int} {j : Nat} (hj : j < cs.length) :
    (mks F k j ++ cs.drop j).set j (F (k + j)) = mks F k (j + 1) ++ cs.drop (j + 1) := by
  have hd : cs.drop j = cs[j] :: cs.drop (j + 1) := List.drop_eq_getElem_cons hj
  rw [hd, List.set_append_right _ _ (by rw [mks_length]; exact Nat.le_refl _), mks_length, Nat.sub_self, List.set_cons_zero]
  simp only [mks, List.append_assoc, List.cons_append, List.nil_append]
/-- Element j of a row of one cell each. -/
theorem Rd.getV {w : World} {lo hi n k : Nat} {A : Option Addr} {cs : List Value} {u : Value} (h : Rd w lo hi 1 A n cs) (hk : k < n) (hu : cs[k]? = some u) :
    ∃ b off, A = some ⟨b, off, none⟩ ∧ b < hi ∧ w.cell? ⟨b, off + k, none⟩ = some u := by
  obtain ⟨b, off, e, _, h2, hc⟩ := h.2 (by omega)
  exact ⟨b, off, e, h2, hc k u hu⟩
def bmark (x : Int) : Value := .bool (x % 3 == 0)
def smark (x : Int) : Value := .string (markT x)

set_option maxHeartbeats 1000000 in
theorem eqBoolS_same (A B : Option Addr) (c d lo hi lo' hi' : Nat) (xs : List Bool) (w : World) (ha : Rd w lo hi 1 A xs.length (blsV xs)) (hb : Rd w lo' hi' 1 B xs.length (blsV xs)) (hl : xs.length ≤ 4611686018427387904) :
    Calls Try.prog 41 #[.slice A xs.length c, .slice B xs.length d] w fun e w' => e = .returned (.bool true) ∧ ∃ n, w.drewN n = w' := by
  go_enter Try.func41, Try.ntmps41
  go_wp2_with fail
  go_loopw [5] (fun i wr => ∃ k n : Nat, k ≤ xs.length ∧ i = .int .i64 k ∧ w.drewN n = wr) (fun i _ => xs.length - (intOf i).toNat)
  case atStart => exact ⟨0, 0, Nat.zero_le _, rfl, rfl⟩
  case round =>
    obtain ⟨k, n, hk, rfl, rfl⟩ := hrel
    by_cases hlt : k < xs.length
    · obtain ⟨x, hx⟩ : ∃ x, xs[k]? = some x := ⟨_, List.getElem?_eq_getElem hlt⟩
      obtain ⟨b, off, rfl, _, hcell⟩ := ha.getV hlt (u := .bool x) (by simp [hx])
      obtain ⟨b', off', rfl, _, hcell'⟩ := hb.getV hlt (u := .bool x) (by simp [hx])
      have q1 : (k : Int) < (xs.length : Int) := by omega
      clear hx
      go_wp2_with fail
      go_quiet (fail)
      go_wp2_with fail
      go_roundw
      case rel => exact ⟨k + 1, _, by omega, by go_num, rfl⟩
      case measure => simp [intOf]; omega
    · go_wp2_with fail
      go_ret
      exact ⟨rfl, n, rfl⟩

set_option maxHeartbeats 1000000 in
theorem eqStringS_same (A B : Option Addr) (c d lo hi lo' hi' : Nat) (xs : List ByteArray) (w : World) (ha : Rd w lo hi 1 A xs.length (strV xs)) (hb : Rd w lo' hi' 1 B xs.length (strV xs)) (hl : xs.length ≤ 4611686018427387904) :
    Calls Try.prog 36 #[.slice A xs.length c, .slice B xs.length d] w fun e w' => e = .returned (.bool true) ∧ ∃ n, w.drewN n = w' := by
  go_enter Try.func36, Try.ntmps36
  go_wp2_with fail
  go_loopw [5] (fun i wr => ∃ k n : Nat, k ≤ xs.length ∧ i = .int .i64 k ∧ w.drewN n = wr) (fun i _ => xs.length - (intOf i).toNat)
  case atStart => exact ⟨0, 0, Nat.zero_le _, rfl, rfl⟩
  case round =>
    obtain ⟨k, n, hk, rfl, rfl⟩ := hrel
    by_cases hlt : k < xs.length
    · obtain ⟨x, hx⟩ : ∃ x, xs[k]? = some x := ⟨_, List.getElem?_eq_getElem hlt⟩
      obtain ⟨b, off, rfl, _, hcell⟩ := ha.getV hlt (u := .string x) (by simp [hx])
      obtain ⟨b', off', rfl, _, hcell'⟩ := hb.getV hlt (u := .string x) (by simp [hx])
      have q1 : (k : Int) < (xs.length : Int) := by omega
      clear hx
      go_wp2_with fail
      go_quiet (fail)
      go_wp2_with fail
      go_roundw
      case rel => exact ⟨k + 1, _, by omega, by go_num, rfl⟩
      case measure => simp [intOf]; omega
    · go_wp2_with fail
      go_ret
      exact ⟨rfl, n, rfl⟩

set_option maxHeartbeats 1000000 in
theorem markBoolS_any (A : Option Addr) (c lo hi : Nat) (xs : List Bool) (k : Int) (w : World) (ho : Own w 4 lo hi 1 A xs.length c (blsV xs)) (h0 : 0 ≤ k) (h1 : k ≤ 1000000000000) (hl : xs.length ≤ 1099511627776) :
    Calls Try.prog 42 #[.slice A xs.length c, .int .i64 k] w fun e w' => e = .returned (.int .i64 (k + xs.length)) ∧ Own w' 4 lo hi 1 A xs.length c (mks bmark k xs.length) ∧ Only lo hi w w' ∧ True := by
  have hcl : (blsV xs).length = xs.length := by simp [blsV]
  go_enter Try.func42, Try.ntmps42
  go_wp2_with fail
  go_loopw [1, 5] (fun t i wr => ∃ j : Nat, j ≤ xs.length ∧ i = .int .i64 j ∧ t = .int .i64 (k + j) ∧ Own wr 4 lo hi 1 A xs.length c (mks bmark k j ++ (blsV xs).drop j) ∧ Only lo hi w wr) (fun _ i _ => xs.length - (intOf i).toNat)
  case atStart => exact ⟨0, Nat.zero_le _, rfl, by simp, by simpa [mks] using ho, Only.refl _ _ _⟩
  case round =>
    obtain ⟨j, hj, rfl, rfl, hown, honly⟩ := hrel
    by_cases hlt : j < xs.length
    · obtain ⟨g, rfl, hg1, hg2⟩ := hown.length_pos (by omega)
      have hfr : wr.frozen? ⟨g, j, none⟩ = false := hown.frozen j
      obtain ⟨u, hu⟩ : ∃ u, wr.cell? ⟨g, j, none⟩ = some u := by
        have e1 := hown.1.cellAt j (by omega)
        have e2 : j < (mks bmark k j ++ (blsV xs).drop j).length := by rw [hown.length]; omega
        exact ⟨_, e1.trans (List.getElem?_eq_getElem e2)⟩
      have hown' := hown.store j (bmark (k + j))
      rw [mks_step (by omega)] at hown'
      have HO := Lib.hid hcl
      clear hcl
      go_wp2_with fail
      go_roundw
      case rel => exact ⟨j + 1, by omega, by go_num, by go_num, hown', honly.setCell hg1 hg2 _⟩
      case measure => simp [intOf]; omega
    · obtain rfl : j = xs.length := by omega
      rw [List.drop_of_length_le (by omega), List.append_nil] at hown
      clear hcl
      go_wp2_with fail
      go_ret
      exact ⟨rfl, hown, honly, trivial⟩

set_option maxHeartbeats 1000000 in
theorem heldBoolS_any (A : Option Addr) (c lo hi n : Nat) (k : Int) (w : World) (hr : Rd w lo hi 1 A n (mks bmark k n)) (h0 : 0 ≤ k) (h1 : k ≤ 1000000000000) (hl : n ≤ 1099511627776) :
    Calls Try.prog 43 #[.slice A n c, .int .i64 k] w fun e w' => e = .returned (.int .i64 (k + n)) ∧ w = w' := by
  go_enter Try.func43, Try.ntmps43
  go_wp2_with fail
  go_loop [1, 5] (fun t i => ∃ j : Nat, j ≤ n ∧ i = .int .i64 j ∧ t = .int .i64 (k + j)) (fun _ i => n - (intOf i).toNat)
  case atStart => exact ⟨0, Nat.zero_le _, rfl, by simp⟩
  case round =>
    obtain ⟨j, hj, rfl, rfl⟩ := hrel
    by_cases hlt : j < n
    · obtain ⟨b, off, rfl, _, hcell⟩ := hr.getV hlt (mks_get bmark k n j hlt)
      unfold bmark at hcell
      go_wp2_with fail
      go_round
      case rel => exact ⟨j + 1, by omega, by go_num, by go_num⟩
      case measure => simp [intOf]; omega
    · obtain rfl : j = n := by omega
      go_wp2_with fail
      go_ret
      exact ⟨rfl, rfl⟩

set_option maxHeartbeats 1000000 in
theorem markStringS_any (A : Option Addr) (c lo hi : Nat) (xs : List ByteArray) (k : Int) (w : World) (ho : Own w 9 lo hi 1 A xs.length c (strV xs)) (h0 : 0 ≤ k) (h1 : k ≤ 1000000000000) (hl : xs.length ≤ 2000000) (hh : hi ≤ w.heap.size) :
    Calls Try.prog 37 #[.slice A xs.length c, .int .i64 k] w fun e w' => e = .returned (.int .i64 (k + xs.length)) ∧ Own w' 9 lo hi 1 A xs.length c (mks smark k xs.length) ∧ Only lo hi w w' ∧ True := by
  have hcl : (strV xs).length = xs.length := by simp [strV]
  go_enter Try.func37, Try.ntmps37
  go_wp2_with fail
  go_loopw [1, 5] (fun t i wr => ∃ j : Nat, j ≤ xs.length ∧ i = .int .i64 j ∧ t = .int .i64 (k + j) ∧ Own wr 9 lo hi 1 A xs.length c (mks smark k j ++ (strV xs).drop j) ∧ Only lo hi w wr) (fun _ i _ => xs.length - (intOf i).toNat)
  case atStart => exact ⟨0, Nat.zero_le _, rfl, by simp, by simpa [mks] using ho, Only.refl _ _ _⟩
  case round =>
    obtain ⟨j, hj, rfl, rfl, hown, honly⟩ := hrel
    have hsz := honly.size
    by_cases hlt : j < xs.length
    · have HO := Lib.hid hcl
      clear hcl
      go_wp2_with fail
      refine (markText_any (k + j) _ (by omega)).mono ?_
      rintro e w2 ⟨rfl, B2⟩
      have hown2 := hown.below B2 (by omega)
      obtain ⟨g, rfl, hg1, hg2⟩ := hown2.length_pos (by omega)
      have hfr : w2.frozen? ⟨g, j, none⟩ = false := hown2.frozen j
      obtain ⟨u, hu⟩ : ∃ u, w2.cell? ⟨g, j, none⟩ = some u := by
        have e1 := hown2.1.cellAt j (by omega)
        have e2 : j < (mks smark k j ++ (strV xs).drop j).length := by rw [hown2.length]; omega
        exact ⟨_, e1.trans (List.getElem?_eq_getElem e2)⟩
      have hown' := hown2.store j (smark (k + j))
      rw [mks_step (by rw [HO.out]; exact hlt)] at hown'
      have honly2 := honly.trans (Only.of_below (lo := lo) (hi := hi) B2)
      clear hown hown2 B2 honly
      go_wp2_with fail
      go_roundw
      case rel => exact ⟨j + 1, by omega, by go_num, by go_num, hown', honly2.setCell hg1 hg2 _⟩
      case measure => simp [intOf]; omega
    · obtain rfl : j = xs.length := by omega
      rw [List.drop_of_length_le (by omega), List.append_nil] at hown
      clear hcl
      go_wp2_with fail
      go_ret
      exact ⟨rfl, hown, honly, trivial⟩

set_option maxHeartbeats 2000000 in
set_option maxRecDepth 100000 in
theorem heldStringS_any (A : Option Addr) (c lo hi n : Nat) (k : Int) (w : World) (hr : Rd w lo hi 1 A n (mks smark k n)) (h0 : 0 ≤ k) (h1 : k ≤ 1000000000000) (hl : n ≤ 2000000) (hh : hi ≤ w.heap.size) :
    Calls Try.prog 38 #[.slice A n c, .int .i64 k] w fun e w' => e = .returned (.int .i64 (k + n)) ∧ Below w.heap.size w w' := by
  go_enter Try.func38, Try.ntmps38
  go_wp2_with fail
  go_loopw [1, 5] (fun t i wr => ∃ j : Nat, j ≤ n ∧ i = .int .i64 j ∧ t = .int .i64 (k + j) ∧ Below w.heap.size w wr) (fun _ i _ => n - (intOf i).toNat)
  case atStart => exact ⟨0, Nat.zero_le _, rfl, by simp, Below.refl _ _⟩
  case round =>
    obtain ⟨j, hj, rfl, rfl, hb⟩ := hrel
    by_cases hlt : j < n
    · obtain ⟨b, off, rfl, hbl, hcell⟩ := (hr.below hb hh).getV hlt (mks_get smark k n j hlt)
      unfold smark at hcell
      have q1 : (j : Int) < (n : Int) := by omega
      obtain ⟨N, hNN⟩ : ∃ N, N = wr.heap.size := ⟨_, rfl⟩
      have hN : N ≤ wr.heap.size := by omega
      have hNw : w.heap.size ≤ N := by rw [hNN]; exact hb.size
      have D0 : ∀ s : Bw N wr, s.v.cell? ⟨b, off + j, none⟩ = some (.string (markT (k + j))) := fun s => s.cell (show b < N from by have := hb.size; omega) hcell
      have HMT := Lib.hid (fun (W : World) => markText_any (k + j) W (by omega))
      clear hcell
      go_wp2_with fail
      refine wp_region_bw (Below.refl N _) (by kernel_rfl) (by kernel_rfl) ?_
      repeat (go_big_quiet_step ((go_at_call 51; exact bw_left hN (HMT.out _))))
      refine wpQuiet_nil ?_
      rintro _ ⟨⟨wz, hwz⟩, rfl⟩
      have hbz := hb.trans (hwz.mono hNw)
      go_wp2_with fail
      go_roundw
      case rel => exact ⟨j + 1, by omega, by go_num, by go_num, hbz⟩
      case measure => simp [intOf]; omega
    · obtain rfl : j = n := by omega
      go_wp2_with fail
      go_ret
      exact ⟨rfl, hb⟩

def mks4 (k : Int) : Nat → List Value
  | 0 => []
  | n + 1 => mks4 k n ++ [.int .i64 (k + (n : Int) * 4), .int .i64 (k + (n : Int) * 4 + 1), .int .i64 (k + (n : Int) * 4 + 1 + 1), .string (markT (k + (n : Int) * 4 + 1 + 1 + 1))]
theorem mks4_length (k : Int) (n : Nat) : (mks4 k n).length = n * 4 := by
  induction n with
  | zero => rfl
  | succ n ih => simp [mks4, ih]; omega
theorem mks4_get (k : Int) (n j i : Nat) (hj : j < n) (hi : i < 4) : (mks4 k n)[j * 4 + i]? = ([.int .i64 (k + (j : Int) * 4), .int .i64 (k + (j : Int) * 4 + 1), .int .i64 (k + (j : Int) * 4 + 1 + 1), .string (markT (k + (j : Int) * 4 + 1 + 1 + 1))] : List Value)[i]? := by
  induction n with
  | zero => omega
  | succ n ih =>
    rw [mks4]
    rcases Nat.lt_or_ge j n with h | h
    · rw [List.getElem?_append_left (by rw [mks4_length]; omega)]
      exact ih h
    · have : j = n := by omega
      subst this
      rw [List.getElem?_append_right (by rw [mks4_length]; omega), mks4_length, Nat.add_sub_cancel_left]
theorem mark_4 {zs : List Value} {k : Int} {j n : Nat} (hz : zs.length = (n - j) * 4) (hj : j < n) :
    ∃ zs' : List Value, ((((mks4 k j ++ zs).set (j * 4) (.int .i64 (k + (j : Int) * 4))).set (j * 4 + 1) (.int .i64 (k + (j : Int) * 4 + 1))).set (j * 4 + 2) (.int .i64 (k + (j : Int) * 4 + 1 + 1))).set (j * 4 + 3) (.string (markT (k + (j : Int) * 4 + 1 + 1 + 1))) = mks4 k (j + 1) ++ zs' ∧ zs'.length = (n - (j + 1)) * 4 := by
  have hX : (mks4 k j).length = j * 4 := mks4_length k j
  obtain ⟨i, hi⟩ : ∃ i, n - j = i + 1 := ⟨n - j - 1, by omega⟩
  rw [hi] at hz
  match zs, hz with
  | z0 :: z1 :: z2 :: z3 :: R, hz =>
    refine ⟨R, ?_, by simp at hz; rw [show n - (j + 1) = i by omega]; omega⟩
    rw [setEditStep hX, mks4]
  | [], hz | [_], hz | [_, _], hz | [_, _, _], hz => exact absurd hz (by simp only [List.length_cons, List.length_nil]; omega)

set_option maxHeartbeats 4000000 in
set_option maxRecDepth 100000 in
theorem markEditStepS_any (A : Option Addr) (c lo hi : Nat) (ps : List GEditStep) (k : Int) (w : World) (ho : Own w 42 lo hi 4 A ps.length c (cellsEditStep ps)) (h0 : 0 ≤ k) (h1 : k ≤ 1000000000000) (hl : ps.length ≤ 2000000) (hh : hi ≤ w.heap.size) :
    Calls Try.prog 22 #[.slice A ps.length c, .int .i64 k] w fun e w' => e = .returned (.int .i64 (k + (ps.length : Int) * 4)) ∧ Own w' 42 lo hi 4 A ps.length c (mks4 k ps.length) ∧ Only lo hi w w' ∧ True := by
  go_enter Try.func22, Try.ntmps22
  go_wp2_with fail
  go_loopw [1, 5] (fun t i wr => ∃ (j : Nat) (zs : List Value), j ≤ ps.length ∧ i = .int .i64 j ∧ t = .int .i64 (k + (j : Int) * 4) ∧ zs.length = (ps.length - j) * 4 ∧ Own wr 42 lo hi 4 A ps.length c (mks4 k j ++ zs) ∧ Only lo hi w wr) (fun _ i _ => ps.length - (intOf i).toNat)
  case atStart => exact ⟨0, cellsEditStep ps, Nat.zero_le _, rfl, by simp, by rw [cellsEditStep_length]; rfl, by simpa [mks4] using ho, Only.refl _ _ _⟩
  case round => as_aux_lemma =>
    obtain ⟨j, zs, hj, rfl, rfl, hz, hown, honly⟩ := hrel
    have HL := Lib.hid hz
    clear hz
    have hsz := honly.size
    by_cases hlt : j < ps.length
    · obtain ⟨g, rfl, hg1, hg2⟩ := hown.length_pos (by omega)
      obtain ⟨u0, hu0⟩ : ∃ u, wr.cell? ⟨g, j * 4, none⟩ = some u := by
        have e1 := hown.1.cellAt (j * 4) (by omega)
        have e2 : j * 4 < (mks4 k j ++ zs).length := by rw [hown.length]; omega
        exact ⟨_, e1.trans (List.getElem?_eq_getElem e2)⟩
      have hf0 : wr.frozen? ⟨g, j * 4, none⟩ = false := hown.frozen _
      obtain ⟨u1, hu1⟩ : ∃ u, wr.cell? ⟨g, j * 4 + 1, none⟩ = some u := by
        have e1 := hown.1.cellAt (j * 4 + 1) (by omega)
        have e2 : j * 4 + 1 < (mks4 k j ++ zs).length := by rw [hown.length]; omega
        exact ⟨_, e1.trans (List.getElem?_eq_getElem e2)⟩
      have hf1 : wr.frozen? ⟨g, j * 4 + 1, none⟩ = false := hown.frozen _
      obtain ⟨u2, hu2⟩ : ∃ u, wr.cell? ⟨g, j * 4 + 2, none⟩ = some u := by
        have e1 := hown.1.cellAt (j * 4 + 2) (by omega)
        have e2 : j * 4 + 2 < (mks4 k j ++ zs).length := by rw [hown.length]; omega
        exact ⟨_, e1.trans (List.getElem?_eq_getElem e2)⟩
      have hf2 : wr.frozen? ⟨g, j * 4 + 2, none⟩ = false := hown.frozen _
      have y1 : IntKind.i64.wrap (k + (j : Int) * 4 + 1) = k + (j : Int) * 4 + 1 := wr64 (by omega) (by omega)
      have y2 : IntKind.i64.wrap (k + (j : Int) * 4 + 1 + 1) = k + (j : Int) * 4 + 1 + 1 := wr64 (by omega) (by omega)
      have y3 : IntKind.i64.wrap (k + (j : Int) * 4 + 1 + 1 + 1) = k + (j : Int) * 4 + 1 + 1 + 1 := wr64 (by omega) (by omega)
      have w4 : IntKind.i64.wrap (k + (j : Int) * 4 + 1 + 1 + 1 + 1) = k + (j : Int) * 4 + 1 + 1 + 1 + 1 := wr64 (by omega) (by omega)
      have hown3 := ((hown.store (j * 4) (.int .i64 (k + (j : Int) * 4))).store (j * 4 + 1) (.int .i64 (k + (j : Int) * 4 + 1))).store (j * 4 + 2) (.int .i64 (k + (j : Int) * 4 + 1 + 1))
      have honly3 := ((honly.setCell hg1 hg2 (p := ⟨g, j * 4, none⟩) (.int .i64 (k + (j : Int) * 4))).setCell hg1 hg2 (p := ⟨g, j * 4 + 1, none⟩) (.int .i64 (k + (j : Int) * 4 + 1))).setCell hg1 hg2 (p := ⟨g, j * 4 + 2, none⟩) (.int .i64 (k + (j : Int) * 4 + 1 + 1))
      have hsz3 : hi ≤ (((wr.setCell ⟨g, j * 4, none⟩ (.int .i64 (k + (j : Int) * 4))).setCell ⟨g, j * 4 + 1, none⟩ (.int .i64 (k + (j : Int) * 4 + 1))).setCell ⟨g, j * 4 + 2, none⟩ (.int .i64 (k + (j : Int) * 4 + 1 + 1))).heap.size := by simp [World.setCell]; omega
      have HW4 := Lib.hid w4
      clear w4
      have HMT := Lib.hid (fun (W : World) => markText_any (k + (j : Int) * 4 + 1 + 1 + 1) W (by omega))
      obtain ⟨zs', hs, hz'⟩ := mark_4 (k := k) HL.out hlt
      have HS := Lib.hid hs
      have HZ' := Lib.hid hz'
      clear hs hz' hown honly
      go_wp2_with fail
      refine (HMT.out _).mono ?_
      rintro e w2 ⟨rfl, B2⟩
      have hown4 := hown3.below B2 hsz3
      have honly4 := honly3.trans (Only.of_below (lo := lo) (hi := hi) B2)
      obtain ⟨u3, hu3⟩ : ∃ u, w2.cell? ⟨g, j * 4 + 3, none⟩ = some u := by
        have e1 := hown4.1.cellAt (j * 4 + 3) (by omega)
        have e2 := hown4.length
        exact ⟨_, e1.trans (List.getElem?_eq_getElem (by rw [e2]; omega))⟩
      have hf3 : w2.frozen? ⟨g, j * 4 + 3, none⟩ = false := hown4.frozen _
      have hown5 := hown4.store (j * 4 + 3) (.string (markT (k + (j : Int) * 4 + 1 + 1 + 1)))
      rw [HS.out] at hown5
      have w4 := HW4.out
      clear hown3 honly3 hown4 B2 hu0 hu1 hu2 hf0 hf1 hf2 hsz3
      go_wp2_with fail
      clear y1 y2 y3 w4
      go_roundw
      case rel => exact ⟨j + 1, zs', by omega, by go_num, by congr 1; omega, HZ'.out, hown5, honly4.setCell hg1 hg2 _⟩
      case measure => simp [intOf]; omega
    · obtain rfl : j = ps.length := by omega
      go_wp2_with fail
      go_ret
      have hz0 : zs = [] := List.eq_nil_of_length_eq_zero (by rw [HL.out]; omega)
      rw [hz0, List.append_nil] at hown
      exact ⟨rfl, hown, honly, trivial⟩

set_option maxHeartbeats 4000000 in
set_option maxRecDepth 100000 in
theorem heldEditStepS_any (A : Option Addr) (c lo hi n : Nat) (k : Int) (w : World) (hr : Rd w lo hi 4 A n (mks4 k n)) (h0 : 0 ≤ k) (h1 : k ≤ 1000000000000) (hl : n ≤ 2000000) (hh : hi ≤ w.heap.size) :
    Calls Try.prog 29 #[.slice A n c, .int .i64 k] w fun e w' => e = .returned (.int .i64 (k + (n : Int) * 4)) ∧ Below w.heap.size w w' := by
  go_enter Try.func29, Try.ntmps29
  go_wp2_with fail
  go_loopw [1, 5] (fun t i wr => ∃ j : Nat, j ≤ n ∧ i = .int .i64 j ∧ t = .int .i64 (k + (j : Int) * 4) ∧ Below w.heap.size w wr) (fun _ i _ => n - (intOf i).toNat)
  case atStart => exact ⟨0, Nat.zero_le _, rfl, by simp, Below.refl _ _⟩
  case round => as_aux_lemma =>
    obtain ⟨j, hj, rfl, rfl, hb⟩ := hrel
    by_cases hlt : j < n
    · obtain ⟨b, off, rfl, _, hbl, hc⟩ := (hr.below hb hh).2 (by omega)
      have hc4 : ∀ (i : Nat) (u : Value), (mks4 k n)[j * 4 + i]? = some u → wr.cell? ⟨b, off + (j * 4 + i), none⟩ = some u := fun i u hu => hc _ _ hu
      have c0 := hc4 0 (.int .i64 (k + (j : Int) * 4)) (by rw [show j * 4 + 0 = j * 4 + 0 from rfl]; exact (mks4_get k n j 0 hlt (by omega)).trans rfl)
      have c1 := hc4 1 (.int .i64 (k + (j : Int) * 4 + 1)) (by rw [show j * 4 + 1 = j * 4 + 1 from rfl]; exact (mks4_get k n j 1 hlt (by omega)).trans rfl)
      have c2 := hc4 2 (.int .i64 (k + (j : Int) * 4 + 1 + 1)) (by rw [show j * 4 + 2 = j * 4 + 2 from rfl]; exact (mks4_get k n j 2 hlt (by omega)).trans rfl)
      have c3 := hc4 3 (.string (markT (k + (j : Int) * 4 + 1 + 1 + 1))) (by rw [show j * 4 + 3 = j * 4 + 3 from rfl]; exact (mks4_get k n j 3 hlt (by omega)).trans rfl)
      rw [show off + (j * 4 + 0) = off + j * 4 from by omega] at c0
      rw [show off + (j * 4 + 1) = off + j * 4 + 1 from by omega] at c1
      rw [show off + (j * 4 + 2) = off + j * 4 + 2 from by omega] at c2
      rw [show off + (j * 4 + 3) = off + j * 4 + 3 from by omega] at c3
      clear hc hc4
      have q1 : (j : Int) < (n : Int) := by omega
      obtain ⟨N, hNN⟩ : ∃ N, N = wr.heap.size := ⟨_, rfl⟩
      have hN : N ≤ wr.heap.size := by omega
      have hNw : w.heap.size ≤ N := by rw [hNN]; exact hb.size
      have D0 : ∀ s : Bw N wr, s.v.cell? ⟨b, off + j * 4 + 3, none⟩ = some (.string (markT (k + (j : Int) * 4 + 1 + 1 + 1))) := fun s => s.cell (show b < N from by have := hb.size; omega) c3
      have HMT := Lib.hid (fun (W : World) => markText_any (k + (j : Int) * 4 + 1 + 1 + 1) W (by omega))
      have y1 : IntKind.i64.wrap (k + (j : Int) * 4 + 1) = k + (j : Int) * 4 + 1 := wr64 (by omega) (by omega)
      have y2 : IntKind.i64.wrap (k + (j : Int) * 4 + 1 + 1) = k + (j : Int) * 4 + 1 + 1 := wr64 (by omega) (by omega)
      have y3 : IntKind.i64.wrap (k + (j : Int) * 4 + 1 + 1 + 1) = k + (j : Int) * 4 + 1 + 1 + 1 := wr64 (by omega) (by omega)
      have y4 : IntKind.i64.wrap (k + (j : Int) * 4 + 1 + 1 + 1 + 1) = k + (j : Int) * 4 + 1 + 1 + 1 + 1 := wr64 (by omega) (by omega)
      clear c3
      go_wp2_with fail
      refine wp_region_bw (Below.refl N _) (by kernel_rfl) (by kernel_rfl) ?_
      repeat (go_big_quiet_step ((go_at_call 51; exact bw_left hN (HMT.out _))))
      refine wpQuiet_nil ?_
      rintro _ ⟨⟨wz, hwz⟩, rfl⟩
      have hbz := hb.trans (hwz.mono hNw)
      go_wp2_with fail
      clear y1 y2 y3 y4
      go_roundw
      case rel => exact ⟨j + 1, by omega, by go_num, by congr 1; omega, hbz⟩
      case measure => simp [intOf]; omega
    · obtain rfl : j = n := by omega
      go_wp2_with fail
      go_ret
      exact ⟨rfl, hb⟩

end Go.Proofs.Ytdcbgahfbcemnaa
