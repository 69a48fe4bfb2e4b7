/-
  This file proves contracts of the copy of a list of passes between the two packages' structs, of the test that two such lists are the same, and of the bound on a list's length.
  Conditions: each contract's own hypotheses (that a slice reads as a list, that it is not too long).
-/
import Derived.Test.YtnljjocoloijfaaPassB
namespace Go.Proofs.Ytnljjocoloijfaa
open Go.RowKit
set_option linter.unusedSimpArgs false
set_option linter.unusedVariables false

theorem pass_info : (Try.prog.info? 46).map (fun i => (i.zero, i.size, i.bytes)) = some (some (.agg #[.int .i64 0, .int .i64 0, .int .i64 0, .int .i64 0, .int .i64 0, .int .i64 0]), 6, 48) := by kernel_rfl

theorem set_6 {X R : List Value} {z0 z1 z2 z3 z4 z5 a0 a1 a2 a3 a4 a5 : Value} {m : Nat} (h : X.length = m) :
    ((((((X ++ z0 :: z1 :: z2 :: z3 :: z4 :: z5 :: R).set m a0).set (m + 1) a1).set (m + 2) a2).set (m + 3) a3).set (m + 4) a4).set (m + 5) a5 = (X ++ [a0, a1, a2, a3, a4, a5]) ++ R := by
  subst h
  simp [List.set_append]
theorem passCells_snoc {ps : List GPass} {k : Nat} {p : GPass} (hp : ps[k]? = some p) : passCells (ps.take (k + 1)) = passCells (ps.take k) ++ p.cells := by
  rw [List.take_add_one, hp]
  simp [passCells]
theorem set_pass {ps : List GPass} {zs : List Value} {k n : Nat} {p : GPass} (hp : ps[k]? = some p) (hz : zs.length = (n - k) * 6) (hk : k < n) :
    ∃ zs' : List Value, ((((((passCells (ps.take k) ++ zs).set (k * 6) (.int .i64 p.ln)).set (k * 6 + 1) (.int .i64 p.bg)).set (k * 6 + 2) (.int .i64 p.en)).set (k * 6 + 3) (.int .i64 p.pg)).set (k * 6 + 4) (.int .i64 p.bd)).set (k * 6 + 5) (.int .i64 p.cs) = passCells (ps.take (k + 1)) ++ zs' ∧ zs'.length = (n - (k + 1)) * 6 := by
  have hkx : k < ps.length := (List.getElem?_eq_some_iff.1 hp).1
  have hX : (passCells (ps.take k)).length = k * 6 := by rw [passCells_length, List.length_take, Nat.min_eq_left (by omega)]
  obtain ⟨j, hj⟩ : ∃ j, n - k = j + 1 := ⟨n - k - 1, by omega⟩
  rw [hj] at hz
  match zs, hz with
  | z0 :: z1 :: z2 :: z3 :: z4 :: z5 :: R, hz =>
    refine ⟨R, ?_, by simp at hz; rw [show n - (k + 1) = j by omega]; omega⟩
    rw [set_6 hX, passCells_snoc hp]
    rfl
  | [], hz | [_], hz | [_, _], hz | [_, _, _], hz | [_, _, _, _], hz | [_, _, _, _, _], hz => exact absurd hz (by simp only [List.length_cons, List.length_nil]; omega)

/-- A list of passes of the call's own comes back. -/
def RetPasses (ps : List GPass) (w : World) (e : Ending) (w' : World) : Prop :=
  ∃ A c, e = .returned (.slice A ps.length c) ∧ Own w' 46 w.heap.size w'.heap.size 6 A ps.length c (passCells ps) ∧ Below w.heap.size w w'

set_option maxHeartbeats 2000000 in
set_option maxRecDepth 100000 in
theorem toPassS_any (A : Option Addr) (c lo hi : Nat) (ps : List GPass) (w : World) (hr : RdP w lo hi A ps) (hh : hi ≤ w.heap.size) (hl : ps.length ≤ 2097152) :
    Calls Try.prog 11 #[.slice A ps.length c] w (RetPasses ps w) := by
  obtain ⟨i0, hi0, hz0, hz1, hz2⟩ := info_parts pass_info
  obtain ⟨N, hN⟩ : ∃ N, N = w.heap.size := ⟨_, rfl⟩
  have HN := Lib.hid hN
  clear hN
  go_enter Try.func11, Try.ntmps11
  go_wp2_with (at_make; refine wpList_make_full _ rfl _ _ 25 rfl w.heap.size 46 i0 (.agg #[.int .i64 0, .int .i64 0, .int .i64 0, .int .i64 0, .int .i64 0, .int .i64 0]) 6 Try.underlying25 hi0 hz0 hz1 _ _ _ _ ps.length rfl rfl rfl rfl ?b2 ?b3 (Nat.le_refl _) ?_)
  case b2 => rw [hz2]; omega
  case b3 => unfold maxLen; omega
  intro w1 hown1 hg1
  have hb1 : Below w.heap.size w w1 := (Below.refl _ _).grown hg1 (Nat.le_refl _) (fun k h => by cases h)
  rw [← HN.out] at hown1 hb1 ⊢
  have hlt1 : N < w1.heap.size := (hown1.lt N rfl).2
  clear hg1
  generalize (madeCells _ _).toList = zs0 at hown1
  have hzl := hown1.1
  go_wp2_with fail
  go_loopw [4] (fun i wr => ∃ (k : Nat) (zs : List Value), k ≤ ps.length ∧ i = .int .i64 k ∧ zs.length = (ps.length - k) * 6 ∧ wr.ownsRow N 46 6 (.slice (some ⟨N, 0, none⟩) ps.length ps.length) ps.length (passCells (ps.take k) ++ zs) ∧ Below N w wr ∧ N < wr.heap.size) (fun i _ => ps.length - (intOf i).toNat)
  case atStart => exact ⟨0, zs0, Nat.zero_le _, rfl, by simpa using hzl, by simpa [passCells] using hown1, hb1, hlt1⟩
  case round =>
    obtain ⟨k, zs, hk, rfl, hz, hown, hb, hlt'⟩ := hrel
    have HZ := Lib.hid hz
    clear hz
    by_cases hlt : k < ps.length
    · obtain ⟨b, off, p, rfl, _, _, hp, c0, c1, c2, c3, c4, c5⟩ := (hr.below hb (by have := HN.out; omega)).getp hlt
      have HP := Lib.hid hp
      clear hp
      go_wp2_with fail
      refine (toPass_any p _).mono ?_
      rintro e w2 ⟨rfl, B2⟩
      have hs2 := B2.size
      have hb2 := hb.trans (B2.mono (Nat.le_of_lt hlt'))
      have hown2 : w2.ownsRow N 46 6 (.slice (some ⟨N, 0, none⟩) ps.length ps.length) ps.length (passCells (ps.take k) ++ zs) := (show Own wr _ N (N + 1) 6 _ _ _ _ from ⟨hown, fun a ha => by cases ha; exact Nat.lt_succ_self _⟩).below B2 (by omega) |>.1
      obtain ⟨u0, hu0⟩ : ∃ u, w2.cell? ⟨N, k * 6, none⟩ = some u := by
        have h1 := hown2.cellAt (k * 6) (by omega)
        have h2 : k * 6 < (passCells (ps.take k) ++ zs).length := by rw [hown2.1]; omega
        exact ⟨_, h1.trans (List.getElem?_eq_getElem h2)⟩
      have hf0 : w2.frozen? ⟨N, k * 6, none⟩ = false := hown2.frozenAt _
      obtain ⟨u1, hu1⟩ : ∃ u, w2.cell? ⟨N, k * 6 + 1, none⟩ = some u := by
        have h1 := hown2.cellAt (k * 6 + 1) (by omega)
        have h2 : k * 6 + 1 < (passCells (ps.take k) ++ zs).length := by rw [hown2.1]; omega
        exact ⟨_, h1.trans (List.getElem?_eq_getElem h2)⟩
      have hf1 : w2.frozen? ⟨N, k * 6 + 1, none⟩ = false := hown2.frozenAt _
      obtain ⟨u2, hu2⟩ : ∃ u, w2.cell? ⟨N, k * 6 + 2, none⟩ = some u := by
        have h1 := hown2.cellAt (k * 6 + 2) (by omega)
        have h2 : k * 6 + 2 < (passCells (ps.take k) ++ zs).length := by rw [hown2.1]; omega
        exact ⟨_, h1.trans (List.getElem?_eq_getElem h2)⟩
      have hf2 : w2.frozen? ⟨N, k * 6 + 2, none⟩ = false := hown2.frozenAt _
      obtain ⟨u3, hu3⟩ : ∃ u, w2.cell? ⟨N, k * 6 + 3, none⟩ = some u := by
        have h1 := hown2.cellAt (k * 6 + 3) (by omega)
        have h2 : k * 6 + 3 < (passCells (ps.take k) ++ zs).length := by rw [hown2.1]; omega
        exact ⟨_, h1.trans (List.getElem?_eq_getElem h2)⟩
      have hf3 : w2.frozen? ⟨N, k * 6 + 3, none⟩ = false := hown2.frozenAt _
      obtain ⟨u4, hu4⟩ : ∃ u, w2.cell? ⟨N, k * 6 + 4, none⟩ = some u := by
        have h1 := hown2.cellAt (k * 6 + 4) (by omega)
        have h2 : k * 6 + 4 < (passCells (ps.take k) ++ zs).length := by rw [hown2.1]; omega
        exact ⟨_, h1.trans (List.getElem?_eq_getElem h2)⟩
      have hf4 : w2.frozen? ⟨N, k * 6 + 4, none⟩ = false := hown2.frozenAt _
      obtain ⟨u5, hu5⟩ : ∃ u, w2.cell? ⟨N, k * 6 + 5, none⟩ = some u := by
        have h1 := hown2.cellAt (k * 6 + 5) (by omega)
        have h2 : k * 6 + 5 < (passCells (ps.take k) ++ zs).length := by rw [hown2.1]; omega
        exact ⟨_, h1.trans (List.getElem?_eq_getElem h2)⟩
      have hf5 : w2.frozen? ⟨N, k * 6 + 5, none⟩ = false := hown2.frozenAt _
      obtain ⟨zs', hs, hz'⟩ := set_pass HP.out HZ.out hlt
      have hown' := ((((((hown2.stored (k * 6) (.int .i64 p.ln)).1.stored (k * 6 + 1) (.int .i64 p.bg)).1.stored (k * 6 + 2) (.int .i64 p.en)).1.stored (k * 6 + 3) (.int .i64 p.pg)).1.stored (k * 6 + 4) (.int .i64 p.bd)).1.stored (k * 6 + 5) (.int .i64 p.cs)).1
      rw [hs] at hown'
      have HS := Lib.hid hs
      have HZ' := Lib.hid hz'
      clear hs hz' hown
      go_wp2_with fail
      go_roundw
      case rel => exact ⟨k + 1, zs', by omega, by go_num, HZ'.out, hown', ((((((hb2.setCell (Nat.le_refl _) _).setCell (Nat.le_refl _) _).setCell (Nat.le_refl _) _).setCell (Nat.le_refl _) _).setCell (Nat.le_refl _) _).setCell (Nat.le_refl _) _), by simp [World.setCell]; omega⟩
      case measure => simp [intOf]; omega
    · go_wp2_with fail
      go_ret
      have e : passCells (ps.take k) ++ zs = passCells ps := by
        have hz0 : zs = [] := List.eq_nil_of_length_eq_zero (by rw [HZ.out]; omega)
        rw [List.take_of_length_le (by omega), hz0, List.append_nil]
      rw [e] at hown
      have hN' := HN.out
      exact ⟨some ⟨N, 0, none⟩, ps.length, rfl, ⟨by rw [← hN']; exact hown, fun a ha => by cases ha; exact hlt'⟩, by rw [← hN']; exact hb⟩

set_option maxHeartbeats 2000000 in
set_option maxRecDepth 100000 in
theorem eqPass_same (p : GPass) (w : World) : Calls Try.prog 32 #[.agg #[.int .i64 p.ln, .int .i64 p.bg, .int .i64 p.en, .int .i64 p.pg, .int .i64 p.bd, .int .i64 p.cs], .agg #[.int .i64 p.ln, .int .i64 p.bg, .int .i64 p.en, .int .i64 p.pg, .int .i64 p.bd, .int .i64 p.cs]] w (RetB true w) := by
  obtain ⟨ln, bg, en, pg, bd, cs⟩ := p
  simp only
  go_enter Try.func32, Try.ntmps32
  go_wp2_with fail
  go_returns
  exact ⟨rfl, by go_grown⟩

set_option maxHeartbeats 2000000 in
set_option maxRecDepth 100000 in
theorem eqPassS_same (A B : Option Addr) (c d lo hi lo' hi' : Nat) (ps : List GPass) (w : World) (ha : RdP w lo hi A ps) (hb0 : RdP w lo' hi' B ps) (hl : ps.length ≤ 2097152) (hh : hi ≤ w.heap.size) (hh' : hi' ≤ w.heap.size) :
    Calls Try.prog 13 #[.slice A ps.length c, .slice B ps.length d] w (RetB true w) := by
  go_enter Try.func13, Try.ntmps13
  go_wp2_with fail
  go_loopw [5] (fun i wr => ∃ k : Nat, k ≤ ps.length ∧ i = .int .i64 k ∧ Below w.heap.size w wr) (fun i _ => ps.length - (intOf i).toNat)
  case atStart => exact ⟨0, Nat.zero_le _, rfl, Below.refl _ _⟩
  case round =>
    obtain ⟨k, hk, rfl, hb⟩ := hrel
    by_cases hlt : k < ps.length
    · obtain ⟨b, off, p, rfl, _, hbl, hp, c0, c1, c2, c3, c4, c5⟩ := (ha.below hb hh).getp hlt
      obtain ⟨b', off', p', rfl, _, hbl', hp', e0, e1, e2, e3, e4, e5⟩ := (hb0.below hb hh').getp hlt
      obtain rfl : p = p' := by rw [hp] at hp'; injection hp'
      clear hp hp'
      have q1 : (k : Int) < (ps.length : Int) := by omega
      obtain ⟨N, hNN⟩ : ∃ N, N = wr.heap.size := ⟨_, rfl⟩
      have hN : N ≤ wr.heap.size := by omega
      have hNw : w.heap.size ≤ N := by rw [hNN]; exact hb.size
      have D0 : ∀ s : Bw N wr, s.v.cell? ⟨b, off + k * 6, none⟩ = some (.int .i64 p.ln) := fun s => s.cell (show b < N from by have := hb.size; omega) c0
      have E0 : ∀ s : Bw N wr, s.v.cell? ⟨b', off' + k * 6, none⟩ = some (.int .i64 p.ln) := fun s => s.cell (show b' < N from by have := hb.size; omega) e0
      have D1 : ∀ s : Bw N wr, s.v.cell? ⟨b, off + k * 6 + 1, none⟩ = some (.int .i64 p.bg) := fun s => s.cell (show b < N from by have := hb.size; omega) c1
      have E1 : ∀ s : Bw N wr, s.v.cell? ⟨b', off' + k * 6 + 1, none⟩ = some (.int .i64 p.bg) := fun s => s.cell (show b' < N from by have := hb.size; omega) e1
      have D2 : ∀ s : Bw N wr, s.v.cell? ⟨b, off + k * 6 + 2, none⟩ = some (.int .i64 p.en) := fun s => s.cell (show b < N from by have := hb.size; omega) c2
      have E2 : ∀ s : Bw N wr, s.v.cell? ⟨b', off' + k * 6 + 2, none⟩ = some (.int .i64 p.en) := fun s => s.cell (show b' < N from by have := hb.size; omega) e2
      have D3 : ∀ s : Bw N wr, s.v.cell? ⟨b, off + k * 6 + 3, none⟩ = some (.int .i64 p.pg) := fun s => s.cell (show b < N from by have := hb.size; omega) c3
      have E3 : ∀ s : Bw N wr, s.v.cell? ⟨b', off' + k * 6 + 3, none⟩ = some (.int .i64 p.pg) := fun s => s.cell (show b' < N from by have := hb.size; omega) e3
      have D4 : ∀ s : Bw N wr, s.v.cell? ⟨b, off + k * 6 + 4, none⟩ = some (.int .i64 p.bd) := fun s => s.cell (show b < N from by have := hb.size; omega) c4
      have E4 : ∀ s : Bw N wr, s.v.cell? ⟨b', off' + k * 6 + 4, none⟩ = some (.int .i64 p.bd) := fun s => s.cell (show b' < N from by have := hb.size; omega) e4
      have D5 : ∀ s : Bw N wr, s.v.cell? ⟨b, off + k * 6 + 5, none⟩ = some (.int .i64 p.cs) := fun s => s.cell (show b < N from by have := hb.size; omega) c5
      have E5 : ∀ s : Bw N wr, s.v.cell? ⟨b', off' + k * 6 + 5, none⟩ = some (.int .i64 p.cs) := fun s => s.cell (show b' < N from by have := hb.size; omega) e5
      clear c0 c1 c2 c3 c4 c5 e0 e1 e2 e3 e4 e5
      go_wp2_with fail
      refine wp_region_bw (Below.refl N _) (by kernel_rfl) (by kernel_rfl) ?_
      repeat (go_big_quiet_step ((go_at_call 32; exact bw_left hN (eqPass_same _ _))))
      refine wpQuiet_nil ?_
      rintro _ ⟨⟨wz, hwz⟩, rfl⟩
      have hbz := hb.trans (hwz.mono hNw)
      go_wp2_with fail
      go_roundw
      case rel => exact ⟨k + 1, by omega, by go_num, hbz⟩
      case measure => simp [intOf]; omega
    · go_wp2_with fail
      go_ret
      exact ⟨rfl, hb⟩

theorem szPassS_big {A : Option Addr} {c : Nat} {w : World} (ps : List GPass) (h : 1048576 < ps.length) (hl : ps.length ≤ 9223372036854775807) :
    Calls Try.prog 9 #[.slice A ps.length c, .int .i64 1048576] w fun e w' => e = .returned (.int .i64 (-1)) ∧ w = w' := by
  have q : IntKind.i64.wrap (1048576 - (ps.length : Int)) = 1048576 - (ps.length : Int) := IntWalk.i64_in _ ⟨by omega, by omega⟩
  have q2 : (1048576 - (ps.length : Int)) < 0 := by omega
  go_enter Try.func9, Try.ntmps9
  go_wp2_with fail
  go_ret
  exact ⟨rfl, rfl⟩
theorem szPassS_small {A : Option Addr} {c : Nat} {w : World} (ps : List GPass) (h : ps.length ≤ 1048576) :
    Calls Try.prog 9 #[.slice A ps.length c, .int .i64 1048576] w fun e w' => e = .returned (.int .i64 (1048576 - (ps.length : Int))) ∧ w = w' := by
  have q : IntKind.i64.wrap (1048576 - (ps.length : Int)) = 1048576 - (ps.length : Int) := wr64 (by omega) (by omega)
  have q2 : ¬ ((1048576 - (ps.length : Int)) < 0) := by omega
  go_enter Try.func9, Try.ntmps9
  go_wp2_with fail
  go_ret
  exact ⟨rfl, rfl⟩

def vArePasses (ps : List GPass) : Bool := isPL ps

theorem sArePasses {A : Option Addr} {c lo hi : Nat} {ps : List GPass} {w : World} (hr : RdP w lo hi A ps) (hl : ps.length ≤ 2097152) (hh : hi ≤ w.heap.size) :
    Calls Try.prog 10 #[.slice A ps.length c] w (RetB (vArePasses ps) w) := by
  go_enter Try.func10, Try.ntmps10
  go_wp2_with fail
  refine (l11Good_any hr (by omega) hh).mono ?_
  rintro e w1 ⟨rfl, B1⟩
  go_wp2_with fail
  go_ret
  exact ⟨rfl, B1⟩



theorem iArePasses {A : Option Addr} {c lo hi : Nat} {ps : List GPass} {w : World} (hr : RdP w lo hi A ps) (hl : ps.length ≤ 2097152) (hh : hi ≤ w.heap.size) :
    Calls Try.prog 12 #[.slice A ps.length c] w (RetB (vArePasses ps) w) := arePasses_any hr (by omega) hh

end Go.Proofs.Ytnljjocoloijfaa
