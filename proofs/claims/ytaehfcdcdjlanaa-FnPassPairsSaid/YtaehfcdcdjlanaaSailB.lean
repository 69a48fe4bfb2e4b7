/-
  This file proves contracts of SailedLines, of the program and of the reference.
  Conditions: that the slice reads as a list of passes, that it is not too long.
-/
import Derived.Test.YtaehfcdcdjlanaaSailA
import Derived.Test.YtaehfcdcdjlanaaPassF
namespace Go.Proofs.Ytaehfcdcdjlanaa
open Go.RowKit
set_option linter.unusedSimpArgs false
set_option linter.unusedVariables false

theorem row_below {w w' : World} {base : Nat} {e : TypeId} {size n : Nat} {v : Value} {xs : List Value} (h : w.ownsRow base e size v n xs) (hb : Below w.heap.size w w') : w'.ownsRow base e size v n xs := by
  obtain ⟨A, c, rfl, ho⟩ := Own.of_row h
  exact (ho.below hb (Nat.le_refl _)).1
def pS (ps : List GPass) (i : Nat) : Bool := sailed ps (gP ps i).ln
def fS (ps : List GPass) (i : Nat) : Int := (gP ps i).ln
def outS (ps : List GPass) (k : Nat) : List Int := gath (pS ps) (fS ps) k
theorem outS_le (ps : List GPass) (k : Nat) : (outS ps k).length ≤ k := gath_le _ _ _
def vSailedLines (ps : List GPass) : List Int × Bool := if isPL ps = true then (comp (sortI (outS ps ps.length)), true) else ([], false)
theorem vSailedLines_len0 (ps : List GPass) : (vSailedLines ps).1.length ≤ 12 := by
  unfold vSailedLines
  split
  · rename_i h
    have h1 := comp_le (sortI (outS ps ps.length))
    have h2 := sortI_length (outS ps ps.length)
    have h3 := outS_le ps ps.length
    have h4 := isPL_len h
    simp only
    omega
  · simp

set_option maxHeartbeats 2000000 in
set_option maxRecDepth 100000 in
theorem iSailedLines {A : Option Addr} {c lo hi : Nat} {ps : List GPass} {w : World} (hr : RdP w lo hi A ps) (hl : ps.length ≤ 2097152) (hh : hi ≤ w.heap.size) :
    Calls Try.prog 13 #[.slice A ps.length c] w (RetLB (vSailedLines ps).1 (vSailedLines ps).2 w) := by
  obtain ⟨i0, hi0, hz0, hz1, hz2⟩ := info_parts int_info
  by_cases h1 : isPL ps = true
  rotate_left
  · have h1' : isPL ps = false := by simpa using h1
    have HE := Lib.hid (show vSailedLines ps = ([], false) from by unfold vSailedLines; rw [if_neg (by simp [h1'])])
    clear h1
    go_enter Try.func13, Try.ntmps13
    go_wp2_with fail
    refine (arePasses_any hr (by omega) hh).mono ?_
    rintro e w1 ⟨rfl, B1⟩
    go_wp2_with fail
    go_ret2
    rw [HE.out]
    exact retLB_nil _ _ _ B1
  have HE := Lib.hid (show vSailedLines ps = (comp (sortI (outS ps ps.length)), true) from by unfold vSailedLines; rw [if_pos h1])
  have H1 := Lib.hid h1
  have h12 := isPL_len h1
  go_enter Try.func13, Try.ntmps13
  go_wp2_with fail
  refine (arePasses_any hr (by omega) hh).mono ?_
  rintro e w1 ⟨rfl, B1⟩
  go_wp2_with fail
  clear h1
  go_loopw [4, 13] (fun v i wr => ∃ k : Nat, k ≤ ps.length ∧ i = .int .i64 k ∧ wr.ownsRow w.heap.size 3 1 v (outS ps k).length (ints (outS ps k)) ∧ Below w.heap.size w wr) (fun _ i _ => ps.length - (intOf i).toNat)
  case atStart => exact ⟨0, Nat.zero_le _, rfl, row_empty_at _ _ _ B1.size, B1.alloc B1.size _⟩
  case round =>
    obtain ⟨k, hk, rfl, hown, hb⟩ := hrel
    have hgl := outS_le ps k
    by_cases hlt : k < ps.length
    rotate_left
    · obtain rfl : k = ps.length := by omega
      generalize outS ps ps.length = F at hown hgl HE
      obtain ⟨A5, c5, rfl, O5⟩ := Own.of_row hown
      have hbs := hb.size
      clear hown
      go_wp2_with fail
      refine (sort_any O5 (by omega)).mono ?_
      rintro e w6 ⟨rfl, O6, N6⟩
      have hb6 := hb.trans (N6.below hbs)
      have hs6 := N6.size
      have HC := Lib.hid (compact_any (A := A5) (c := c5) (lo := w.heap.size) (hi := wr.heap.size) (xs := sortI F) (w := w6) (by rw [OwnI, sortI_length]; exact O6) (by rw [sortI_length]; omega) (sortI_sorted F))
      go_wp2_with fail
      have hc := HC.out
      rw [sortI_length] at hc
      refine hc.mono ?_
      rintro e w7 ⟨rfl, O7, N7⟩
      have hb7 := hb6.trans (N7.below (by omega))
      have hs7 := N7.size
      clear hc HC
      go_wp2_with fail
      go_ret2
      rw [HE.out]
      exact ⟨A5, c5, rfl, O7.more (Nat.le_refl _) (by omega), hb7⟩
    obtain ⟨b, off, p, rfl, hlob, hbl, hp, c0, c1, c2, c3, c4, c5⟩ := (hr.below hb hh).getp hlt
    have HX := Lib.hid (gP_of hp)
    have q1 : (k : Int) < (ps.length : Int) := by omega
    clear hp
    have D := (pass_cells p wr 40).1
    have hbx := hb.trans ((below_alloc1 wr (.cells #[.int .i64 p.ln, .int .i64 p.bg, .int .i64 p.en, .int .i64 p.pg, .int .i64 p.bd, .int .i64 p.cs] 40)).mono hb.size)
    have hownx := row_below hown (below_alloc1 wr (.cells #[.int .i64 p.ln, .int .i64 p.bg, .int .i64 p.en, .int .i64 p.pg, .int .i64 p.bd, .int .i64 p.cs] 40))
    obtain ⟨sv, hsv⟩ : ∃ sv, sv = sailed ps p.ln := ⟨_, rfl⟩
    have HSV := Lib.hid hsv
    clear hsv hown
    by_cases hs : sv = true
    · have HG := Lib.hid (gath_yes (p := pS ps) (f := fS ps) (k := k) (x := p.ln) (by unfold pS; rw [HX.out, ← HSV.out, hs]) (by unfold fS; rw [HX.out]))
      have hs' : sv = true := hs
      clear hs
      obtain ⟨F, hF⟩ : ∃ F, outS ps k = F := ⟨_, rfl⟩
      have HF := Lib.hid hF
      rw [hF] at hownx hgl
      clear hF
      go_wp2_with fail
      generalize wr.alloc (.cells #[.int .i64 p.ln, .int .i64 p.bg, .int .i64 p.en, .int .i64 p.pg, .int .i64 p.bd, .int .i64 p.cs] 40) = wx at D hbx hownx ⊢
      refine (isSailed_any (hr.below hbx hh) (by omega) (by have := hbx.size; omega) H1.out).mono ?_
      rintro e w5 ⟨rfl, B5⟩
      rw [← HSV.out, hs']
      obtain ⟨A5, c5', rfl, O5⟩ := Own.of_row hownx
      have O6 := O5.below B5 (Nat.le_refl _)
      have hb5 := hbx.trans (B5.mono hbx.size)
      have hc5 := (B5.cell (p := ⟨wr.heap.size, 0, none⟩) (World.block_lt_of_cell? wx _ D)).trans D
      clear hownx O5 D
      go_wp2_with (at_builtin; refine wpList_push _ rfl _ _ 25 rfl w.heap.size 3 i0 (.int .i64 0) 1 8 Try.underlying25 hi0 hz0 hz1 hz2 rfl (by decide) _ F.length (ints F) rfl O6.1 [.int .i64 p.ln] rfl (one_int p.ln) rfl (by omega) (by decide) hb5.size ?_; intro v7 w7 hown7 hb7 hs7 _ _)
      have hown8 := push_rel (F' := outS ps (k + 1)) (by rw [← HF.out]; exact HG.out) hown7
      have hb8 := hb7 _ hb5
      go_wp2_with fail
      go_roundw
      case rel => exact ⟨k + 1, by omega, by go_num, hown8, hb8⟩
      case measure => simp [intOf]; omega
    · have hs' : sv = false := by simpa using hs
      have HG := Lib.hid (gath_no (p := pS ps) (f := fS ps) (k := k) (by unfold pS; rw [HX.out, ← HSV.out, hs']))
      clear hs
      obtain ⟨F, hF⟩ : ∃ F, outS ps k = F := ⟨_, rfl⟩
      have HF := Lib.hid hF
      rw [hF] at hownx hgl
      clear hF
      go_wp2_with fail
      generalize wr.alloc (.cells #[.int .i64 p.ln, .int .i64 p.bg, .int .i64 p.en, .int .i64 p.pg, .int .i64 p.bd, .int .i64 p.cs] 40) = wx at D hbx hownx ⊢
      refine (isSailed_any (hr.below hbx hh) (by omega) (by have := hbx.size; omega) H1.out).mono ?_
      rintro e w5 ⟨rfl, B5⟩
      rw [← HSV.out, hs']
      have hown5 := row_below hownx B5
      have hb5 := hbx.trans (B5.mono hbx.size)
      clear hownx D
      go_wp2_with fail
      go_roundw
      case rel => exact ⟨k + 1, by omega, by go_num, by rw [show outS ps (k + 1) = F from by rw [← HF.out]; exact HG.out]; exact hown5, hb5⟩
      case measure => simp [intOf]; omega

set_option maxHeartbeats 2000000 in
set_option maxRecDepth 100000 in
theorem sSailedLines {A : Option Addr} {c lo hi : Nat} {ps : List GPass} {w : World} (hr : RdP w lo hi A ps) (hl : ps.length ≤ 2097152) (hh : hi ≤ w.heap.size) :
    Calls Try.prog 14 #[.slice A ps.length c] w (RetLB (vSailedLines ps).1 (vSailedLines ps).2 w) := by
  have E0 := own_empty w 3
  have Bx := below_alloc1 w (.cells #[] 3)
  have hz : (w.alloc (.cells #[] 3)).heap.size = w.heap.size + 1 := by simp
  by_cases h1 : isPL ps = true
  rotate_left
  · have h1' : isPL ps = false := by simpa using h1
    have HE := Lib.hid (show vSailedLines ps = ([], false) from by unfold vSailedLines; rw [if_neg (by simp [h1'])])
    clear h1
    go_enter Try.func14, Try.ntmps14
    go_wp2_with fail
    generalize w.alloc (.cells #[] 3) = wx at E0 Bx hz ⊢
    refine (l11Good_any (hr.below Bx hh) (by omega) (by omega)).mono ?_
    rintro e w1 ⟨rfl, B1⟩
    rw [h1']
    go_wp2_with fail
    go_ret2
    rw [HE.out]
    exact ⟨_, 0, rfl, (E0.below B1 (Nat.le_refl _)).more (Nat.le_refl _) B1.size, Bx.trans (B1.mono (by omega))⟩
  have HE := Lib.hid (show vSailedLines ps = (comp (sortI (outS ps ps.length)), true) from by unfold vSailedLines; rw [if_pos h1])
  have H1 := Lib.hid h1
  have h12 := isPL_len h1
  go_enter Try.func14, Try.ntmps14
  go_wp2_with fail
  generalize w.alloc (.cells #[] 3) = wx at E0 Bx hz ⊢
  refine (l11Good_any (hr.below Bx hh) (by omega) (by omega)).mono ?_
  rintro e w1 ⟨rfl, B1⟩
  rw [h1]
  have O1 := (E0.below B1 (Nat.le_refl _)).more (Nat.le_refl _) B1.size
  have hb1 := Bx.trans (B1.mono (by omega))
  clear h1 E0 Bx B1 hz
  go_wp2_with fail
  go_loopw [4, 5] (fun v i wr => ∃ (k g c1 : Nat) (F : List Int), k ≤ ps.length ∧ i = .int .i64 k ∧ v = .slice (some ⟨g, 0, none⟩) F.length c1 ∧ F.length ≤ k ∧ F.Pairwise (· < ·) ∧ (∀ y, y ∈ F ↔ y ∈ outS ps k) ∧ OwnI wr 3 w.heap.size wr.heap.size (some ⟨g, 0, none⟩) c1 F ∧ Below w.heap.size w wr) (fun _ i _ => ps.length - (intOf i).toNat)
  case atStart => exact ⟨0, w.heap.size, 0, [], Nat.zero_le _, rfl, rfl, Nat.le_refl _, .nil, fun y => by simp [outS, gath], O1, hb1⟩
  case round =>
    clear O1 hb1
    obtain ⟨k, g, c1, F, hk, rfl, rfl, hfk, hri, hmem, hown, hb⟩ := hrel
    have HRI := Lib.hid hri
    have HMEM := Lib.hid hmem
    have hbs := hb.size
    clear hri hmem
    by_cases hlt : k < ps.length
    rotate_left
    · obtain rfl : k = ps.length := by omega
      have HEQ := Lib.hid (show F = comp (sortI (outS ps ps.length)) from strict_unique _ _ HRI.out (comp_rising _ (sortI_sorted _)) fun y => by rw [HMEM.out, mem_comp, (sortI_perm _).mem_iff])
      go_wp2_with fail
      go_ret2
      rw [HE.out, ← HEQ.out]
      exact ⟨_, c1, rfl, hown, hb⟩
    obtain ⟨b, off, p, rfl, hlob, hbl, hp, d0, d1, d2, d3, d4, d5⟩ := (hr.below hb hh).getp hlt
    have HX := Lib.hid (gP_of hp)
    have q1 : (k : Int) < (ps.length : Int) := by omega
    clear hp
    obtain ⟨sv, hsv⟩ : ∃ sv, sv = sailed ps p.ln := ⟨_, rfl⟩
    have HSV := Lib.hid hsv
    clear hsv
    by_cases hs : sv = true
    rotate_left
    · have hs' : sv = false := by simpa using hs
      have HG := Lib.hid (gath_no (p := pS ps) (f := fS ps) (k := k) (by unfold pS; rw [HX.out, ← HSV.out, hs']))
      clear hs
      go_wp2_with fail
      refine (l11Sailed_any (hr.below hb hh) (by omega) (by omega) H1.out).mono ?_
      rintro e w5 ⟨rfl, B5⟩
      rw [← HSV.out, hs']
      have O5 := (hown.below B5 (Nat.le_refl _)).more (Nat.le_refl _) B5.size
      have hb5 := hb.trans (B5.mono hbs)
      go_wp2_with fail
      go_roundw
      case rel => exact ⟨k + 1, g, c1, F, by omega, by go_num, rfl, by omega, HRI.out, fun y => by rw [show outS ps (k + 1) = outS ps k from HG.out]; exact HMEM.out y, O5, hb5⟩
      case measure => simp [intOf]; omega
    have HG := Lib.hid (gath_yes (p := pS ps) (f := fS ps) (k := k) (x := p.ln) (by unfold pS; rw [HX.out, ← HSV.out, hs]) (by unfold fS; rw [HX.out]))
    have hs' : sv = true := hs
    clear hs
    by_cases hin : p.ln ∈ F
    · have HIN := Lib.hid hin
      clear hin
      go_wp2_with fail
      refine (l11Sailed_any (hr.below hb hh) (by omega) (by omega) H1.out).mono ?_
      rintro e w5 ⟨rfl, B5⟩
      rw [← HSV.out, hs']
      have O5 := (hown.below B5 (Nat.le_refl _)).more (Nat.le_refl _) B5.size
      have hb5 := hb.trans (B5.mono hbs)
      go_wp2_with fail
      refine (l1Has_any (x := p.ln) O5.rd (by omega)).mono ?_
      rintro e w' ⟨rfl, rfl⟩
      rw [decide_eq_true HIN.out]
      go_wp2_with fail
      go_roundw
      case rel => exact ⟨k + 1, g, c1, F, by omega, by go_num, rfl, by omega, HRI.out, fun y => by
        rw [show outS ps (k + 1) = outS ps k ++ [p.ln] from HG.out, List.mem_append, List.mem_singleton, ← HMEM.out y]
        constructor
        · exact .inl
        · rintro (h | rfl)
          · exact h
          · exact HIN.out, O5, hb5⟩
      case measure => simp [intOf]; omega
    · have HIN := Lib.hid hin
      clear hin
      go_wp2_with fail
      refine (l11Sailed_any (hr.below hb hh) (by omega) (by omega) H1.out).mono ?_
      rintro e w5 ⟨rfl, B5⟩
      rw [← HSV.out, hs']
      have O5 := (hown.below B5 (Nat.le_refl _)).more (Nat.le_refl _) B5.size
      have hb5 := hb.trans (B5.mono hbs)
      have hbs5 := hb5.size
      go_wp2_with fail
      refine (l1Has_any (x := p.ln) O5.rd (by omega)).mono ?_
      rintro e w' ⟨rfl, rfl⟩
      rw [decide_eq_false HIN.out]
      go_wp2_with fail
      refine (l1Put_any (x := p.ln) O5.rd O5.cap (by omega) (Nat.le_refl _) HRI.out HIN.out).mono ?_
      rintro e w6 ⟨zs, hz1, hz2, hz3, A6, c6, rfl, O6, B6⟩
      obtain ⟨g3, rfl, hg3, hg3'⟩ := O6.length_pos (by omega)
      have O7 := O6.more hbs5 (Nat.le_refl _)
      have hb6 := hb5.trans (B6.mono hbs5)
      have HZ := Lib.hid (And.intro hz1 hz2)
      clear hz1 hz2 O6 O5 hown
      go_wp2_with fail
      go_roundw
      case rel => exact ⟨k + 1, g3, c6, zs, by omega, by go_num, by rw [hz3], by omega, HZ.out.1, fun y => by
        rw [show outS ps (k + 1) = outS ps k ++ [p.ln] from HG.out, List.mem_append, List.mem_singleton, ← HMEM.out y, HZ.out.2 y]
        exact Or.comm, O7, hb6⟩
      case measure => simp [intOf]; omega

end Go.Proofs.Ytaehfcdcdjlanaa
