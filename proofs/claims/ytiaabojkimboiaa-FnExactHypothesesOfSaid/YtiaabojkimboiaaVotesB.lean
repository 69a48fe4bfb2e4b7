/-
  This file proves contracts of the two functions that sort votes into a new list, of the program and of the reference.
  Conditions: each contract's own hypotheses (that a slice reads as a list, that it is not too long).
-/
import Derived.Test.YtiaabojkimboiaaCopy
import Derived.Test.YtiaabojkimboiaaCat
import Derived.Test.YtiaabojkimboiaaSort
import Derived.Deep.RegionHeld3
namespace Go.Proofs.Ytiaabojkimboiaa
open Go.RowKit
set_option linter.unusedSimpArgs false
set_option linter.unusedVariables false

theorem sortedInts_any {A : Option Addr} {c lo hi : Nat} {xs : List Int} {w : World} (hr : RdI w lo hi A xs) (hl : xs.length ≤ 4194304) (hh : hi ≤ w.heap.size) :
    Calls Try.prog 34 #[.slice A xs.length c] w (RetInts (sortI xs) w) := by
  go_enter Try.func34, Try.ntmps34
  go_wp2_with fail
  refine (copyInts_any hr (by omega) hh).mono ?_
  rintro e w1 ⟨A0, c0, rfl, O0, B0⟩
  go_wp2_with fail
  refine (sort_any O0 hl).mono ?_
  rintro e w2 ⟨rfl, O1, N1⟩
  go_wp2_with fail
  go_ret
  have hs1 := N1.size
  have O2 : Own w2 3 w.heap.size w2.heap.size 1 A0 (sortI xs).length c0 (ints (sortI xs)) := by rw [sortI_length]; exact O1.more (Nat.le_refl _) (by omega)
  exact ⟨A0, c0, by rw [sortI_length]; rfl, O2, B0.trans (N1.below B0.size)⟩

/-- What is known of the sorted list so far, in every world of the statement that lengthens it. -/
structure HL (e : TypeId) (N h0 : Nat) (A : Option Addr) (c : Nat) (ys : List Int) (w w' : World) : Prop where
  own : Own w' e N h0 1 A ys.length c (ints ys)
  bel : Below N w w'
  hs : h0 ≤ w'.heap.size
theorem HL.drew {e : TypeId} {N h0 : Nat} {A : Option Addr} {c : Nat} {ys : List Int} {w w' : World} (h : HL e N h0 A c ys w w') : HL e N h0 A c ys w w'.drew := ⟨h.own, h.bel.drew, h.hs⟩
theorem HL.below {e : TypeId} {N h0 : Nat} {A : Option Addr} {c : Nat} {ys : List Int} {w w' w'' : World} (h : HL e N h0 A c ys w w') (hN : N ≤ h0) (hb : Below w'.heap.size w' w'') : HL e N h0 A c ys w w'' :=
  ⟨h.own.below hb h.hs, h.bel.trans (hb.mono (by have := h.hs; omega)), by have := hb.size; have := h.hs; omega⟩
theorem HL.alloc {e : TypeId} {N h0 : Nat} {A : Option Addr} {c : Nat} {ys : List Int} {w w' : World} (h : HL e N h0 A c ys w w') (hN : N ≤ h0) (o : Obj) : HL e N h0 A c ys w (w'.alloc o) := h.below hN (below_alloc1 _ _)
theorem own_empty (w : World) (e : TypeId) : Own (w.alloc (.cells #[] e)) e w.heap.size (w.alloc (.cells #[] e)).heap.size 1 (some ⟨w.heap.size, 0, none⟩) 0 0 [] :=
  ⟨row_empty w e 1, fun a ha => by cases ha; simp⟩
theorem Rd.take {w : World} {lo hi n j : Nat} {A : Option Addr} {xs : List Int} (h : Rd w lo hi 1 A n (ints xs)) (hj : j ≤ n) : Rd w lo hi 1 A j (ints (xs.take j)) := by
  have hl := h.1
  simp [ints] at hl
  refine ⟨by simp [ints]; omega, fun hn => ?_⟩
  obtain ⟨b, off, e, h1, h2, hc⟩ := h.2 (by omega)
  refine ⟨b, off, e, h1, h2, fun i u hu => hc i u ?_⟩
  simp only [ints, List.map_take, List.getElem?_take] at hu
  split at hu
  · exact hu
  · cases hu
/-- The tail from j on. -/
theorem rd_tail {w : World} {lo hi n j : Nat} {b : Nat} {xs : List Int} (h : Rd w lo hi 1 (some ⟨b, 0, none⟩) n (ints xs)) (hj : j ≤ n) : Rd w lo hi 1 (some ⟨b, j, none⟩) (n - j) (ints (xs.drop j)) := by
  have hl := h.1
  simp [ints] at hl
  refine ⟨by simp [ints]; omega, fun hn => ?_⟩
  obtain ⟨b', off, e, h1, h2, hc⟩ := h.2 (by omega)
  cases e
  refine ⟨b, j, rfl, h1, h2, fun i u hu => ?_⟩
  rw [show j + i = 0 + (j + i) by omega]
  refine hc (j + i) u ?_
  simpa [ints, List.getElem?_drop, List.getElem?_map] using hu
theorem rd_tail0 {w w' : World} {lo hi lo' hi' n j : Nat} {A B : Option Addr} {xs : List Int} (h : Rd w' lo' hi' 1 B n (ints xs)) (hj : n ≤ j) : Rd w lo hi 1 A (n - j) (ints (xs.drop j)) := by
  have hl := h.1
  simp [ints] at hl
  exact ⟨by simp [ints]; omega, fun hn => absurd hn (by omega)⟩
theorem rd_new (w : World) (e : TypeId) (x : Int) : Rd (w.alloc (.cells #[.int .i64 x] e)) 0 (w.alloc (.cells #[.int .i64 x] e)).heap.size 1 (some ⟨w.heap.size, 0, none⟩) 1 [.int .i64 x] := by
  refine ⟨rfl, fun _ => ⟨w.heap.size, 0, rfl, Nat.zero_le _, by simp, fun j u hu => ?_⟩⟩
  have := cells_new w [.int .i64 x] e j u hu
  rwa [Addr.add_lit] at this
theorem rd_newd (w : World) (e : TypeId) (x : Int) : Rd (w.alloc (.cells #[.int .i64 x] e)).drew 0 (w.alloc (.cells #[.int .i64 x] e)).drew.heap.size 1 (some ⟨w.heap.size, 0, none⟩) 1 [.int .i64 x] := rd_new w e x
theorem HL.within {e : TypeId} {N h0 : Nat} {A : Option Addr} {c : Nat} {ys : List Int} {w w' w'' : World} (h : HL e N h0 A c ys w w') (hN : N ≤ h0) (hb : Below h0 w' w'') : HL e N h0 A c ys w w'' :=
  ⟨h.own.below hb (Nat.le_refl _), h.bel.trans (hb.mono hN), by have := hb.size; have := h.hs; omega⟩

theorem own_call {N h0 g c j : Nat} {ys : List Int} {w W : World} (h : HL 3 N h0 (some ⟨g, 0, none⟩) c ys w W) (hN : N ≤ h0) (hj : j ≤ ys.length) (hl : ys.length ≤ 4194304) (cc : Nat) :
    Calls Try.prog 38 #[.slice (some ⟨g, 0, none⟩) j cc] W fun e w' => ∃ A1 c1', e = .returned (.slice A1 j c1') ∧ Own w' 3 h0 w'.heap.size 1 A1 j c1' (ints (ys.take j)) ∧ HL 3 N h0 (some ⟨g, 0, none⟩) c ys w w' ∧ Below W.heap.size W w' := by
  have ht : (ys.take j).length = j := by simp; omega
  refine (l1OwnN_any (Rd.take h.own.rd hj) (by omega) h.hs).mono ?_
  rintro e w' ⟨A1, c1', rfl, O1, B1⟩
  refine ⟨A1, c1', by rw [ht], ?_, h.below hN B1, B1⟩
  have := O1.more h.hs (Nat.le_refl _)
  rw [ht] at this
  exact this
theorem ints_app (xs ys : List Int) : ints xs ++ ints ys = ints (xs ++ ys) := by simp [ints]

/-- x put at place j of a sorted list. -/
def putAt (ys : List Int) (j : Nat) (x : Int) : List Int := (ys.take j ++ [x]) ++ ys.drop j
theorem putAt_length (ys : List Int) {j : Nat} (h : j ≤ ys.length) (x : Int) : (putAt ys j x).length = ys.length + 1 := by simp [putAt]; omega
theorem putAt_perm (ys : List Int) (j : Nat) (x : Int) {zs : List Int} (h : ys.Perm zs) : (putAt ys j x).Perm (zs ++ [x]) := by
  unfold putAt
  rw [List.append_assoc]
  refine (List.perm_append_comm_assoc _ _ _).trans ?_
  rw [List.take_append_drop]
  exact List.perm_append_comm.trans (h.append_right _)
theorem putAt_sorted {ys : List Int} {j : Nat} {x : Int} (hs : ys.Pairwise (· ≤ ·)) (h1 : ∀ m v, j ≤ m → ys[m]? = some v → x < v) (h2 : j = 0 ∨ ∃ y, ys[j - 1]? = some y ∧ y ≤ x) : (putAt ys j x).Pairwise (· ≤ ·) := by
  have hlow : ∀ v ∈ ys.take j, v ≤ x := by
    intro v hv
    rcases h2 with rfl | ⟨y, hy, hyx⟩
    · simp at hv
    · obtain ⟨m, hm⟩ := List.getElem?_of_mem hv
      rw [List.getElem?_take] at hm
      split at hm
      · rename_i hmj
        rcases Nat.lt_or_ge m (j - 1) with hlt | hge
        · obtain ⟨k1, e1⟩ := List.getElem?_eq_some_iff.1 hm
          obtain ⟨k2, e2⟩ := List.getElem?_eq_some_iff.1 hy
          have := List.pairwise_iff_getElem.1 hs m (j - 1) k1 k2 hlt
          rw [e1, e2] at this
          omega
        · obtain rfl : m = j - 1 := by omega
          rw [hy] at hm
          injection hm with hm
          omega
      · cases hm
  have hhigh : ∀ v ∈ ys.drop j, x ≤ v := by
    intro v hv
    obtain ⟨m, hm⟩ := List.getElem?_of_mem hv
    rw [List.getElem?_drop] at hm
    have := h1 (j + m) v (by omega) hm
    omega
  have hsplit : (ys.take j ++ ys.drop j).Pairwise (· ≤ ·) := by rw [List.take_append_drop]; exact hs
  rw [List.pairwise_append] at hsplit
  unfold putAt
  rw [List.pairwise_append, List.pairwise_append]
  refine ⟨⟨hsplit.1, by simp, fun a ha b hb => by simp at hb; subst hb; exact hlow a ha⟩, hsplit.2.1, fun a ha b hb => ?_⟩
  rcases List.mem_append.1 ha with ha | ha
  · exact hsplit.2.2 a ha b hb
  · simp at ha
    subst ha
    exact hhigh b hb
theorem sort_unique {ys xs : List Int} (hs : ys.Pairwise (· ≤ ·)) (hp : ys.Perm xs) : ys = sortI xs :=
  List.Perm.eq_of_pairwise (le := fun a b : Int => a ≤ b) (fun a b _ _ h1 h2 => by omega) hs (sortI_sorted xs) (hp.trans (sortI_perm xs).symm)

set_option maxHeartbeats 2000000 in
set_option maxRecDepth 100000 in
theorem l13Sorted_any {A : Option Addr} {c lo hi : Nat} {xs : List Int} {w : World} (hr : RdI w lo hi A xs) (hl : xs.length ≤ 4194304) (hh : hi ≤ w.heap.size) :
    Calls Try.prog 33 #[.slice A xs.length c] w (RetInts (sortI xs) w) := by
  obtain ⟨i0, hi0, hz0, hz1, hz2⟩ := info_parts int_info
  obtain ⟨N, hN⟩ : ∃ N, N = w.heap.size := ⟨_, rfl⟩
  go_enter Try.func33, Try.ntmps33
  go_wp2_with fail
  go_loopw [3, 4] (fun v i wr => ∃ (k : Nat) (ys : List Int) (g c1 : Nat), k ≤ xs.length ∧ i = .int .i64 k ∧ v = .slice (some ⟨g, 0, none⟩) ys.length c1 ∧ ys.length = k ∧ ys.Pairwise (· ≤ ·) ∧ ys.Perm (xs.take k) ∧ HL 3 N wr.heap.size (some ⟨g, 0, none⟩) c1 ys w wr) (fun _ i _ => xs.length - (intOf i).toNat)
  case atStart => exact ⟨0, [], w.heap.size, 0, Nat.zero_le _, rfl, rfl, rfl, .nil, by simp, by rw [hN]; exact ⟨own_empty _ _, below_alloc1 _ _, Nat.le_refl _⟩⟩
  case round =>
    obtain ⟨k, ys, g, c1, hk, rfl, rfl, hyk, hsr, hpm, hhl⟩ := hrel
    have HS := Lib.hid hsr
    have HP := Lib.hid hpm
    have HK := Lib.hid hyk
    obtain ⟨h0, hh0⟩ : ∃ h0, h0 = wr.heap.size := ⟨_, rfl⟩
    rw [← hh0] at hhl
    have hN0 : N ≤ h0 := by rw [hh0, hN]; exact hhl.bel.size
    have hyl : ys.length ≤ 4194304 := by omega
    clear hsr hpm hh0
    by_cases hlt : k < xs.length
    rotate_left
    · go_wp2_with fail
      go_ret
      have HP' := HP.out
      rw [take_all hlt] at HP'
      have e := sort_unique (xs := xs) HS.out HP'
      rw [← e]
      exact ⟨_, c1, rfl, by rw [← hN]; exact hhl.own.more (Nat.le_refl _) hhl.hs, by rw [← hN]; exact hhl.bel⟩
    obtain ⟨b, off, rfl, hb1, hb2, hcs⟩ := hr.2 (by omega)
    obtain ⟨x, hx⟩ : ∃ x, xs[k]? = some x := ⟨_, List.getElem?_eq_getElem hlt⟩
    have HX := Lib.hid hx
    have HC : ∀ wx, Below N w wx → wx.cell? ⟨b, off + k, none⟩ = some (.int .i64 x) := fun wx h => (h.cell (p := ⟨b, off + k, none⟩) (show b < N from by omega)).trans (hcs k _ (by simp [ints, hx]))
    clear hx hcs hyk
    go_wp2_with fail
    go_loopw [5] (fun t wx => ∃ j : Nat, j ≤ ys.length ∧ t = .int .i64 j ∧ (∀ m v, j ≤ m → ys[m]? = some v → x < v) ∧ HL 3 N h0 (some ⟨g, 0, none⟩) c1 ys w wx) (fun t _ => (intOf t).toNat)
    case atStart => exact ⟨ys.length, Nat.le_refl _, rfl, (fun m v hm h => by rw [List.getElem?_eq_none hm] at h; cases h), hhl⟩
    case round =>
      clear hhl
      obtain ⟨j, hj, rfl, hgt, hhl⟩ := hrel
      have HG := Lib.hid hgt
      clear hgt
      have hcx := HC _ hhl.bel
      have q1 : (k : Int) < (xs.length : Int) := by omega
      have q11 : (j : Int) ≤ (ys.length : Int) := by omega
      rcases Nat.eq_zero_or_pos j with hz | hpos
      · have hd : decide (0 < j) = false := by simp; omega
        have HSR := Lib.hid (putAt_sorted HS.out HG.out (.inl hz))
        clear hz
        go_wp2_with fail
        go_quiet (fail)
        go_wp2_with fail
        generalize hwx : wr.drewN _ = wx
        have hl2 : HL 3 N h0 (some ⟨g, 0, none⟩) c1 ys w wx := by rw [← hwx]; exact ⟨hhl.own, below_drewN hhl.bel _, hhl.hs⟩
        have hcx2 := HC _ hl2.bel
        have r1 : j ≤ c1 := by have := hl2.own.cap; omega
        have r2 : j ≤ ys.length := by omega
        have r3 : (j : Int) ≤ (c1 : Int) := by omega
        have r4 : (0 : Int) ≤ (j : Int) := by omega
        have r5 : (ys.length : Int) ≤ (c1 : Int) := by have := hl2.own.cap; omega
        by_cases hc1 : c1 = j
        · clear hwx hcx hhl
          go_region_held3 (fun  w' => w'.cell? ⟨b, off + k, none⟩ = some (.int .i64 x) ∧ HL 3 N h0 (some ⟨g, 0, none⟩) c1 ys w w')
            ((first | exact ⟨HC _ hl2.drew.bel, hl2.drew⟩ | exact ⟨HC _ L3.bel, L3⟩ | exact ⟨HC _ L2.bel, L2⟩ | exact ⟨HC _ L1.bel, L1⟩ | exact ⟨HC _ (HL.alloc L1 hN0 _).bel, HL.alloc L1 hN0 _⟩ | exact ⟨HC _ (HL.alloc hl2.drew hN0 _).bel, HL.alloc hl2.drew hN0 _⟩))
            ((first | (go_at_call 38; refine (own_call (by first | assumption | exact And.right (by assumption)) hN0 r2 hyl _).mono ?_; rintro e w1 ⟨A1, c1', rfl, O1, L1, B1⟩) | (refine step_cat _ (by rfl) (.tmp 34) (.tmp 39) 22 (by rfl) h0 3 i0 (.int .i64 0) 1 8 Try.underlying22 hi0 hz0 hz1 hz2 (by rfl) (by decide) A1 j c1' (ints (ys.take j)) (by rfl) _ (O1.below (below_alloc1 _ _) (Nat.le_refl _)) 0 _ (some ⟨_, 0, none⟩) 1 1 [.int .i64 x] (by rfl) (rd_new _ _ _) (one_int x) (by omega) (by decide) (HL.hs (by first | assumption | exact And.right (by assumption))) ?_; intro A2 c2 w2 O2 b2 s2 k2; have L2 := HL.within (by first | assumption | exact And.right (by assumption)) hN0 (b2 _ (Below.refl _ _))) | (refine step_cat _ (by rfl) (.tmp 34) (.tmp 39) 22 (by rfl) h0 3 i0 (.int .i64 0) 1 8 Try.underlying22 hi0 hz0 hz1 hz2 (by rfl) (by decide) A1 j c1' (ints (ys.take j)) (by rfl) _ O1 0 _ (some ⟨_, 0, none⟩) 1 1 [.int .i64 x] (by rfl) ((rd_newd wx _ _).below B1 (Nat.le_refl _)) (one_int x) (by omega) (by decide) (HL.hs (by first | assumption | exact And.right (by assumption))) ?_; intro A2 c2 w2 O2 b2 s2 k2; have L2 := HL.within (by first | assumption | exact And.right (by assumption)) hN0 (b2 _ (Below.refl _ _))) | (refine step_cat _ (by rfl) (.tmp 40) (.tmp 43) 22 (by rfl) h0 3 i0 (.int .i64 0) 1 8 Try.underlying22 hi0 hz0 hz1 hz2 (by rfl) (by decide) A2 (j + 1) c2 _ (by rfl) _ O2 N h0 (some ⟨g, 0, none⟩) (ys.length - j) 0 (ints (ys.drop j)) (by rfl) (rd_tail0 (HL.own (by first | assumption | exact And.right (by assumption))).rd (by omega)) (ints_one _) (by omega) (by decide) (HL.hs (by first | assumption | exact And.right (by assumption))) ?_; intro A3 c3 w3 O3 b3 s3 k3; have L3 := HL.within (by first | assumption | exact And.right (by assumption)) hN0 (b3 _ (Below.refl _ _)))))
          all_goals
            obtain ⟨zs, hzs⟩ : ∃ zs, zs = putAt ys j x := ⟨_, rfl⟩
            have hzl : j + 1 + (ys.length - j) = zs.length := by rw [hzs, putAt_length ys r2]; omega
            have hze : (ints (ys.take j) ++ [.int .i64 x]) ++ ints (ys.drop j) = ints zs := by rw [hzs]; simp [ints, putAt]
            rw [hze, hzl] at O3
            obtain ⟨g3, rfl, hg3, hg3'⟩ := O3.length_pos (by omega)
            have HR := Lib.hid (show zs.length = k + 1 ∧ zs.Pairwise (· ≤ ·) ∧ zs.Perm (xs.take (k + 1)) from ⟨by rw [hzs, putAt_length ys r2, HK.out], by rw [hzs]; exact HSR.out, by rw [hzs, take_snoc HX.out]; exact putAt_perm ys j x HP.out⟩)
            have hl4 : HL 3 N w3.heap.size (some ⟨g3, 0, none⟩) c3 zs w w3 := ⟨O3.more hN0 (Nat.le_refl _), L3.bel, Nat.le_refl _⟩
            rw [hzl]
            clear hzs hze hzl O1 O2 O3 L1 L2 L3
            go_wp2_with fail
            go_roundw
            case rel => exact ⟨k + 1, zs, g3, c3, by omega, by go_num, rfl, HR.out.1, HR.out.2.1, HR.out.2.2, hl4⟩
            case measure => simp [intOf]; omega
        · clear hwx hcx hhl
          go_region_held3 (fun  w' => w'.cell? ⟨b, off + k, none⟩ = some (.int .i64 x) ∧ HL 3 N h0 (some ⟨g, 0, none⟩) c1 ys w w')
            ((first | exact ⟨HC _ hl2.drew.bel, hl2.drew⟩ | exact ⟨HC _ L3.bel, L3⟩ | exact ⟨HC _ L2.bel, L2⟩ | exact ⟨HC _ L1.bel, L1⟩ | exact ⟨HC _ (HL.alloc L1 hN0 _).bel, HL.alloc L1 hN0 _⟩ | exact ⟨HC _ (HL.alloc hl2.drew hN0 _).bel, HL.alloc hl2.drew hN0 _⟩))
            ((first | (go_at_call 38; refine (own_call (by first | assumption | exact And.right (by assumption)) hN0 r2 hyl _).mono ?_; rintro e w1 ⟨A1, c1', rfl, O1, L1, B1⟩) | (refine step_cat _ (by rfl) (.tmp 34) (.tmp 39) 22 (by rfl) h0 3 i0 (.int .i64 0) 1 8 Try.underlying22 hi0 hz0 hz1 hz2 (by rfl) (by decide) A1 j c1' (ints (ys.take j)) (by rfl) _ (O1.below (below_alloc1 _ _) (Nat.le_refl _)) 0 _ (some ⟨_, 0, none⟩) 1 1 [.int .i64 x] (by rfl) (rd_new _ _ _) (one_int x) (by omega) (by decide) (HL.hs (by first | assumption | exact And.right (by assumption))) ?_; intro A2 c2 w2 O2 b2 s2 k2; have L2 := HL.within (by first | assumption | exact And.right (by assumption)) hN0 (b2 _ (Below.refl _ _))) | (refine step_cat _ (by rfl) (.tmp 34) (.tmp 39) 22 (by rfl) h0 3 i0 (.int .i64 0) 1 8 Try.underlying22 hi0 hz0 hz1 hz2 (by rfl) (by decide) A1 j c1' (ints (ys.take j)) (by rfl) _ O1 0 _ (some ⟨_, 0, none⟩) 1 1 [.int .i64 x] (by rfl) ((rd_newd wx _ _).below B1 (Nat.le_refl _)) (one_int x) (by omega) (by decide) (HL.hs (by first | assumption | exact And.right (by assumption))) ?_; intro A2 c2 w2 O2 b2 s2 k2; have L2 := HL.within (by first | assumption | exact And.right (by assumption)) hN0 (b2 _ (Below.refl _ _))) | (refine step_cat _ (by rfl) (.tmp 40) (.tmp 43) 22 (by rfl) h0 3 i0 (.int .i64 0) 1 8 Try.underlying22 hi0 hz0 hz1 hz2 (by rfl) (by decide) A2 (j + 1) c2 _ (by rfl) _ O2 N h0 (some ⟨g, j, none⟩) (ys.length - j) (c1 - j) (ints (ys.drop j)) (by rfl) (rd_tail (HL.own (by first | assumption | exact And.right (by assumption))).rd r2) (ints_one _) (by omega) (by decide) (HL.hs (by first | assumption | exact And.right (by assumption))) ?_; intro A3 c3 w3 O3 b3 s3 k3; have L3 := HL.within (by first | assumption | exact And.right (by assumption)) hN0 (b3 _ (Below.refl _ _)))))
          all_goals
            obtain ⟨zs, hzs⟩ : ∃ zs, zs = putAt ys j x := ⟨_, rfl⟩
            have hzl : j + 1 + (ys.length - j) = zs.length := by rw [hzs, putAt_length ys r2]; omega
            have hze : (ints (ys.take j) ++ [.int .i64 x]) ++ ints (ys.drop j) = ints zs := by rw [hzs]; simp [ints, putAt]
            rw [hze, hzl] at O3
            obtain ⟨g3, rfl, hg3, hg3'⟩ := O3.length_pos (by omega)
            have HR := Lib.hid (show zs.length = k + 1 ∧ zs.Pairwise (· ≤ ·) ∧ zs.Perm (xs.take (k + 1)) from ⟨by rw [hzs, putAt_length ys r2, HK.out], by rw [hzs]; exact HSR.out, by rw [hzs, take_snoc HX.out]; exact putAt_perm ys j x HP.out⟩)
            have hl4 : HL 3 N w3.heap.size (some ⟨g3, 0, none⟩) c3 zs w w3 := ⟨O3.more hN0 (Nat.le_refl _), L3.bel, Nat.le_refl _⟩
            rw [hzl]
            clear hzs hze hzl O1 O2 O3 L1 L2 L3
            go_wp2_with fail
            go_roundw
            case rel => exact ⟨k + 1, zs, g3, c3, by omega, by go_num, rfl, HR.out.1, HR.out.2.1, HR.out.2.2, hl4⟩
            case measure => simp [intOf]; omega
      · obtain ⟨y, hy⟩ : ∃ y, ys[j - 1]? = some y := ⟨_, List.getElem?_eq_getElem (by omega)⟩
        have hcy : wr.cell? ⟨g, j - 1, none⟩ = some (.int .i64 y) := by
          obtain ⟨g', o', e, _, _, hc⟩ := hhl.own.rd.2 (by omega)
          cases e
          have := hc (j - 1) (.int .i64 y) (by simp [ints, hy])
          rwa [Nat.zero_add] at this
        have HY := Lib.hid hy
        clear hy
        have q2 : (0 : Int) ≤ (j : Int) - 1 := by omega
        have q2b : (1 : Int) ≤ (j : Int) := by omega
        have q0 : (0 : Int) < (j : Int) := by omega
        have q3 : ((j : Int) - 1).toNat = j - 1 := by omega
        have q7 : (j : Int) - 1 < (ys.length : Int) := by omega
        have q4 : IntKind.i64.wrap ((j : Int) - 1) = (j : Int) - 1 := wr64 (by omega) (by omega)
        by_cases hxy : x < y
        · go_wp2_with fail
          go_quiet (fail)
          go_wp2_with fail
          go_roundw
          case rel => exact ⟨j - 1, by omega, by go_num, (fun m v hm h => by rcases Nat.lt_or_ge m j with h1 | h1; (obtain rfl : m = j - 1 := by omega); (rw [HY.out] at h; injection h with h; omega); exact HG.out m v h1 h), ⟨hhl.own, below_drewN hhl.bel _, hhl.hs⟩⟩
          case measure => simp [intOf]; omega
        · have hxy' : y ≤ x := by omega
          clear hxy
          have HSR := Lib.hid (putAt_sorted HS.out HG.out (.inr ⟨y, HY.out, hxy'⟩))
          go_wp2_with fail
          go_quiet (fail)
          go_wp2_with fail
          generalize hwx : wr.drewN _ = wx
          have hl2 : HL 3 N h0 (some ⟨g, 0, none⟩) c1 ys w wx := by rw [← hwx]; exact ⟨hhl.own, below_drewN hhl.bel _, hhl.hs⟩
          have hcx2 := HC _ hl2.bel
          have r1 : j ≤ c1 := by have := hl2.own.cap; omega
          have r2 : j ≤ ys.length := by omega
          have r3 : (j : Int) ≤ (c1 : Int) := by omega
          have r4 : (0 : Int) ≤ (j : Int) := by omega
          have r5 : (ys.length : Int) ≤ (c1 : Int) := by have := hl2.own.cap; omega
          by_cases hc1 : c1 = j
          · clear hwx hcx hhl
            go_region_held3 (fun  w' => w'.cell? ⟨b, off + k, none⟩ = some (.int .i64 x) ∧ HL 3 N h0 (some ⟨g, 0, none⟩) c1 ys w w')
              ((first | exact ⟨HC _ hl2.drew.bel, hl2.drew⟩ | exact ⟨HC _ L3.bel, L3⟩ | exact ⟨HC _ L2.bel, L2⟩ | exact ⟨HC _ L1.bel, L1⟩ | exact ⟨HC _ (HL.alloc L1 hN0 _).bel, HL.alloc L1 hN0 _⟩ | exact ⟨HC _ (HL.alloc hl2.drew hN0 _).bel, HL.alloc hl2.drew hN0 _⟩))
              ((first | (go_at_call 38; refine (own_call (by first | assumption | exact And.right (by assumption)) hN0 r2 hyl _).mono ?_; rintro e w1 ⟨A1, c1', rfl, O1, L1, B1⟩) | (refine step_cat _ (by rfl) (.tmp 34) (.tmp 39) 22 (by rfl) h0 3 i0 (.int .i64 0) 1 8 Try.underlying22 hi0 hz0 hz1 hz2 (by rfl) (by decide) A1 j c1' (ints (ys.take j)) (by rfl) _ (O1.below (below_alloc1 _ _) (Nat.le_refl _)) 0 _ (some ⟨_, 0, none⟩) 1 1 [.int .i64 x] (by rfl) (rd_new _ _ _) (one_int x) (by omega) (by decide) (HL.hs (by first | assumption | exact And.right (by assumption))) ?_; intro A2 c2 w2 O2 b2 s2 k2; have L2 := HL.within (by first | assumption | exact And.right (by assumption)) hN0 (b2 _ (Below.refl _ _))) | (refine step_cat _ (by rfl) (.tmp 34) (.tmp 39) 22 (by rfl) h0 3 i0 (.int .i64 0) 1 8 Try.underlying22 hi0 hz0 hz1 hz2 (by rfl) (by decide) A1 j c1' (ints (ys.take j)) (by rfl) _ O1 0 _ (some ⟨_, 0, none⟩) 1 1 [.int .i64 x] (by rfl) ((rd_newd wx _ _).below B1 (Nat.le_refl _)) (one_int x) (by omega) (by decide) (HL.hs (by first | assumption | exact And.right (by assumption))) ?_; intro A2 c2 w2 O2 b2 s2 k2; have L2 := HL.within (by first | assumption | exact And.right (by assumption)) hN0 (b2 _ (Below.refl _ _))) | (refine step_cat _ (by rfl) (.tmp 40) (.tmp 43) 22 (by rfl) h0 3 i0 (.int .i64 0) 1 8 Try.underlying22 hi0 hz0 hz1 hz2 (by rfl) (by decide) A2 (j + 1) c2 _ (by rfl) _ O2 N h0 (some ⟨g, 0, none⟩) (ys.length - j) 0 (ints (ys.drop j)) (by rfl) (rd_tail0 (HL.own (by first | assumption | exact And.right (by assumption))).rd (by omega)) (ints_one _) (by omega) (by decide) (HL.hs (by first | assumption | exact And.right (by assumption))) ?_; intro A3 c3 w3 O3 b3 s3 k3; have L3 := HL.within (by first | assumption | exact And.right (by assumption)) hN0 (b3 _ (Below.refl _ _)))))
            all_goals
              obtain ⟨zs, hzs⟩ : ∃ zs, zs = putAt ys j x := ⟨_, rfl⟩
              have hzl : j + 1 + (ys.length - j) = zs.length := by rw [hzs, putAt_length ys r2]; omega
              have hze : (ints (ys.take j) ++ [.int .i64 x]) ++ ints (ys.drop j) = ints zs := by rw [hzs]; simp [ints, putAt]
              rw [hze, hzl] at O3
              obtain ⟨g3, rfl, hg3, hg3'⟩ := O3.length_pos (by omega)
              have HR := Lib.hid (show zs.length = k + 1 ∧ zs.Pairwise (· ≤ ·) ∧ zs.Perm (xs.take (k + 1)) from ⟨by rw [hzs, putAt_length ys r2, HK.out], by rw [hzs]; exact HSR.out, by rw [hzs, take_snoc HX.out]; exact putAt_perm ys j x HP.out⟩)
              have hl4 : HL 3 N w3.heap.size (some ⟨g3, 0, none⟩) c3 zs w w3 := ⟨O3.more hN0 (Nat.le_refl _), L3.bel, Nat.le_refl _⟩
              rw [hzl]
              clear hzs hze hzl O1 O2 O3 L1 L2 L3
              go_wp2_with fail
              go_roundw
              case rel => exact ⟨k + 1, zs, g3, c3, by omega, by go_num, rfl, HR.out.1, HR.out.2.1, HR.out.2.2, hl4⟩
              case measure => simp [intOf]; omega
          · clear hwx hcx hhl
            go_region_held3 (fun  w' => w'.cell? ⟨b, off + k, none⟩ = some (.int .i64 x) ∧ HL 3 N h0 (some ⟨g, 0, none⟩) c1 ys w w')
              ((first | exact ⟨HC _ hl2.drew.bel, hl2.drew⟩ | exact ⟨HC _ L3.bel, L3⟩ | exact ⟨HC _ L2.bel, L2⟩ | exact ⟨HC _ L1.bel, L1⟩ | exact ⟨HC _ (HL.alloc L1 hN0 _).bel, HL.alloc L1 hN0 _⟩ | exact ⟨HC _ (HL.alloc hl2.drew hN0 _).bel, HL.alloc hl2.drew hN0 _⟩))
              ((first | (go_at_call 38; refine (own_call (by first | assumption | exact And.right (by assumption)) hN0 r2 hyl _).mono ?_; rintro e w1 ⟨A1, c1', rfl, O1, L1, B1⟩) | (refine step_cat _ (by rfl) (.tmp 34) (.tmp 39) 22 (by rfl) h0 3 i0 (.int .i64 0) 1 8 Try.underlying22 hi0 hz0 hz1 hz2 (by rfl) (by decide) A1 j c1' (ints (ys.take j)) (by rfl) _ (O1.below (below_alloc1 _ _) (Nat.le_refl _)) 0 _ (some ⟨_, 0, none⟩) 1 1 [.int .i64 x] (by rfl) (rd_new _ _ _) (one_int x) (by omega) (by decide) (HL.hs (by first | assumption | exact And.right (by assumption))) ?_; intro A2 c2 w2 O2 b2 s2 k2; have L2 := HL.within (by first | assumption | exact And.right (by assumption)) hN0 (b2 _ (Below.refl _ _))) | (refine step_cat _ (by rfl) (.tmp 34) (.tmp 39) 22 (by rfl) h0 3 i0 (.int .i64 0) 1 8 Try.underlying22 hi0 hz0 hz1 hz2 (by rfl) (by decide) A1 j c1' (ints (ys.take j)) (by rfl) _ O1 0 _ (some ⟨_, 0, none⟩) 1 1 [.int .i64 x] (by rfl) ((rd_newd wx _ _).below B1 (Nat.le_refl _)) (one_int x) (by omega) (by decide) (HL.hs (by first | assumption | exact And.right (by assumption))) ?_; intro A2 c2 w2 O2 b2 s2 k2; have L2 := HL.within (by first | assumption | exact And.right (by assumption)) hN0 (b2 _ (Below.refl _ _))) | (refine step_cat _ (by rfl) (.tmp 40) (.tmp 43) 22 (by rfl) h0 3 i0 (.int .i64 0) 1 8 Try.underlying22 hi0 hz0 hz1 hz2 (by rfl) (by decide) A2 (j + 1) c2 _ (by rfl) _ O2 N h0 (some ⟨g, j, none⟩) (ys.length - j) (c1 - j) (ints (ys.drop j)) (by rfl) (rd_tail (HL.own (by first | assumption | exact And.right (by assumption))).rd r2) (ints_one _) (by omega) (by decide) (HL.hs (by first | assumption | exact And.right (by assumption))) ?_; intro A3 c3 w3 O3 b3 s3 k3; have L3 := HL.within (by first | assumption | exact And.right (by assumption)) hN0 (b3 _ (Below.refl _ _)))))
            all_goals
              obtain ⟨zs, hzs⟩ : ∃ zs, zs = putAt ys j x := ⟨_, rfl⟩
              have hzl : j + 1 + (ys.length - j) = zs.length := by rw [hzs, putAt_length ys r2]; omega
              have hze : (ints (ys.take j) ++ [.int .i64 x]) ++ ints (ys.drop j) = ints zs := by rw [hzs]; simp [ints, putAt]
              rw [hze, hzl] at O3
              obtain ⟨g3, rfl, hg3, hg3'⟩ := O3.length_pos (by omega)
              have HR := Lib.hid (show zs.length = k + 1 ∧ zs.Pairwise (· ≤ ·) ∧ zs.Perm (xs.take (k + 1)) from ⟨by rw [hzs, putAt_length ys r2, HK.out], by rw [hzs]; exact HSR.out, by rw [hzs, take_snoc HX.out]; exact putAt_perm ys j x HP.out⟩)
              have hl4 : HL 3 N w3.heap.size (some ⟨g3, 0, none⟩) c3 zs w w3 := ⟨O3.more hN0 (Nat.le_refl _), L3.bel, Nat.le_refl _⟩
              rw [hzl]
              clear hzs hze hzl O1 O2 O3 L1 L2 L3
              go_wp2_with fail
              go_roundw
              case rel => exact ⟨k + 1, zs, g3, c3, by omega, by go_num, rfl, HR.out.1, HR.out.2.1, HR.out.2.2, hl4⟩
              case measure => simp [intOf]; omega

end Go.Proofs.Ytiaabojkimboiaa
