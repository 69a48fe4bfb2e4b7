/-
  This file proves contracts of the functions that find the spikes of a track; the program's and the reference's return the same two lists.
  Conditions: each contract's own hypotheses (that a slice reads as a list, that it is a track, that the limit is valid).
-/
import Derived.Test.YtchgcpdmomeofaaTrackA
import Derived.Test.YtchgcpdmomeofaaBase2
namespace Go.Proofs.Ytchgcpdmomeofaa
open Go.RowKit
set_option linter.unusedSimpArgs false
set_option linter.unusedVariables false

theorem keep_row {w w' : World} {base : Nat} {e : TypeId} {size n : Nat} {d : Value} {xs : List Value} {U : Option Nat} (h : w.ownsRow base e size d n xs) (hk : ∀ b, b < w.heap.size → U ≠ some b → w'.heap[b]? = w.heap[b]?) (hne : U ≠ d.ownBlock) :
    w'.ownsRow base e size d n xs := by
  have hlt := h.lt
  refine ⟨h.1, ?_⟩
  rcases h.2 with h0 | ⟨g, cap, cur, hv, hg, hh, r⟩
  · exact .inl h0
  · subst hv
    exact .inr ⟨g, cap, cur, rfl, hg, by rw [hk g (hlt g rfl).2 hne]; exact hh, r⟩
theorem push_disj {w : World} {base : Nat} {e : TypeId} {size n : Nat} {d v1 : Value} {xs : List Value} {U : Option Nat} (h : w.ownsRow base e size d n xs) (hne : U ≠ d.ownBlock)
    (hat : v1.ownBlock = U ∨ ∃ g, v1.ownBlock = some g ∧ w.heap.size ≤ g) : v1.ownBlock ≠ d.ownBlock := by
  rcases hat with h1 | ⟨g, h1, h2⟩
  · rw [h1]; exact hne
  · rw [h1]
    intro h3
    have := (h.lt g h3.symm).2
    omega
theorem Own.narrow {w : World} {base : Nat} {e : TypeId} {size n : Nat} {v : Value} {xs : List Value} (h : w.ownsRow base e size v n xs) :
    ∃ A c l k, v = .slice A n c ∧ Own w e l k size A n c xs ∧ base ≤ l ∧ l ≤ k ∧ (l = k ∨ (v.ownBlock = some l ∧ k = l + 1 ∧ l < w.heap.size)) := by
  have hlt := h.lt
  rcases h.2 with ⟨rfl, h0⟩ | ⟨g, cap, cur, rfl, hg, r⟩
  · subst h0
    exact ⟨none, 0, base, base, rfl, ⟨h, fun a ha => by cases ha⟩, Nat.le_refl _, Nat.le_refl _, .inl rfl⟩
  · exact ⟨some ⟨g, 0, none⟩, cap, g, g + 1, rfl, ⟨⟨h.1, .inr ⟨g, cap, cur, rfl, Nat.le_refl _, r⟩⟩, fun a ha => by cases ha; exact Nat.lt_succ_self g⟩, hg, by omega, .inr ⟨rfl, rfl, (hlt g rfl).2⟩⟩

theorem retLL_of {xs ys : List Int} {w w' : World} {u d : Value} (h1 : w'.ownsRow w.heap.size 3 1 u xs.length (ints xs)) (h2 : w'.ownsRow w.heap.size 3 1 d ys.length (ints ys)) (hne : u.ownBlock ≠ d.ownBlock) (hb : Below w.heap.size w w') :
    RetLL xs ys w (.returned (.tuple #[u, d])) w' := by
  obtain ⟨A, c, l1, k1, rfl, o1, a1, a2, a3⟩ := Own.narrow h1
  obtain ⟨B, d', l2, k2, rfl, o2, b1, b2, b3⟩ := Own.narrow h2
  have hs := hb.size
  have hl1 : ∀ l, l = k1 → l ≤ w'.heap.size ∨ True := fun _ _ => .inr trivial
  rcases a3 with rfl | ⟨e1, rfl, z1⟩ <;> rcases b3 with rfl | ⟨e2, rfl, z2⟩
  · exact ⟨A, c, B, d', w.heap.size, w.heap.size, w.heap.size, w.heap.size, rfl, ⟨⟨o1.1.1, by rcases o1.1.2 with h | ⟨g, cap, cur, hv, hg, r⟩; exact .inl h; exact .inr ⟨g, cap, cur, hv, by omega, r⟩⟩, fun a ha => by have := o1.2 a ha; rcases o1.head with ⟨h, _⟩ | ⟨g, h, g1, g2⟩; (rw [h] at ha; cases ha); omega⟩,
      ⟨⟨o2.1.1, by rcases o2.1.2 with h | ⟨g, cap, cur, hv, hg, r⟩; exact .inl h; exact .inr ⟨g, cap, cur, hv, by omega, r⟩⟩, fun a ha => by have := o2.2 a ha; rcases o2.head with ⟨h, _⟩ | ⟨g, h, g1, g2⟩; (rw [h] at ha; cases ha); omega⟩, Nat.le_refl _, Nat.le_refl _, hs, Nat.le_refl _, Nat.le_refl _, hs, .inl (Nat.le_refl _), hb⟩
  · exact ⟨A, c, B, d', w.heap.size, w.heap.size, l2, l2 + 1, rfl, ⟨⟨o1.1.1, by rcases o1.1.2 with h | ⟨g, cap, cur, hv, hg, r⟩; exact .inl h; exact .inr ⟨g, cap, cur, hv, by omega, r⟩⟩, fun a ha => by have := o1.2 a ha; rcases o1.head with ⟨h, _⟩ | ⟨g, h, g1, g2⟩; (rw [h] at ha; cases ha); omega⟩,
      o2, Nat.le_refl _, Nat.le_refl _, hs, b1, by omega, by omega, .inl b1, hb⟩
  · exact ⟨A, c, B, d', l1, l1 + 1, w.heap.size, w.heap.size, rfl, o1, ⟨⟨o2.1.1, by rcases o2.1.2 with h | ⟨g, cap, cur, hv, hg, r⟩; exact .inl h; exact .inr ⟨g, cap, cur, hv, by omega, r⟩⟩, fun a ha => by have := o2.2 a ha; rcases o2.head with ⟨h, _⟩ | ⟨g, h, g1, g2⟩; (rw [h] at ha; cases ha); omega⟩,
      a1, by omega, by omega, Nat.le_refl _, Nat.le_refl _, hs, .inr a1, hb⟩
  · have : l1 ≠ l2 := by rintro rfl; exact hne (e1.trans e2.symm)
    exact ⟨A, c, B, d', l1, l1 + 1, l2, l2 + 1, rfl, o1, o2, a1, by omega, by omega, b1, by omega, by omega, by omega, hb⟩

/-! ### the spikes of a track -/
def pUp (xs : List Int) (lim : Int) (i : Nat) : Bool := decide (1 ≤ i) && (decide (xs.getD i 0 + lim < xs.getD (i - 1) 0) && decide (xs.getD i 0 + lim < xs.getD (i + 1) 0))
def pDown (xs : List Int) (lim : Int) (i : Nat) : Bool := decide (1 ≤ i) && (decide (xs.getD (i - 1) 0 + lim < xs.getD i 0) && decide (xs.getD (i + 1) 0 + lim < xs.getD i 0))
def upOf (xs : List Int) (lim : Int) (k : Nat) : List Int := gath (pUp xs lim) (fun i => (i : Int)) k
def downOf (xs : List Int) (lim : Int) (k : Nat) : List Int := gath (pDown xs lim) (fun i => (i : Int)) k
theorem upOf_le (xs : List Int) (lim : Int) (k : Nat) : (upOf xs lim k).length ≤ k := gath_le _ _ _
theorem downOf_le (xs : List Int) (lim : Int) (k : Nat) : (downOf xs lim k).length ≤ k := gath_le _ _ _
theorem upOf_one (xs : List Int) (lim : Int) : upOf xs lim 1 = [] := by
  unfold upOf
  rw [gath_no (by simp [pUp])]
  rfl
theorem downOf_one (xs : List Int) (lim : Int) : downOf xs lim 1 = [] := by
  unfold downOf
  rw [gath_no (by simp [pDown])]
  rfl
theorem upOf_yes {xs : List Int} {lim a b c : Int} {k : Nat} (hk : 1 ≤ k) (ha : xs[k - 1]? = some a) (hb : xs[k]? = some b) (hc : xs[k + 1]? = some c) (h1 : b + lim < a) (h2 : b + lim < c) : upOf xs lim (k + 1) = upOf xs lim k ++ [(k : Int)] :=
  gath_yes (by unfold pUp; rw [getD_of ha, getD_of hb, getD_of hc]; simp; omega) rfl
theorem upOf_no {xs : List Int} {lim a b c : Int} {k : Nat} (ha : xs[k - 1]? = some a) (hb : xs[k]? = some b) (hc : xs[k + 1]? = some c) (h : ¬ (b + lim < a ∧ b + lim < c)) : upOf xs lim (k + 1) = upOf xs lim k :=
  gath_no (by unfold pUp; rw [getD_of ha, getD_of hb, getD_of hc]; simp; omega)
theorem downOf_yes {xs : List Int} {lim a b c : Int} {k : Nat} (hk : 1 ≤ k) (ha : xs[k - 1]? = some a) (hb : xs[k]? = some b) (hc : xs[k + 1]? = some c) (h1 : a + lim < b) (h2 : c + lim < b) : downOf xs lim (k + 1) = downOf xs lim k ++ [(k : Int)] :=
  gath_yes (by unfold pDown; rw [getD_of ha, getD_of hb, getD_of hc]; simp; omega) rfl
theorem downOf_no {xs : List Int} {lim a b c : Int} {k : Nat} (ha : xs[k - 1]? = some a) (hb : xs[k]? = some b) (hc : xs[k + 1]? = some c) (h : ¬ (a + lim < b ∧ c + lim < b)) : downOf xs lim (k + 1) = downOf xs lim k :=
  gath_no (by unfold pDown; rw [getD_of ha, getD_of hb, getD_of hc]; simp; omega)
theorem start_two (w : World) (e : TypeId) : ((w.alloc (.cells #[] e)).alloc (.cells #[] e)).ownsRow w.heap.size e 1 (.slice (some ⟨w.heap.size, 0, none⟩) 0 0) 0 [] ∧
    ((w.alloc (.cells #[] e)).alloc (.cells #[] e)).ownsRow w.heap.size e 1 (.slice (some ⟨w.heap.size + 1, 0, none⟩) 0 0) 0 [] ∧ Below w.heap.size w ((w.alloc (.cells #[] e)).alloc (.cells #[] e)) := by
  refine ⟨(row_empty w e 1).alloc _, ?_, (below_alloc1 w _).alloc (by simp) _⟩
  have := World.ownsRow_made (w.alloc (.cells #[] e)) (base := w.heap.size) (e := e) (size := 1) #[] 0 (by simp) (by unfold maxLen; omega) (by simp)
  simpa using this

set_option maxHeartbeats 8000000 in
theorem spikesIn_any {A : Option Addr} {c lo hi : Nat} {xs : List Int} {lim : Int} {w : World} (hr : RdI w lo hi A xs) (hh : hi ≤ w.heap.size) (h1 : isTrk xs = true) (h2 : inR lim 1 5000 = true) :
    Calls Try.prog 41 #[.slice A xs.length c, .int .i64 lim] w (RetLL (upOf xs lim (xs.length - 1)) (downOf xs lim (xs.length - 1)) w) := by
  obtain ⟨i0, hi0, hz0, hz1, hz2⟩ := info_parts int_info
  obtain ⟨hall, hn3, hn30⟩ := isTrk_all h1
  have HD := Lib.hid hall
  obtain ⟨hl1, hl2⟩ := inR_true.1 h2
  clear hall h1 h2
  go_enter Try.func41, Try.ntmps41
  go_wp2_with fail
  go_loopw [6, 7, 8] (fun u d i wr => ∃ k : Nat, 1 ≤ k ∧ k + 1 ≤ xs.length ∧ i = .int .i64 k ∧ wr.ownsRow w.heap.size 3 1 u (upOf xs lim k).length (ints (upOf xs lim k)) ∧ wr.ownsRow w.heap.size 3 1 d (downOf xs lim k).length (ints (downOf xs lim k)) ∧ u.ownBlock ≠ d.ownBlock ∧ Below w.heap.size w wr) (fun _ _ i _ => xs.length - (intOf i).toNat)
  case atStart => exact ⟨1, Nat.le_refl _, by omega, rfl, by rw [upOf_one]; exact (start_two _ _).1, by rw [downOf_one]; exact (start_two _ _).2.1, by simp [Value.ownBlock], (start_two _ _).2.2⟩
  case round =>
    obtain ⟨k, hk1, hk, rfl, hou, hod, hne, hb⟩ := hrel
    have hul := upOf_le xs lim k
    have hdl := downOf_le xs lim k
    have HNE := Lib.hid hne
    clear hne
    by_cases hlt : k + 1 < xs.length
    rotate_left
    · obtain rfl : k = xs.length - 1 := by omega
      have q0 : ¬ ((xs.length - 1 : Nat) : Int) + 1 < (xs.length : Int) := by omega
      go_wp2_with fail
      go_ret2
      exact retLL_of hou hod HNE.out hb
    · obtain ⟨ba, off, hA, hblk, hcells⟩ := hr.rowi (show 0 < xs.length by omega)
      subst hA
      have hblk' : ba < w.heap.size := by omega
      obtain ⟨a, ha⟩ : ∃ a, xs[k - 1]? = some a := ⟨_, List.getElem?_eq_getElem (by omega)⟩
      obtain ⟨b, hbb⟩ : ∃ b, xs[k]? = some b := ⟨_, List.getElem?_eq_getElem (by omega)⟩
      obtain ⟨c2, hc⟩ : ∃ c2, xs[k + 1]? = some c2 := ⟨_, List.getElem?_eq_getElem (by omega)⟩
      have b1 := allDepth_get HD.out ha
      have b2 := allDepth_get HD.out hbb
      have b3 := allDepth_get HD.out hc
      have CA := Lib.hid (hcells _ _ ha)
      have CB := Lib.hid (hcells _ _ hbb)
      have CC := Lib.hid (hcells _ _ hc)
      have HA := Lib.hid ha
      have HB := Lib.hid hbb
      have HC := Lib.hid hc
      clear ha hbb hc hcells
      have q1 : (k : Int) < (xs.length : Int) := by omega
      have q2 : (0 : Int) ≤ (k : Int) - 1 := by omega
      have q7 : (k : Int) - 1 < (xs.length : Int) := by omega
      have q8 : (k : Int) + 1 < (xs.length : Int) := by omega
      have Q3 := Lib.hid (show ((k : Int) - 1).toNat = k - 1 by omega)
      have Q9 := Lib.hid (show ((k : Int) + 1).toNat = k + 1 by omega)
      have Q4 := Lib.hid (show IntKind.i64.wrap ((k : Int) - 1) = (k : Int) - 1 from wr64 (by omega) (by omega))
      have Q5 := Lib.hid (show IntKind.i64.wrap ((k : Int) + 1) = (k : Int) + 1 from wr64 (by omega) (by omega))
      have W0 := Lib.hid (show IntKind.i64.wrap (a - b) = a - b from wr64 (by omega) (by omega))
      have W1 := Lib.hid (show IntKind.i64.wrap (c2 - b) = c2 - b from wr64 (by omega) (by omega))
      have W2 := Lib.hid (show IntKind.i64.wrap (b - a) = b - a from wr64 (by omega) (by omega))
      have W3 := Lib.hid (show IntKind.i64.wrap (b - c2) = b - c2 from wr64 (by omega) (by omega))
      rcases Int.lt_trichotomy a c2 with hac | hac | hac
      · have hac' : ¬ c2 < a := by omega
        by_cases hup : lim < a - b
        · have hdn : b - c2 ≤ lim := by omega
          have HU := Lib.hid (upOf_yes (lim := lim) hk1 HA.out HB.out HC.out (by omega) (by omega))
          have HW := Lib.hid (downOf_no (lim := lim) HA.out HB.out HC.out (by omega))
          have hca := (hb.cell (p := ⟨ba, off + (k - 1), none⟩) hblk').trans CA.out
          have hcb := (hb.cell (p := ⟨ba, off + k, none⟩) hblk').trans CB.out
          have hcc := (hb.cell (p := ⟨ba, off + (k + 1), none⟩) hblk').trans CC.out
          have t1 : lim < a - b := by omega
          have q3 := Q3.out
          have q9 := Q9.out
          have q4 := Q4.out
          have q5 := Q5.out
          have r0 := W0.out
          have r1 := W1.out
          have r2 := W2.out
          have r3 := W3.out
          go_wp2_with fail
          go_quiet (fail)
          generalize hwx : World.drewN wr _ = wx
          have hou2 := own_eq hwx hou
          have hod2 := own_eq hwx hod
          have hb2 := below_eq hwx hb
          clear hwx hou hod hb hca hcb hcc q3 q9 q4 q5 r0 r1 r2 r3
          have hou := hou2
          have hod := hod2
          have hb := hb2
          clear hou2 hod2 hb2
          go_wp2_with (at_builtin; refine wpList_push _ rfl _ _ 24 rfl w.heap.size 3 i0 (.int .i64 0) 1 8 Try.underlying24 hi0 hz0 hz1 hz2 rfl (by decide) _ _ _ rfl hou [.int .i64 ↑k] rfl (one_int _) rfl (by omega) (by decide) hb.size ?_; intro v1 w1 hown1 hb1 hs1 hat1 hk1)
          have hod2 := keep_row hod hk1 HNE.out
          have hne2 := push_disj hod HNE.out hat1
          have hb2 := hb1 _ hb
          have hou2 := push_rel HU.out hown1
          clear hou hod hb hb1 hk1 hat1 hown1 HNE hs1
          have hou := hou2
          have hod := hod2
          have hb := hb2
          have HNE := Lib.hid hne2
          clear hou2 hod2 hb2 hne2
          have hca := (hb.cell (p := ⟨ba, off + (k - 1), none⟩) hblk').trans CA.out
          have hcb := (hb.cell (p := ⟨ba, off + k, none⟩) hblk').trans CB.out
          have hcc := (hb.cell (p := ⟨ba, off + (k + 1), none⟩) hblk').trans CC.out
          have t2 : b - c2 ≤ lim := by omega
          have q3 := Q3.out
          have q9 := Q9.out
          have q4 := Q4.out
          have q5 := Q5.out
          have r0 := W0.out
          have r1 := W1.out
          have r2 := W2.out
          have r3 := W3.out
          go_wp2_with fail
          go_quiet (fail)
          generalize hwx : World.drewN w1 _ = wx
          have hou2 := own_eq hwx hou
          have hod2 := own_eq hwx hod
          have hb2 := below_eq hwx hb
          clear hwx hou hod hb hca hcb hcc q3 q9 q4 q5 r0 r1 r2 r3
          have hou := hou2
          have hod := hod2
          have hb := hb2
          clear hou2 hod2 hb2
          go_wp2_with fail
          go_roundw
          case rel => exact ⟨k + 1, by omega, by omega, by go_num, hou, by rw [HW.out]; exact hod, HNE.out, hb⟩
          case measure => simp [intOf]; omega
        have hup' : a - b ≤ lim := by omega
        clear hup
        by_cases hdn : lim < b - c2
        · skip
          have HU := Lib.hid (upOf_no (lim := lim) HA.out HB.out HC.out (by omega))
          have HW := Lib.hid (downOf_yes (lim := lim) hk1 HA.out HB.out HC.out (by omega) (by omega))
          have hca := (hb.cell (p := ⟨ba, off + (k - 1), none⟩) hblk').trans CA.out
          have hcb := (hb.cell (p := ⟨ba, off + k, none⟩) hblk').trans CB.out
          have hcc := (hb.cell (p := ⟨ba, off + (k + 1), none⟩) hblk').trans CC.out
          have t1 : a - b ≤ lim := by omega
          have q3 := Q3.out
          have q9 := Q9.out
          have q4 := Q4.out
          have q5 := Q5.out
          have r0 := W0.out
          have r1 := W1.out
          have r2 := W2.out
          have r3 := W3.out
          go_wp2_with fail
          go_quiet (fail)
          generalize hwx : World.drewN wr _ = wx
          have hou2 := own_eq hwx hou
          have hod2 := own_eq hwx hod
          have hb2 := below_eq hwx hb
          clear hwx hou hod hb hca hcb hcc q3 q9 q4 q5 r0 r1 r2 r3
          have hou := hou2
          have hod := hod2
          have hb := hb2
          clear hou2 hod2 hb2
          have hca := (hb.cell (p := ⟨ba, off + (k - 1), none⟩) hblk').trans CA.out
          have hcb := (hb.cell (p := ⟨ba, off + k, none⟩) hblk').trans CB.out
          have hcc := (hb.cell (p := ⟨ba, off + (k + 1), none⟩) hblk').trans CC.out
          have t2 : lim < b - c2 := by omega
          have q3 := Q3.out
          have q9 := Q9.out
          have q4 := Q4.out
          have q5 := Q5.out
          have r0 := W0.out
          have r1 := W1.out
          have r2 := W2.out
          have r3 := W3.out
          go_wp2_with fail
          go_quiet (fail)
          generalize hwx : World.drewN wx _ = wx
          have hou2 := own_eq hwx hou
          have hod2 := own_eq hwx hod
          have hb2 := below_eq hwx hb
          clear hwx hou hod hb hca hcb hcc q3 q9 q4 q5 r0 r1 r2 r3
          have hou := hou2
          have hod := hod2
          have hb := hb2
          clear hou2 hod2 hb2
          go_wp2_with (at_builtin; refine wpList_push _ rfl _ _ 24 rfl w.heap.size 3 i0 (.int .i64 0) 1 8 Try.underlying24 hi0 hz0 hz1 hz2 rfl (by decide) _ _ _ rfl hod [.int .i64 ↑k] rfl (one_int _) rfl (by omega) (by decide) hb.size ?_; intro v1 w1 hown1 hb1 hs1 hat1 hk1)
          have hou2 := keep_row hou hk1 (fun e => HNE.out e.symm)
          have hne2 := push_disj hou (fun e => HNE.out e.symm) hat1
          go_roundw
          case rel => exact ⟨k + 1, by omega, by omega, by go_num, by rw [HU.out]; exact hou2, push_rel HW.out hown1, fun e => hne2 e.symm, hb1 _ hb⟩
          case measure => simp [intOf]; omega
        have hdn' : b - c2 ≤ lim := by omega
        clear hdn
        have HU := Lib.hid (upOf_no (lim := lim) HA.out HB.out HC.out (by omega))
        have HW := Lib.hid (downOf_no (lim := lim) HA.out HB.out HC.out (by omega))
        have hca := (hb.cell (p := ⟨ba, off + (k - 1), none⟩) hblk').trans CA.out
        have hcb := (hb.cell (p := ⟨ba, off + k, none⟩) hblk').trans CB.out
        have hcc := (hb.cell (p := ⟨ba, off + (k + 1), none⟩) hblk').trans CC.out
        have t1 : a - b ≤ lim := by omega
        have q3 := Q3.out
        have q9 := Q9.out
        have q4 := Q4.out
        have q5 := Q5.out
        have r0 := W0.out
        have r1 := W1.out
        have r2 := W2.out
        have r3 := W3.out
        go_wp2_with fail
        go_quiet (fail)
        generalize hwx : World.drewN wr _ = wx
        have hou2 := own_eq hwx hou
        have hod2 := own_eq hwx hod
        have hb2 := below_eq hwx hb
        clear hwx hou hod hb hca hcb hcc q3 q9 q4 q5 r0 r1 r2 r3
        have hou := hou2
        have hod := hod2
        have hb := hb2
        clear hou2 hod2 hb2
        have hca := (hb.cell (p := ⟨ba, off + (k - 1), none⟩) hblk').trans CA.out
        have hcb := (hb.cell (p := ⟨ba, off + k, none⟩) hblk').trans CB.out
        have hcc := (hb.cell (p := ⟨ba, off + (k + 1), none⟩) hblk').trans CC.out
        have t2 : b - c2 ≤ lim := by omega
        have q3 := Q3.out
        have q9 := Q9.out
        have q4 := Q4.out
        have q5 := Q5.out
        have r0 := W0.out
        have r1 := W1.out
        have r2 := W2.out
        have r3 := W3.out
        go_wp2_with fail
        go_quiet (fail)
        generalize hwx : World.drewN wx _ = wx
        have hou2 := own_eq hwx hou
        have hod2 := own_eq hwx hod
        have hb2 := below_eq hwx hb
        clear hwx hou hod hb hca hcb hcc q3 q9 q4 q5 r0 r1 r2 r3
        have hou := hou2
        have hod := hod2
        have hb := hb2
        clear hou2 hod2 hb2
        go_wp2_with fail
        go_roundw
        case rel => exact ⟨k + 1, by omega, by omega, by go_num, by rw [HU.out]; exact hou, by rw [HW.out]; exact hod, HNE.out, hb⟩
        case measure => simp [intOf]; omega
      · subst hac
        by_cases hup : lim < a - b
        · have hdn : b - a ≤ lim := by omega
          have HU := Lib.hid (upOf_yes (lim := lim) hk1 HA.out HB.out HC.out (by omega) (by omega))
          have HW := Lib.hid (downOf_no (lim := lim) HA.out HB.out HC.out (by omega))
          have hca := (hb.cell (p := ⟨ba, off + (k - 1), none⟩) hblk').trans CA.out
          have hcb := (hb.cell (p := ⟨ba, off + k, none⟩) hblk').trans CB.out
          have hcc := (hb.cell (p := ⟨ba, off + (k + 1), none⟩) hblk').trans CC.out
          have t1 : lim < a - b := by omega
          have q3 := Q3.out
          have q9 := Q9.out
          have q4 := Q4.out
          have q5 := Q5.out
          have r0 := W0.out
          have r1 := W1.out
          have r2 := W2.out
          have r3 := W3.out
          go_wp2_with fail
          go_quiet (fail)
          generalize hwx : World.drewN wr _ = wx
          have hou2 := own_eq hwx hou
          have hod2 := own_eq hwx hod
          have hb2 := below_eq hwx hb
          clear hwx hou hod hb hca hcb hcc q3 q9 q4 q5 r0 r1 r2 r3
          have hou := hou2
          have hod := hod2
          have hb := hb2
          clear hou2 hod2 hb2
          go_wp2_with (at_builtin; refine wpList_push _ rfl _ _ 24 rfl w.heap.size 3 i0 (.int .i64 0) 1 8 Try.underlying24 hi0 hz0 hz1 hz2 rfl (by decide) _ _ _ rfl hou [.int .i64 ↑k] rfl (one_int _) rfl (by omega) (by decide) hb.size ?_; intro v1 w1 hown1 hb1 hs1 hat1 hk1)
          have hod2 := keep_row hod hk1 HNE.out
          have hne2 := push_disj hod HNE.out hat1
          have hb2 := hb1 _ hb
          have hou2 := push_rel HU.out hown1
          clear hou hod hb hb1 hk1 hat1 hown1 HNE hs1
          have hou := hou2
          have hod := hod2
          have hb := hb2
          have HNE := Lib.hid hne2
          clear hou2 hod2 hb2 hne2
          have hca := (hb.cell (p := ⟨ba, off + (k - 1), none⟩) hblk').trans CA.out
          have hcb := (hb.cell (p := ⟨ba, off + k, none⟩) hblk').trans CB.out
          have hcc := (hb.cell (p := ⟨ba, off + (k + 1), none⟩) hblk').trans CC.out
          have t2 : b - a ≤ lim := by omega
          have q3 := Q3.out
          have q9 := Q9.out
          have q4 := Q4.out
          have q5 := Q5.out
          have r0 := W0.out
          have r1 := W1.out
          have r2 := W2.out
          have r3 := W3.out
          go_wp2_with fail
          go_quiet (fail)
          generalize hwx : World.drewN w1 _ = wx
          have hou2 := own_eq hwx hou
          have hod2 := own_eq hwx hod
          have hb2 := below_eq hwx hb
          clear hwx hou hod hb hca hcb hcc q3 q9 q4 q5 r0 r1 r2 r3
          have hou := hou2
          have hod := hod2
          have hb := hb2
          clear hou2 hod2 hb2
          go_wp2_with fail
          go_roundw
          case rel => exact ⟨k + 1, by omega, by omega, by go_num, hou, by rw [HW.out]; exact hod, HNE.out, hb⟩
          case measure => simp [intOf]; omega
        have hup' : a - b ≤ lim := by omega
        clear hup
        by_cases hdn : lim < b - a
        · skip
          have HU := Lib.hid (upOf_no (lim := lim) HA.out HB.out HC.out (by omega))
          have HW := Lib.hid (downOf_yes (lim := lim) hk1 HA.out HB.out HC.out (by omega) (by omega))
          have hca := (hb.cell (p := ⟨ba, off + (k - 1), none⟩) hblk').trans CA.out
          have hcb := (hb.cell (p := ⟨ba, off + k, none⟩) hblk').trans CB.out
          have hcc := (hb.cell (p := ⟨ba, off + (k + 1), none⟩) hblk').trans CC.out
          have t1 : a - b ≤ lim := by omega
          have q3 := Q3.out
          have q9 := Q9.out
          have q4 := Q4.out
          have q5 := Q5.out
          have r0 := W0.out
          have r1 := W1.out
          have r2 := W2.out
          have r3 := W3.out
          go_wp2_with fail
          go_quiet (fail)
          generalize hwx : World.drewN wr _ = wx
          have hou2 := own_eq hwx hou
          have hod2 := own_eq hwx hod
          have hb2 := below_eq hwx hb
          clear hwx hou hod hb hca hcb hcc q3 q9 q4 q5 r0 r1 r2 r3
          have hou := hou2
          have hod := hod2
          have hb := hb2
          clear hou2 hod2 hb2
          have hca := (hb.cell (p := ⟨ba, off + (k - 1), none⟩) hblk').trans CA.out
          have hcb := (hb.cell (p := ⟨ba, off + k, none⟩) hblk').trans CB.out
          have hcc := (hb.cell (p := ⟨ba, off + (k + 1), none⟩) hblk').trans CC.out
          have t2 : lim < b - a := by omega
          have q3 := Q3.out
          have q9 := Q9.out
          have q4 := Q4.out
          have q5 := Q5.out
          have r0 := W0.out
          have r1 := W1.out
          have r2 := W2.out
          have r3 := W3.out
          go_wp2_with fail
          go_quiet (fail)
          generalize hwx : World.drewN wx _ = wx
          have hou2 := own_eq hwx hou
          have hod2 := own_eq hwx hod
          have hb2 := below_eq hwx hb
          clear hwx hou hod hb hca hcb hcc q3 q9 q4 q5 r0 r1 r2 r3
          have hou := hou2
          have hod := hod2
          have hb := hb2
          clear hou2 hod2 hb2
          go_wp2_with (at_builtin; refine wpList_push _ rfl _ _ 24 rfl w.heap.size 3 i0 (.int .i64 0) 1 8 Try.underlying24 hi0 hz0 hz1 hz2 rfl (by decide) _ _ _ rfl hod [.int .i64 ↑k] rfl (one_int _) rfl (by omega) (by decide) hb.size ?_; intro v1 w1 hown1 hb1 hs1 hat1 hk1)
          have hou2 := keep_row hou hk1 (fun e => HNE.out e.symm)
          have hne2 := push_disj hou (fun e => HNE.out e.symm) hat1
          go_roundw
          case rel => exact ⟨k + 1, by omega, by omega, by go_num, by rw [HU.out]; exact hou2, push_rel HW.out hown1, fun e => hne2 e.symm, hb1 _ hb⟩
          case measure => simp [intOf]; omega
        have hdn' : b - a ≤ lim := by omega
        clear hdn
        have HU := Lib.hid (upOf_no (lim := lim) HA.out HB.out HC.out (by omega))
        have HW := Lib.hid (downOf_no (lim := lim) HA.out HB.out HC.out (by omega))
        have hca := (hb.cell (p := ⟨ba, off + (k - 1), none⟩) hblk').trans CA.out
        have hcb := (hb.cell (p := ⟨ba, off + k, none⟩) hblk').trans CB.out
        have hcc := (hb.cell (p := ⟨ba, off + (k + 1), none⟩) hblk').trans CC.out
        have t1 : a - b ≤ lim := by omega
        have q3 := Q3.out
        have q9 := Q9.out
        have q4 := Q4.out
        have q5 := Q5.out
        have r0 := W0.out
        have r1 := W1.out
        have r2 := W2.out
        have r3 := W3.out
        go_wp2_with fail
        go_quiet (fail)
        generalize hwx : World.drewN wr _ = wx
        have hou2 := own_eq hwx hou
        have hod2 := own_eq hwx hod
        have hb2 := below_eq hwx hb
        clear hwx hou hod hb hca hcb hcc q3 q9 q4 q5 r0 r1 r2 r3
        have hou := hou2
        have hod := hod2
        have hb := hb2
        clear hou2 hod2 hb2
        have hca := (hb.cell (p := ⟨ba, off + (k - 1), none⟩) hblk').trans CA.out
        have hcb := (hb.cell (p := ⟨ba, off + k, none⟩) hblk').trans CB.out
        have hcc := (hb.cell (p := ⟨ba, off + (k + 1), none⟩) hblk').trans CC.out
        have t2 : b - a ≤ lim := by omega
        have q3 := Q3.out
        have q9 := Q9.out
        have q4 := Q4.out
        have q5 := Q5.out
        have r0 := W0.out
        have r1 := W1.out
        have r2 := W2.out
        have r3 := W3.out
        go_wp2_with fail
        go_quiet (fail)
        generalize hwx : World.drewN wx _ = wx
        have hou2 := own_eq hwx hou
        have hod2 := own_eq hwx hod
        have hb2 := below_eq hwx hb
        clear hwx hou hod hb hca hcb hcc q3 q9 q4 q5 r0 r1 r2 r3
        have hou := hou2
        have hod := hod2
        have hb := hb2
        clear hou2 hod2 hb2
        go_wp2_with fail
        go_roundw
        case rel => exact ⟨k + 1, by omega, by omega, by go_num, by rw [HU.out]; exact hou, by rw [HW.out]; exact hod, HNE.out, hb⟩
        case measure => simp [intOf]; omega
      · have hac' : ¬ a < c2 := by omega
        by_cases hup : lim < c2 - b
        · have hdn : b - a ≤ lim := by omega
          have HU := Lib.hid (upOf_yes (lim := lim) hk1 HA.out HB.out HC.out (by omega) (by omega))
          have HW := Lib.hid (downOf_no (lim := lim) HA.out HB.out HC.out (by omega))
          have hca := (hb.cell (p := ⟨ba, off + (k - 1), none⟩) hblk').trans CA.out
          have hcb := (hb.cell (p := ⟨ba, off + k, none⟩) hblk').trans CB.out
          have hcc := (hb.cell (p := ⟨ba, off + (k + 1), none⟩) hblk').trans CC.out
          have t1 : lim < c2 - b := by omega
          have q3 := Q3.out
          have q9 := Q9.out
          have q4 := Q4.out
          have q5 := Q5.out
          have r0 := W0.out
          have r1 := W1.out
          have r2 := W2.out
          have r3 := W3.out
          go_wp2_with fail
          go_quiet (fail)
          generalize hwx : World.drewN wr _ = wx
          have hou2 := own_eq hwx hou
          have hod2 := own_eq hwx hod
          have hb2 := below_eq hwx hb
          clear hwx hou hod hb hca hcb hcc q3 q9 q4 q5 r0 r1 r2 r3
          have hou := hou2
          have hod := hod2
          have hb := hb2
          clear hou2 hod2 hb2
          go_wp2_with (at_builtin; refine wpList_push _ rfl _ _ 24 rfl w.heap.size 3 i0 (.int .i64 0) 1 8 Try.underlying24 hi0 hz0 hz1 hz2 rfl (by decide) _ _ _ rfl hou [.int .i64 ↑k] rfl (one_int _) rfl (by omega) (by decide) hb.size ?_; intro v1 w1 hown1 hb1 hs1 hat1 hk1)
          have hod2 := keep_row hod hk1 HNE.out
          have hne2 := push_disj hod HNE.out hat1
          have hb2 := hb1 _ hb
          have hou2 := push_rel HU.out hown1
          clear hou hod hb hb1 hk1 hat1 hown1 HNE hs1
          have hou := hou2
          have hod := hod2
          have hb := hb2
          have HNE := Lib.hid hne2
          clear hou2 hod2 hb2 hne2
          have hca := (hb.cell (p := ⟨ba, off + (k - 1), none⟩) hblk').trans CA.out
          have hcb := (hb.cell (p := ⟨ba, off + k, none⟩) hblk').trans CB.out
          have hcc := (hb.cell (p := ⟨ba, off + (k + 1), none⟩) hblk').trans CC.out
          have t2 : b - a ≤ lim := by omega
          have q3 := Q3.out
          have q9 := Q9.out
          have q4 := Q4.out
          have q5 := Q5.out
          have r0 := W0.out
          have r1 := W1.out
          have r2 := W2.out
          have r3 := W3.out
          go_wp2_with fail
          go_quiet (fail)
          generalize hwx : World.drewN w1 _ = wx
          have hou2 := own_eq hwx hou
          have hod2 := own_eq hwx hod
          have hb2 := below_eq hwx hb
          clear hwx hou hod hb hca hcb hcc q3 q9 q4 q5 r0 r1 r2 r3
          have hou := hou2
          have hod := hod2
          have hb := hb2
          clear hou2 hod2 hb2
          go_wp2_with fail
          go_roundw
          case rel => exact ⟨k + 1, by omega, by omega, by go_num, hou, by rw [HW.out]; exact hod, HNE.out, hb⟩
          case measure => simp [intOf]; omega
        have hup' : c2 - b ≤ lim := by omega
        clear hup
        by_cases hdn : lim < b - a
        · skip
          have HU := Lib.hid (upOf_no (lim := lim) HA.out HB.out HC.out (by omega))
          have HW := Lib.hid (downOf_yes (lim := lim) hk1 HA.out HB.out HC.out (by omega) (by omega))
          have hca := (hb.cell (p := ⟨ba, off + (k - 1), none⟩) hblk').trans CA.out
          have hcb := (hb.cell (p := ⟨ba, off + k, none⟩) hblk').trans CB.out
          have hcc := (hb.cell (p := ⟨ba, off + (k + 1), none⟩) hblk').trans CC.out
          have t1 : c2 - b ≤ lim := by omega
          have q3 := Q3.out
          have q9 := Q9.out
          have q4 := Q4.out
          have q5 := Q5.out
          have r0 := W0.out
          have r1 := W1.out
          have r2 := W2.out
          have r3 := W3.out
          go_wp2_with fail
          go_quiet (fail)
          generalize hwx : World.drewN wr _ = wx
          have hou2 := own_eq hwx hou
          have hod2 := own_eq hwx hod
          have hb2 := below_eq hwx hb
          clear hwx hou hod hb hca hcb hcc q3 q9 q4 q5 r0 r1 r2 r3
          have hou := hou2
          have hod := hod2
          have hb := hb2
          clear hou2 hod2 hb2
          have hca := (hb.cell (p := ⟨ba, off + (k - 1), none⟩) hblk').trans CA.out
          have hcb := (hb.cell (p := ⟨ba, off + k, none⟩) hblk').trans CB.out
          have hcc := (hb.cell (p := ⟨ba, off + (k + 1), none⟩) hblk').trans CC.out
          have t2 : lim < b - a := by omega
          have q3 := Q3.out
          have q9 := Q9.out
          have q4 := Q4.out
          have q5 := Q5.out
          have r0 := W0.out
          have r1 := W1.out
          have r2 := W2.out
          have r3 := W3.out
          go_wp2_with fail
          go_quiet (fail)
          generalize hwx : World.drewN wx _ = wx
          have hou2 := own_eq hwx hou
          have hod2 := own_eq hwx hod
          have hb2 := below_eq hwx hb
          clear hwx hou hod hb hca hcb hcc q3 q9 q4 q5 r0 r1 r2 r3
          have hou := hou2
          have hod := hod2
          have hb := hb2
          clear hou2 hod2 hb2
          go_wp2_with (at_builtin; refine wpList_push _ rfl _ _ 24 rfl w.heap.size 3 i0 (.int .i64 0) 1 8 Try.underlying24 hi0 hz0 hz1 hz2 rfl (by decide) _ _ _ rfl hod [.int .i64 ↑k] rfl (one_int _) rfl (by omega) (by decide) hb.size ?_; intro v1 w1 hown1 hb1 hs1 hat1 hk1)
          have hou2 := keep_row hou hk1 (fun e => HNE.out e.symm)
          have hne2 := push_disj hou (fun e => HNE.out e.symm) hat1
          go_roundw
          case rel => exact ⟨k + 1, by omega, by omega, by go_num, by rw [HU.out]; exact hou2, push_rel HW.out hown1, fun e => hne2 e.symm, hb1 _ hb⟩
          case measure => simp [intOf]; omega
        have hdn' : b - a ≤ lim := by omega
        clear hdn
        have HU := Lib.hid (upOf_no (lim := lim) HA.out HB.out HC.out (by omega))
        have HW := Lib.hid (downOf_no (lim := lim) HA.out HB.out HC.out (by omega))
        have hca := (hb.cell (p := ⟨ba, off + (k - 1), none⟩) hblk').trans CA.out
        have hcb := (hb.cell (p := ⟨ba, off + k, none⟩) hblk').trans CB.out
        have hcc := (hb.cell (p := ⟨ba, off + (k + 1), none⟩) hblk').trans CC.out
        have t1 : c2 - b ≤ lim := by omega
        have q3 := Q3.out
        have q9 := Q9.out
        have q4 := Q4.out
        have q5 := Q5.out
        have r0 := W0.out
        have r1 := W1.out
        have r2 := W2.out
        have r3 := W3.out
        go_wp2_with fail
        go_quiet (fail)
        generalize hwx : World.drewN wr _ = wx
        have hou2 := own_eq hwx hou
        have hod2 := own_eq hwx hod
        have hb2 := below_eq hwx hb
        clear hwx hou hod hb hca hcb hcc q3 q9 q4 q5 r0 r1 r2 r3
        have hou := hou2
        have hod := hod2
        have hb := hb2
        clear hou2 hod2 hb2
        have hca := (hb.cell (p := ⟨ba, off + (k - 1), none⟩) hblk').trans CA.out
        have hcb := (hb.cell (p := ⟨ba, off + k, none⟩) hblk').trans CB.out
        have hcc := (hb.cell (p := ⟨ba, off + (k + 1), none⟩) hblk').trans CC.out
        have t2 : b - a ≤ lim := by omega
        have q3 := Q3.out
        have q9 := Q9.out
        have q4 := Q4.out
        have q5 := Q5.out
        have r0 := W0.out
        have r1 := W1.out
        have r2 := W2.out
        have r3 := W3.out
        go_wp2_with fail
        go_quiet (fail)
        generalize hwx : World.drewN wx _ = wx
        have hou2 := own_eq hwx hou
        have hod2 := own_eq hwx hod
        have hb2 := below_eq hwx hb
        clear hwx hou hod hb hca hcb hcc q3 q9 q4 q5 r0 r1 r2 r3
        have hou := hou2
        have hod := hod2
        have hb := hb2
        clear hou2 hod2 hb2
        go_wp2_with fail
        go_roundw
        case rel => exact ⟨k + 1, by omega, by omega, by go_num, by rw [HU.out]; exact hou, by rw [HW.out]; exact hod, HNE.out, hb⟩
        case measure => simp [intOf]; omega

set_option maxHeartbeats 8000000 in
theorem l12Spikes_any {A : Option Addr} {c lo hi : Nat} {xs : List Int} {lim : Int} {w : World} (hr : RdI w lo hi A xs) (hh : hi ≤ w.heap.size) (h1 : isTrk xs = true) (h2 : inR lim 1 5000 = true) :
    Calls Try.prog 43 #[.slice A xs.length c, .int .i64 lim] w (RetLL (upOf xs lim (xs.length - 1)) (downOf xs lim (xs.length - 1)) w) := by
  obtain ⟨i0, hi0, hz0, hz1, hz2⟩ := info_parts int_info
  obtain ⟨hall, hn3, hn30⟩ := isTrk_all h1
  have HD := Lib.hid hall
  obtain ⟨hl1, hl2⟩ := inR_true.1 h2
  clear hall h1 h2
  go_enter Try.func43, Try.ntmps43
  go_wp2_with fail
  go_loopw [6, 7, 8] (fun u d i wr => ∃ k : Nat, 1 ≤ k ∧ k + 1 ≤ xs.length ∧ i = .int .i64 k ∧ wr.ownsRow w.heap.size 3 1 u (upOf xs lim k).length (ints (upOf xs lim k)) ∧ wr.ownsRow w.heap.size 3 1 d (downOf xs lim k).length (ints (downOf xs lim k)) ∧ u.ownBlock ≠ d.ownBlock ∧ Below w.heap.size w wr) (fun _ _ i _ => xs.length - (intOf i).toNat)
  case atStart => exact ⟨1, Nat.le_refl _, by omega, rfl, by rw [upOf_one]; exact (start_two _ _).1, by rw [downOf_one]; exact (start_two _ _).2.1, by simp [Value.ownBlock], (start_two _ _).2.2⟩
  case round =>
    obtain ⟨k, hk1, hk, rfl, hou, hod, hne, hb⟩ := hrel
    have hul := upOf_le xs lim k
    have hdl := downOf_le xs lim k
    have HNE := Lib.hid hne
    clear hne
    by_cases hlt : k + 1 < xs.length
    rotate_left
    · obtain rfl : k = xs.length - 1 := by omega
      have q0 : ¬ ((xs.length - 1 : Nat) : Int) + 1 < (xs.length : Int) := by omega
      go_wp2_with fail
      go_ret2
      exact retLL_of hou hod HNE.out hb
    · obtain ⟨ba, off, hA, hblk, hcells⟩ := hr.rowi (show 0 < xs.length by omega)
      subst hA
      have hblk' : ba < w.heap.size := by omega
      obtain ⟨a, ha⟩ : ∃ a, xs[k - 1]? = some a := ⟨_, List.getElem?_eq_getElem (by omega)⟩
      obtain ⟨b, hbb⟩ : ∃ b, xs[k]? = some b := ⟨_, List.getElem?_eq_getElem (by omega)⟩
      obtain ⟨c2, hc⟩ : ∃ c2, xs[k + 1]? = some c2 := ⟨_, List.getElem?_eq_getElem (by omega)⟩
      have b1 := allDepth_get HD.out ha
      have b2 := allDepth_get HD.out hbb
      have b3 := allDepth_get HD.out hc
      have CA := Lib.hid (hcells _ _ ha)
      have CB := Lib.hid (hcells _ _ hbb)
      have CC := Lib.hid (hcells _ _ hc)
      have HA := Lib.hid ha
      have HB := Lib.hid hbb
      have HC := Lib.hid hc
      clear ha hbb hc hcells
      have q1 : (k : Int) < (xs.length : Int) := by omega
      have q2 : (0 : Int) ≤ (k : Int) - 1 := by omega
      have q7 : (k : Int) - 1 < (xs.length : Int) := by omega
      have q8 : (k : Int) + 1 < (xs.length : Int) := by omega
      have Q3 := Lib.hid (show ((k : Int) - 1).toNat = k - 1 by omega)
      have Q9 := Lib.hid (show ((k : Int) + 1).toNat = k + 1 by omega)
      have Q4 := Lib.hid (show IntKind.i64.wrap ((k : Int) - 1) = (k : Int) - 1 from wr64 (by omega) (by omega))
      have Q5 := Lib.hid (show IntKind.i64.wrap ((k : Int) + 1) = (k : Int) + 1 from wr64 (by omega) (by omega))
      have W0 := Lib.hid (show IntKind.i64.wrap (a - lim) = a - lim from wr64 (by omega) (by omega))
      have W1 := Lib.hid (show IntKind.i64.wrap (c2 - lim) = c2 - lim from wr64 (by omega) (by omega))
      have W2 := Lib.hid (show IntKind.i64.wrap (a + lim) = a + lim from wr64 (by omega) (by omega))
      have W3 := Lib.hid (show IntKind.i64.wrap (c2 + lim) = c2 + lim from wr64 (by omega) (by omega))
      by_cases c1 : b < a - lim
      · have nd : ¬ a + lim < b := by omega
        by_cases c3 : b < c2 - lim
        · skip
          have HU := Lib.hid (upOf_yes (lim := lim) hk1 HA.out HB.out HC.out (by omega) (by omega))
          have HW := Lib.hid (downOf_no (lim := lim) HA.out HB.out HC.out (by omega))
          have hca := (hb.cell (p := ⟨ba, off + (k - 1), none⟩) hblk').trans CA.out
          have hcb := (hb.cell (p := ⟨ba, off + k, none⟩) hblk').trans CB.out
          have hcc := (hb.cell (p := ⟨ba, off + (k + 1), none⟩) hblk').trans CC.out
          have q3 := Q3.out
          have q9 := Q9.out
          have q4 := Q4.out
          have q5 := Q5.out
          have r0 := W0.out
          have r1 := W1.out
          have r2 := W2.out
          have r3 := W3.out
          go_wp2_with fail
          go_quiet (fail)
          generalize hwx : World.drewN wr _ = wx
          have hou2 := own_eq hwx hou
          have hod2 := own_eq hwx hod
          have hb2 := below_eq hwx hb
          clear hwx hou hod hb hca hcb hcc q3 q9 q4 q5 r0 r1 r2 r3
          have hou := hou2
          have hod := hod2
          have hb := hb2
          clear hou2 hod2 hb2
          go_wp2_with (at_builtin; refine wpList_push _ rfl _ _ 24 rfl w.heap.size 3 i0 (.int .i64 0) 1 8 Try.underlying24 hi0 hz0 hz1 hz2 rfl (by decide) _ _ _ rfl hou [.int .i64 ↑k] rfl (one_int _) rfl (by omega) (by decide) hb.size ?_; intro v1 w1 hown1 hb1 hs1 hat1 hk1)
          have hod2 := keep_row hod hk1 HNE.out
          have hne2 := push_disj hod HNE.out hat1
          have hb2 := hb1 _ hb
          have hou2 := push_rel HU.out hown1
          clear hou hod hb hb1 hk1 hat1 hown1 HNE hs1
          have hou := hou2
          have hod := hod2
          have hb := hb2
          have HNE := Lib.hid hne2
          clear hou2 hod2 hb2 hne2
          have hca := (hb.cell (p := ⟨ba, off + (k - 1), none⟩) hblk').trans CA.out
          have hcb := (hb.cell (p := ⟨ba, off + k, none⟩) hblk').trans CB.out
          have hcc := (hb.cell (p := ⟨ba, off + (k + 1), none⟩) hblk').trans CC.out
          have t2 : decide (a + lim < b) = false := by simp; omega
          have q3 := Q3.out
          have q9 := Q9.out
          have q4 := Q4.out
          have q5 := Q5.out
          have r0 := W0.out
          have r1 := W1.out
          have r2 := W2.out
          have r3 := W3.out
          go_wp2_with fail
          go_quiet (fail)
          generalize hwx : World.drewN w1 _ = wx
          have hou2 := own_eq hwx hou
          have hod2 := own_eq hwx hod
          have hb2 := below_eq hwx hb
          clear hwx hou hod hb hca hcb hcc q3 q9 q4 q5 r0 r1 r2 r3
          have hou := hou2
          have hod := hod2
          have hb := hb2
          clear hou2 hod2 hb2
          go_wp2_with fail
          go_roundw
          case rel => exact ⟨k + 1, by omega, by omega, by go_num, hou, by rw [HW.out]; exact hod, HNE.out, hb⟩
          case measure => simp [intOf]; omega
        · have c3' : c2 - lim ≤ b := by omega
          clear c3
          have HU := Lib.hid (upOf_no (lim := lim) HA.out HB.out HC.out (by omega))
          have HW := Lib.hid (downOf_no (lim := lim) HA.out HB.out HC.out (by omega))
          have hca := (hb.cell (p := ⟨ba, off + (k - 1), none⟩) hblk').trans CA.out
          have hcb := (hb.cell (p := ⟨ba, off + k, none⟩) hblk').trans CB.out
          have hcc := (hb.cell (p := ⟨ba, off + (k + 1), none⟩) hblk').trans CC.out
          have q3 := Q3.out
          have q9 := Q9.out
          have q4 := Q4.out
          have q5 := Q5.out
          have r0 := W0.out
          have r1 := W1.out
          have r2 := W2.out
          have r3 := W3.out
          go_wp2_with fail
          go_quiet (fail)
          generalize hwx : World.drewN wr _ = wx
          have hou2 := own_eq hwx hou
          have hod2 := own_eq hwx hod
          have hb2 := below_eq hwx hb
          clear hwx hou hod hb hca hcb hcc q3 q9 q4 q5 r0 r1 r2 r3
          have hou := hou2
          have hod := hod2
          have hb := hb2
          clear hou2 hod2 hb2
          have hca := (hb.cell (p := ⟨ba, off + (k - 1), none⟩) hblk').trans CA.out
          have hcb := (hb.cell (p := ⟨ba, off + k, none⟩) hblk').trans CB.out
          have hcc := (hb.cell (p := ⟨ba, off + (k + 1), none⟩) hblk').trans CC.out
          have t2 : decide (a + lim < b) = false := by simp; omega
          have q3 := Q3.out
          have q9 := Q9.out
          have q4 := Q4.out
          have q5 := Q5.out
          have r0 := W0.out
          have r1 := W1.out
          have r2 := W2.out
          have r3 := W3.out
          go_wp2_with fail
          go_quiet (fail)
          generalize hwx : World.drewN wx _ = wx
          have hou2 := own_eq hwx hou
          have hod2 := own_eq hwx hod
          have hb2 := below_eq hwx hb
          clear hwx hou hod hb hca hcb hcc q3 q9 q4 q5 r0 r1 r2 r3
          have hou := hou2
          have hod := hod2
          have hb := hb2
          clear hou2 hod2 hb2
          go_wp2_with fail
          go_roundw
          case rel => exact ⟨k + 1, by omega, by omega, by go_num, by rw [HU.out]; exact hou, by rw [HW.out]; exact hod, HNE.out, hb⟩
          case measure => simp [intOf]; omega
      by_cases d1 : a + lim < b
      · by_cases d2 : c2 + lim < b
        · skip
          have HU := Lib.hid (upOf_no (lim := lim) HA.out HB.out HC.out (by omega))
          have HW := Lib.hid (downOf_yes (lim := lim) hk1 HA.out HB.out HC.out (by omega) (by omega))
          have hca := (hb.cell (p := ⟨ba, off + (k - 1), none⟩) hblk').trans CA.out
          have hcb := (hb.cell (p := ⟨ba, off + k, none⟩) hblk').trans CB.out
          have hcc := (hb.cell (p := ⟨ba, off + (k + 1), none⟩) hblk').trans CC.out
          have t1 : decide (b < a - lim) = false := by simp; omega
          have q3 := Q3.out
          have q9 := Q9.out
          have q4 := Q4.out
          have q5 := Q5.out
          have r0 := W0.out
          have r1 := W1.out
          have r2 := W2.out
          have r3 := W3.out
          go_wp2_with fail
          go_quiet (fail)
          generalize hwx : World.drewN wr _ = wx
          have hou2 := own_eq hwx hou
          have hod2 := own_eq hwx hod
          have hb2 := below_eq hwx hb
          clear hwx hou hod hb hca hcb hcc q3 q9 q4 q5 r0 r1 r2 r3
          have hou := hou2
          have hod := hod2
          have hb := hb2
          clear hou2 hod2 hb2
          have hca := (hb.cell (p := ⟨ba, off + (k - 1), none⟩) hblk').trans CA.out
          have hcb := (hb.cell (p := ⟨ba, off + k, none⟩) hblk').trans CB.out
          have hcc := (hb.cell (p := ⟨ba, off + (k + 1), none⟩) hblk').trans CC.out
          have q3 := Q3.out
          have q9 := Q9.out
          have q4 := Q4.out
          have q5 := Q5.out
          have r0 := W0.out
          have r1 := W1.out
          have r2 := W2.out
          have r3 := W3.out
          go_wp2_with fail
          go_quiet (fail)
          generalize hwx : World.drewN wx _ = wx
          have hou2 := own_eq hwx hou
          have hod2 := own_eq hwx hod
          have hb2 := below_eq hwx hb
          clear hwx hou hod hb hca hcb hcc q3 q9 q4 q5 r0 r1 r2 r3
          have hou := hou2
          have hod := hod2
          have hb := hb2
          clear hou2 hod2 hb2
          go_wp2_with (at_builtin; refine wpList_push _ rfl _ _ 24 rfl w.heap.size 3 i0 (.int .i64 0) 1 8 Try.underlying24 hi0 hz0 hz1 hz2 rfl (by decide) _ _ _ rfl hod [.int .i64 ↑k] rfl (one_int _) rfl (by omega) (by decide) hb.size ?_; intro v1 w1 hown1 hb1 hs1 hat1 hk1)
          have hou2 := keep_row hou hk1 (fun e => HNE.out e.symm)
          have hne2 := push_disj hou (fun e => HNE.out e.symm) hat1
          go_roundw
          case rel => exact ⟨k + 1, by omega, by omega, by go_num, by rw [HU.out]; exact hou2, push_rel HW.out hown1, fun e => hne2 e.symm, hb1 _ hb⟩
          case measure => simp [intOf]; omega
        · have d2' : b ≤ c2 + lim := by omega
          clear d2
          have HU := Lib.hid (upOf_no (lim := lim) HA.out HB.out HC.out (by omega))
          have HW := Lib.hid (downOf_no (lim := lim) HA.out HB.out HC.out (by omega))
          have hca := (hb.cell (p := ⟨ba, off + (k - 1), none⟩) hblk').trans CA.out
          have hcb := (hb.cell (p := ⟨ba, off + k, none⟩) hblk').trans CB.out
          have hcc := (hb.cell (p := ⟨ba, off + (k + 1), none⟩) hblk').trans CC.out
          have t1 : decide (b < a - lim) = false := by simp; omega
          have q3 := Q3.out
          have q9 := Q9.out
          have q4 := Q4.out
          have q5 := Q5.out
          have r0 := W0.out
          have r1 := W1.out
          have r2 := W2.out
          have r3 := W3.out
          go_wp2_with fail
          go_quiet (fail)
          generalize hwx : World.drewN wr _ = wx
          have hou2 := own_eq hwx hou
          have hod2 := own_eq hwx hod
          have hb2 := below_eq hwx hb
          clear hwx hou hod hb hca hcb hcc q3 q9 q4 q5 r0 r1 r2 r3
          have hou := hou2
          have hod := hod2
          have hb := hb2
          clear hou2 hod2 hb2
          have hca := (hb.cell (p := ⟨ba, off + (k - 1), none⟩) hblk').trans CA.out
          have hcb := (hb.cell (p := ⟨ba, off + k, none⟩) hblk').trans CB.out
          have hcc := (hb.cell (p := ⟨ba, off + (k + 1), none⟩) hblk').trans CC.out
          have q3 := Q3.out
          have q9 := Q9.out
          have q4 := Q4.out
          have q5 := Q5.out
          have r0 := W0.out
          have r1 := W1.out
          have r2 := W2.out
          have r3 := W3.out
          go_wp2_with fail
          go_quiet (fail)
          generalize hwx : World.drewN wx _ = wx
          have hou2 := own_eq hwx hou
          have hod2 := own_eq hwx hod
          have hb2 := below_eq hwx hb
          clear hwx hou hod hb hca hcb hcc q3 q9 q4 q5 r0 r1 r2 r3
          have hou := hou2
          have hod := hod2
          have hb := hb2
          clear hou2 hod2 hb2
          go_wp2_with fail
          go_roundw
          case rel => exact ⟨k + 1, by omega, by omega, by go_num, by rw [HU.out]; exact hou, by rw [HW.out]; exact hod, HNE.out, hb⟩
          case measure => simp [intOf]; omega
      have HU := Lib.hid (upOf_no (lim := lim) HA.out HB.out HC.out (by omega))
      have HW := Lib.hid (downOf_no (lim := lim) HA.out HB.out HC.out (by omega))
      have hca := (hb.cell (p := ⟨ba, off + (k - 1), none⟩) hblk').trans CA.out
      have hcb := (hb.cell (p := ⟨ba, off + k, none⟩) hblk').trans CB.out
      have hcc := (hb.cell (p := ⟨ba, off + (k + 1), none⟩) hblk').trans CC.out
      have t1 : decide (b < a - lim) = false := by simp; omega
      have q3 := Q3.out
      have q9 := Q9.out
      have q4 := Q4.out
      have q5 := Q5.out
      have r0 := W0.out
      have r1 := W1.out
      have r2 := W2.out
      have r3 := W3.out
      go_wp2_with fail
      go_quiet (fail)
      generalize hwx : World.drewN wr _ = wx
      have hou2 := own_eq hwx hou
      have hod2 := own_eq hwx hod
      have hb2 := below_eq hwx hb
      clear hwx hou hod hb hca hcb hcc q3 q9 q4 q5 r0 r1 r2 r3
      have hou := hou2
      have hod := hod2
      have hb := hb2
      clear hou2 hod2 hb2
      have hca := (hb.cell (p := ⟨ba, off + (k - 1), none⟩) hblk').trans CA.out
      have hcb := (hb.cell (p := ⟨ba, off + k, none⟩) hblk').trans CB.out
      have hcc := (hb.cell (p := ⟨ba, off + (k + 1), none⟩) hblk').trans CC.out
      have t2 : decide (a + lim < b) = false := by simp; omega
      have q3 := Q3.out
      have q9 := Q9.out
      have q4 := Q4.out
      have q5 := Q5.out
      have r0 := W0.out
      have r1 := W1.out
      have r2 := W2.out
      have r3 := W3.out
      go_wp2_with fail
      go_quiet (fail)
      generalize hwx : World.drewN wx _ = wx
      have hou2 := own_eq hwx hou
      have hod2 := own_eq hwx hod
      have hb2 := below_eq hwx hb
      clear hwx hou hod hb hca hcb hcc q3 q9 q4 q5 r0 r1 r2 r3
      have hou := hou2
      have hod := hod2
      have hb := hb2
      clear hou2 hod2 hb2
      go_wp2_with fail
      go_roundw
      case rel => exact ⟨k + 1, by omega, by omega, by go_num, by rw [HU.out]; exact hou, by rw [HW.out]; exact hod, HNE.out, hb⟩
      case measure => simp [intOf]; omega

end Go.Proofs.Ytchgcpdmomeofaa
