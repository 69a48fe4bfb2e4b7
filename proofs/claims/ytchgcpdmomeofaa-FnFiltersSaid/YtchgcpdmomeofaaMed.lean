/-
  This file proves plain lemmas on the median of three numbers and on the track in which each inner depth is replaced by a median, and the contract of the reference's median.
  Conditions: each lemma's own hypotheses.
-/
import Derived.Test.YtchgcpdmomeofaaTrackA
import Derived.Test.YtchgcpdmomeofaaBase2
import Derived.Test.YtchgcpdmomeofaaTrackG
import Derived.Test.YtchgcpdmomeofaaSort
namespace Go.Proofs.Ytchgcpdmomeofaa
open Go.RowKit
set_option linter.unusedSimpArgs false
set_option linter.unusedVariables false

def med3 (a b c : Int) : Int := mostI (leastI a b) (leastI (mostI a b) c)
theorem med3_mem (a b c : Int) : med3 a b c = a ∨ med3 a b c = b ∨ med3 a b c = c := by unfold med3 mostI leastI; repeat' split <;> omega

theorem l12Median_any (a b c : Int) (w : World) : Calls Try.prog 66 #[.int .i64 a, .int .i64 b, .int .i64 c] w fun e w' => e = .returned (.int .i64 (med3 a b c)) ∧ w = w' := by
  go_enter Try.func66, Try.ntmps66
  go_wp2_with (first | (go_at_call 58; refine (l1Most_any _ _ _).mono ?_; rintro e w' ⟨rfl, rfl⟩) | (go_at_call 59; refine (l1Least_any _ _ _).mono ?_; rintro e w' ⟨rfl, rfl⟩))
  go_ret
  exact ⟨rfl, rfl⟩

theorem sortI_three (a b c : Int) : (sortI [a, b, c])[1]? = some (med3 a b c) := by
  have hp := sortI_perm [a, b, c]
  have hs := sortI_sorted [a, b, c]
  have hl := sortI_length [a, b, c]
  obtain ⟨l, hl0⟩ : ∃ l, sortI [a, b, c] = l := ⟨_, rfl⟩
  rw [hl0] at hp hs hl ⊢
  match l, hl with
  | [x, y, z], _ =>
    simp only [List.pairwise_cons, List.mem_cons, List.not_mem_nil, or_false, forall_eq_or_imp, forall_eq] at hs
    have hsum : x + (y + (z + 0)) = a + (b + (c + 0)) := hp.foldr_eq' (f := fun u v => u + v) (fun u _ v _ t => by omega) 0
    have h1 : x ∈ [a, b, c] := hp.mem_iff.1 (by simp)
    have h2 : y ∈ [a, b, c] := hp.mem_iff.1 (by simp)
    have h3 : z ∈ [a, b, c] := hp.mem_iff.1 (by simp)
    have g1 : a ∈ [x, y, z] := hp.mem_iff.2 (by simp)
    have g2 : b ∈ [x, y, z] := hp.mem_iff.2 (by simp)
    have g3 : c ∈ [x, y, z] := hp.mem_iff.2 (by simp)
    simp only [List.mem_cons, List.not_mem_nil, or_false] at h1 h2 h3 g1 g2 g3
    have : y = med3 a b c := by unfold med3 mostI leastI; repeat' split <;> omega
    rw [this]
    rfl

/-- What stands at place i behind the median filter. -/
def medF (xs : List Int) (i : Nat) : Int := if 1 ≤ i ∧ i + 1 < xs.length then med3 (xs.getD (i - 1) 0) (xs.getD i 0) (xs.getD (i + 1) 0) else xs.getD i 0
/-- The first k places are done. -/
def medTo (xs : List Int) (k : Nat) : List Int := gath (fun _ => true) (medF xs) k ++ xs.drop k
def medL (xs : List Int) : List Int := medTo xs (xs.length - 1)
theorem gath_all (g : Nat → Int) (k : Nat) : gath (fun _ => true) g k = (List.range k).map g := by
  unfold gath
  rw [List.filter_eq_self.2 (fun _ _ => rfl)]
theorem gath_all_length (g : Nat → Int) (k : Nat) : (gath (fun _ => true) g k).length = k := by rw [gath_all]; simp
theorem medTo_length (xs : List Int) {k : Nat} (h : k ≤ xs.length) : (medTo xs k).length = xs.length := by
  unfold medTo
  rw [List.length_append, gath_all_length, List.length_drop]
  omega
theorem medL_length (xs : List Int) : (medL xs).length = xs.length := medTo_length xs (by omega)
theorem medTo_one {xs : List Int} (h : 1 ≤ xs.length) : medTo xs 1 = xs := by
  match xs, h with
  | x :: xs', _ => simp [medTo, gath, medF]
theorem medTo_step {xs : List Int} {k : Nat} {m : Int} (hk : k < xs.length) (hm : medF xs k = m) : (ints (medTo xs k)).set k (.int .i64 m) = ints (medTo xs (k + 1)) := by
  have hl : (ints (gath (fun _ => true) (medF xs) k)).length = k := by simp [ints, gath_all_length]
  have hd : xs.drop k = xs[k] :: xs.drop (k + 1) := List.drop_eq_getElem_cons hk
  unfold medTo
  have e : ints (gath (fun _ => true) (medF xs) k ++ xs.drop k) = ints (gath (fun _ => true) (medF xs) k) ++ (Value.int .i64 xs[k] :: ints (xs.drop (k + 1))) := by rw [hd]; simp only [ints, List.map_append, List.map_cons]
  rw [e, List.set_append_right _ _ (by rw [hl]; exact Nat.le_refl _), hl, Nat.sub_self, List.set_cons_zero, gath_yes (by rfl) hm]
  simp only [ints, List.map_append, List.map_cons, List.map_nil, List.append_assoc, List.cons_append, List.nil_append]
theorem medF_is {xs : List Int} {k : Nat} {a b c : Int} (h1 : 1 ≤ k) (ha : xs[k - 1]? = some a) (hb : xs[k]? = some b) (hc : xs[k + 1]? = some c) : medF xs k = med3 a b c := by
  have hk := (List.getElem?_eq_some_iff.1 hc).1
  unfold medF
  rw [if_pos ⟨h1, hk⟩, getD_of ha, getD_of hb, getD_of hc]
theorem medL_get {xs : List Int} {i : Nat} (hi : i < xs.length) : (medL xs)[i]? = some (medF xs i) := by
  unfold medL medTo
  rcases Nat.lt_or_ge i (xs.length - 1) with h | h
  · rw [List.getElem?_append_left (by rw [gath_all_length]; exact h)]
    rw [gath_all]
    simp [h]
  · have : i = xs.length - 1 := by omega
    subst this
    rw [List.getElem?_append_right (by rw [gath_all_length]; exact Nat.le_refl _), gath_all_length, Nat.sub_self, List.getElem?_drop, Nat.add_zero]
    unfold medF
    rw [if_neg (by omega), List.getElem?_eq_getElem (by omega)]
    simp [List.getD, show xs.length - 1 < xs.length by omega]
theorem medL_depth {xs : List Int} (h : allDepth xs = true) : allDepth (medL xs) = true := by
  unfold allDepth
  rw [List.all_eq_true]
  intro y hy
  obtain ⟨i, hi⟩ := List.mem_iff_getElem?.1 hy
  have hil : i < xs.length := by have := (List.getElem?_eq_some_iff.1 hi).1; rw [medL_length] at this; exact this
  rw [medL_get hil] at hi
  injection hi with hi
  have hg : ∀ j, j < xs.length → inR (xs.getD j 0) (-1000) 20000 = true := fun j hj => by
    have := allDepth_get h (List.getElem?_eq_getElem hj)
    rw [inR_true]
    simpa [List.getD, hj] using this
  subst hi
  unfold medF
  split
  · rename_i hc
    rcases med3_mem (xs.getD (i - 1) 0) (xs.getD i 0) (xs.getD (i + 1) 0) with e | e | e <;> rw [e]
    · exact hg _ (by omega)
    · exact hg _ (by omega)
    · exact hg _ (by omega)
  · exact hg _ hil
theorem medL_trk {xs : List Int} (h : isTrk xs = true) : isTrk (medL xs) = true := by
  unfold isTrk at h ⊢
  rw [Bool.and_eq_true] at h ⊢
  rw [medL_length]
  exact ⟨medL_depth h.1, h.2⟩
theorem wnd_three {xs : List Int} {k : Nat} {a b c : Int} (h1 : 1 ≤ k) (ha : xs[k - 1]? = some a) (hb : xs[k]? = some b) (hc : xs[k + 1]? = some c) : wnd xs (k - 1) (k + 2) = [a, b, c] := by
  have e1 : wnd xs (k - 1) (k - 1 + 1) = [a] := by rw [wnd_snoc (Nat.le_refl _) ha, wnd_nil]; rfl
  rw [show k - 1 + 1 = k by omega] at e1
  rw [wnd_snoc (by omega) hc, wnd_snoc (by omega) hb, e1]
  rfl

end Go.Proofs.Ytchgcpdmomeofaa
