/-
  This file proves contracts of the small functions on rising lists of integers: membership, the put of a new number, the striking of equal neighbours.
  Conditions: each contract's own hypotheses (that a slice reads as a list, that it is not too long, that the number is not yet there).
-/
import Derived.Test.YtaehfcdcdjlanaaSailLaw
import Derived.Test.YtaehfcdcdjlanaaVotesB
import Derived.Test.YtaehfcdcdjlanaaTrackJ
import Derived.Deep.RegionHeld3
namespace Go.Proofs.Ytaehfcdcdjlanaa
open Go.RowKit Go.Sort Go.Lib
set_option linter.unusedSimpArgs false
set_option linter.unusedVariables false

theorem l1Has_any {A : Option Addr} {c lo hi : Nat} {xs : List Int} {x : Int} {w : World} (hr : RdI w lo hi A xs) (hl : xs.length ≤ 4194304) :
    Calls Try.prog 60 #[.slice A xs.length c, .int .i64 x] w fun e w' => e = .returned (.bool (decide (x ∈ xs))) ∧ w = w' := by
  go_enter Try.func60, Try.ntmps60
  go_wp2_with fail
  go_loop [5] (fun i => ∃ k : Nat, k ≤ xs.length ∧ i = .int .i64 k ∧ x ∉ xs.take k) (fun i => xs.length - (intOf i).toNat)
  case atStart => exact ⟨0, Nat.zero_le _, rfl, by simp⟩
  case round =>
    obtain ⟨k, hk, rfl, hno⟩ := hrel
    have HNO := Lib.hid hno
    clear hno
    by_cases hlt : k < xs.length
    · obtain ⟨b, off, y, rfl, hy, hcell⟩ := hr.geti hlt
      have HY := Lib.hid hy
      have q1 : (k : Int) < (xs.length : Int) := by omega
      clear hy
      by_cases hxy : y = x
      · have HM := Lib.hid (show decide (x ∈ xs) = true from by rw [← hxy]; exact decide_eq_true (List.mem_of_getElem? HY.out))
        have s1 : (y == x) = true := by simpa using hxy
        clear hxy
        go_wp2_with fail
        go_ret
        exact ⟨ret_bool HM.out.symm, rfl⟩
      · have HM := Lib.hid (show x ∉ xs.take (k + 1) from by rw [take_snoc HY.out]; intro h; exact (List.mem_append.1 h).elim HNO.out (fun h => hxy (List.mem_singleton.1 h).symm))
        have s1 : (y == x) = false := by simpa using hxy
        clear hxy
        go_wp2_with fail
        go_round
        case rel => exact ⟨k + 1, by omega, by go_num, HM.out⟩
        case measure => simp [intOf]; omega
    · have HM := Lib.hid (show decide (x ∈ xs) = false from decide_eq_false (by have := HNO.out; rwa [take_all hlt] at this))
      go_wp2_with fail
      go_ret
      exact ⟨ret_bool HM.out.symm, rfl⟩

/-! ### equal neighbours struck -/
theorem getI (xs : List Int) {j : Nat} {x : Int} (h : xs[j]? = some x) : xs.toArray[j]! = x := by simp [h]
theorem comp_inv {ys : List Int} (hs : ys.Pairwise (· ≤ ·)) : ∀ m, m ≤ ys.length → (compactUpTo ys.toArray m).Pairwise (· < ·) ∧ (∀ y, y ∈ compactUpTo ys.toArray m ↔ y ∈ ys.take m) := by
  intro m
  induction m with
  | zero => intro _; exact ⟨by simp [compactUpTo], fun y => by simp [compactUpTo]⟩
  | succ m ih =>
    intro hm
    obtain ⟨h1, h2⟩ := ih (by omega)
    obtain ⟨x, hx⟩ : ∃ x, ys[m]? = some x := ⟨_, List.getElem?_eq_getElem (by omega)⟩
    have ex := getI ys hx
    rw [compactUpTo_succ, take_snoc hx]
    rcases Nat.eq_zero_or_pos m with h0 | h0
    · subst h0
      have hk : keeps ys.toArray 0 = true := keeps_lt_one _ 0 (by omega)
      rw [if_pos hk, ex]
      exact ⟨by simp [compactUpTo], fun y => by simp [compactUpTo]⟩
    obtain ⟨z, hz⟩ : ∃ z, ys[m - 1]? = some z := ⟨_, List.getElem?_eq_getElem (by omega)⟩
    have ez := getI ys hz
    have hle : ∀ y ∈ ys.take m, y ≤ z := fun y hy => by
      obtain ⟨i, hi⟩ := List.mem_iff_getElem?.1 hy
      have hi2 := (List.getElem?_eq_some_iff.1 hi).1
      rw [List.length_take] at hi2
      rw [List.getElem?_take_of_lt (by omega)] at hi
      obtain ⟨k1, e1⟩ := List.getElem?_eq_some_iff.1 hz
      obtain ⟨k2, e2⟩ := List.getElem?_eq_some_iff.1 hi
      rcases Nat.lt_or_ge i (m - 1) with h | h
      · have := List.pairwise_iff_getElem.1 hs i (m - 1) k2 k1 h
        omega
      · have hik : i = m - 1 := by omega
        subst hik
        omega
    have hzx : z ≤ x := by
      obtain ⟨k1, e1⟩ := List.getElem?_eq_some_iff.1 hz
      obtain ⟨k2, e2⟩ := List.getElem?_eq_some_iff.1 hx
      have := List.pairwise_iff_getElem.1 hs (m - 1) m k1 k2 (by omega)
      omega
    by_cases hxz : x = z
    · have hk : keeps ys.toArray m = false := keeps_neg h0 (by rw [ex, ez, hxz])
      rw [if_neg (by simp [hk]), List.append_nil]
      refine ⟨h1, fun y => ?_⟩
      rw [h2, List.mem_append, List.mem_singleton]
      constructor
      · exact .inl
      · rintro (h | rfl)
        · exact h
        · rw [hxz]
          exact List.mem_iff_getElem?.2 ⟨m - 1, by rw [List.getElem?_take_of_lt (by omega)]; exact hz⟩
    · have hk : keeps ys.toArray m = true := keeps_pos (by rw [ex, ez]; exact hxz)
      rw [if_pos hk, ex]
      refine ⟨?_, fun y => ?_⟩
      · rw [List.pairwise_append]
        refine ⟨h1, by simp, fun a ha b hb => ?_⟩
        rw [List.mem_singleton] at hb
        subst hb
        have := hle a ((h2 a).1 ha)
        omega
      · rw [List.mem_append, List.mem_append, h2]
theorem compact_eq {ys : List Int} (hs : ys.Pairwise (· ≤ ·)) : compactUpTo ys.toArray ys.toArray.size = comp ys := by
  have h := comp_inv hs ys.length (Nat.le_refl _)
  rw [List.take_of_length_le (Nat.le_refl _)] at h
  refine strict_unique _ _ h.1 (comp_rising ys hs) fun x => ?_
  rw [mem_comp]
  exact h.2 x
theorem comp_small {ys : List Int} (h : ys.length < 2) : comp ys = ys := by
  match ys, h with
  | [], _ => rfl
  | [_], _ => rfl
theorem comp_le : ∀ ys : List Int, (comp ys).length ≤ ys.length
  | [] => Nat.le_refl _
  | [_] => Nat.le_refl _
  | a :: b :: t => by
    have := comp_le (b :: t)
    unfold comp
    split
    · simp only [List.length_cons] at this ⊢; omega
    · simp only [List.length_cons] at this ⊢; omega

theorem grow_none (w : World) : grow w #[] = w := by
  cases w
  simp [grow]
set_option maxHeartbeats 1000000 in
theorem compact_any {A : Option Addr} {c lo hi : Nat} {xs : List Int} {w : World} (ho : OwnI w 3 lo hi A c xs) (hl : xs.length ≤ 4194304) (hs : xs.Pairwise (· ≤ ·)) :
    Calls Try.prog 59 #[.slice A xs.length c] w fun e w' => e = .returned (.slice A (comp xs).length c) ∧ OwnI w' 3 lo hi A c (comp xs) ∧ Only lo hi w w' := by
  by_cases h2 : xs.length < 2
  · have HE := Lib.hid (comp_small h2)
    have q1 : (xs.length : Int) < 2 := by omega
    go_enter Try.func59, Try.ntmps59
    go_wp2_with fail
    go_ret
    rw [HE.out]
    exact ⟨rfl, ho, Only.refl _ _ _⟩
  · obtain ⟨g, rfl, hg1, hg2⟩ := ho.length_pos (by omega)
    rcases ho.1.2 with ⟨hv, _⟩ | ⟨g', cap, cur, hv, hb, hh, hn, hcap, hcs, htake⟩
    · cases hv
    · injection hv with e1 e2 e3
      injection e1 with e1
      injection e1 with e1
      subst e1
      subst e3
      rw [Nat.mul_one] at htake
      have hlt : g < w.heap.size := (Array.getElem?_eq_some_iff.1 hh).1
      have hc := Try.slices_Compact (Value.int .i64) (fun _ => rfl) (EqlAt.intD _ _ _) (NeqAt.intD _ _ _) 0 (fun _ => by kernel_rfl) g 0 c xs.toArray w (holds_of_blockI hh htake) (by simp; omega) (by simpa using hn)
      rw [compact_eq hs] at hc
      rw [show xs.toArray.size = xs.length from rfl] at hc
      refine hc.mono ?_
      rintro e w' ⟨he, q, hw⟩
      subst hw
      have hcl := comp_le xs
      obtain ⟨ts, hts⟩ : ∃ ts, ts = comp xs ++ List.replicate (xs.length - (comp xs).length) (0 : Int) := ⟨_, rfl⟩
      have htl : ts.length = xs.length := by rw [hts]; simp; omega
      have htk : ts.take (comp xs).length = comp xs := by rw [hts]; simp
      have hrow := ownsRow_sortedI (n := q) (os := #[]) htl hb hh hn hcap hcs
      have hgr := grownBy_sortedI (w := w) (g := g) (n := q) (os := #[]) ts.toArray
      rw [grow_none] at hrow hgr
      rw [← hts]
      refine ⟨he, ⟨?_, ho.2⟩, hgr.os, hgr.tape, hgr.output, hgr.size, fun k hk hout => hgr.block k hk (fun e => by injection e with e; omega)⟩
      have hcut := row_cut (m := (comp xs).length) (xs := ts) hrow (by omega) (by omega)
      rw [htk] at hcut
      exact hcut

theorem own_emptyg (w : World) (e : TypeId) (g : Nat) (hg : g = w.heap.size) : Own (w.alloc (.cells #[] e)) e g (g + 1) 1 (some ⟨g, 0, none⟩) 0 0 [] := by
  subst hg
  exact ⟨row_empty w e 1, fun a ha => by cases ha; simp⟩
theorem rd_new1 (w : World) (e : TypeId) (x : Int) : Rd (w.alloc (.cells #[.int .i64 x] e)) w.heap.size (w.heap.size + 1) 1 (some ⟨w.heap.size, 0, none⟩) 1 [.int .i64 x] :=
  ⟨rfl, fun _ => ⟨w.heap.size, 0, rfl, Nat.le_refl _, Nat.lt_succ_self _, fun j u hu => by have := cells_new w [.int .i64 x] e j u hu; rwa [Addr.add_lit] at this⟩⟩
theorem rd_new1g (w : World) (e : TypeId) (x : Int) (g : Nat) (hg : g = w.heap.size) : Rd (w.alloc (.cells #[.int .i64 x] e)) g (g + 1) 1 (some ⟨g, 0, none⟩) 1 [.int .i64 x] := by
  subst hg
  exact rd_new1 w e x
theorem rd_kept {w w' : World} {g n size : Nat} {cs : List Value} (h : Rd w g (g + 1) size (some ⟨g, 0, none⟩) n cs) (hk : w'.heap[g]? = w.heap[g]?) : Rd w' g (g + 1) size (some ⟨g, 0, none⟩) n cs :=
  h.keep fun b off h1 h2 => by
    obtain rfl : b = g := by omega
    exact World.cell?_of_block hk
theorem putAt_rising {ys : List Int} {j : Nat} {x : Int} (hs : ys.Pairwise (· < ·)) (h1 : ∀ m v, m < j → ys[m]? = some v → v < x) (h2 : ∀ m v, j ≤ m → ys[m]? = some v → x < v) : (putAt ys j x).Pairwise (· < ·) := by
  have e := hs
  rw [← List.take_append_drop j ys, List.pairwise_append] at e
  have ht : ∀ v ∈ ys.take j, v < x := fun v hv => by
    obtain ⟨i, hi⟩ := List.mem_iff_getElem?.1 hv
    have hi2 := (List.getElem?_eq_some_iff.1 hi).1
    rw [List.length_take] at hi2
    rw [List.getElem?_take_of_lt (by omega)] at hi
    exact h1 i v (by omega) hi
  have hd : ∀ v ∈ ys.drop j, x < v := fun v hv => by
    obtain ⟨i, hi⟩ := List.mem_iff_getElem?.1 hv
    rw [List.getElem?_drop] at hi
    exact h2 (j + i) v (by omega) hi
  unfold putAt
  rw [List.pairwise_append, List.pairwise_append]
  refine ⟨⟨e.1, by simp, fun a ha b hb => ?_⟩, e.2.1, fun a ha b hb => ?_⟩
  · rw [List.mem_singleton] at hb
    subst hb
    exact ht a ha
  · rw [List.mem_append, List.mem_singleton] at ha
    rcases ha with ha | rfl
    · exact e.2.2 a ha b hb
    · exact hd b hb
theorem putAt_mem (ys : List Int) (j : Nat) (x y : Int) : y ∈ putAt ys j x ↔ y = x ∨ y ∈ ys := by
  unfold putAt
  have : y ∈ ys ↔ y ∈ ys.take j ∨ y ∈ ys.drop j := by rw [← List.mem_append, List.take_append_drop]
  rw [List.mem_append, List.mem_append, List.mem_singleton, this]
  constructor
  · rintro ((h | h) | h)
    · exact .inr (.inl h)
    · exact .inl h
    · exact .inr (.inr h)
  · rintro (h | h | h)
    · exact .inl (.inr h)
    · exact .inl (.inl h)
    · exact .inr h

/-- A number that is put into a rising list. -/
def RetPut (xs : List Int) (x : Int) (w : World) (e : Ending) (w' : World) : Prop :=
  ∃ zs : List Int, zs.Pairwise (· < ·) ∧ (∀ y, y ∈ zs ↔ y = x ∨ y ∈ xs) ∧ zs.length = xs.length + 1 ∧ RetInts zs w e w'
set_option maxHeartbeats 2000000 in
set_option maxRecDepth 100000 in
theorem l1Put_any {g c lo hi : Nat} {xs : List Int} {x : Int} {w : World} (hr : RdI w lo hi (some ⟨g, 0, none⟩) xs) (hcap : xs.length ≤ c) (hl : xs.length ≤ 4194304) (hh : hi ≤ w.heap.size) (hs : xs.Pairwise (· < ·)) (hno : x ∉ xs) :
    Calls Try.prog 61 #[.slice (some ⟨g, 0, none⟩) xs.length c, .int .i64 x] w (RetPut xs x w) := by
  obtain ⟨i0, hi0, hz0, hz1, hz2⟩ := info_parts int_info
  have HS := Lib.hid hs
  have HNO := Lib.hid hno
  clear hs hno
  go_enter Try.func61, Try.ntmps61
  go_wp2_with fail
  go_loop [5] (fun t => ∃ j : Nat, j ≤ xs.length ∧ t = .int .i64 j ∧ ∀ m v, m < j → xs[m]? = some v → v < x) (fun t => xs.length - (intOf t).toNat)
  case atStart => exact ⟨0, Nat.zero_le _, rfl, fun m v hm => absurd hm (by omega)⟩
  case round =>
    obtain ⟨j, hj, rfl, hlow⟩ := hrel
    have HL := Lib.hid hlow
    clear hlow
    by_cases hlt : j < xs.length
    · obtain ⟨y, hy⟩ : ∃ y, xs[j]? = some y := ⟨_, List.getElem?_eq_getElem hlt⟩
      have hcy : w.cell? ⟨g, j, none⟩ = some (.int .i64 y) := by
        obtain ⟨g', o', e, _, _, hc⟩ := hr.2 (by omega)
        cases e
        have := hc j (.int .i64 y) (by simp [ints, hy])
        rwa [Nat.zero_add] at this
      have HY := Lib.hid hy
      clear hy
      have q1 : (j : Int) < (xs.length : Int) := by omega
      by_cases hyx : y < x
      · go_wp2_with fail
        go_round
        case rel => exact ⟨j + 1, by omega, by go_num, fun m v hm h => by
          rcases Nat.lt_or_ge m j with h1 | h1
          · exact HL.out m v h1 h
          · obtain rfl : m = j := by omega
            rw [HY.out] at h
            injection h with h
            omega⟩
        case measure => simp [intOf]; omega
      have hyn : y ≠ x := fun e => HNO.out (by rw [← e]; exact List.mem_of_getElem? HY.out)
      have HPR := Lib.hid (putAt_rising HS.out HL.out (fun m v hm h => by
        rcases Nat.lt_or_ge j m with h1 | h1
        · obtain ⟨k1, e1⟩ := List.getElem?_eq_some_iff.1 HY.out
          obtain ⟨k2, e2⟩ := List.getElem?_eq_some_iff.1 h
          have := List.pairwise_iff_getElem.1 HS.out j m k1 k2 h1
          omega
        · obtain rfl : m = j := by omega
          rw [HY.out] at h
          injection h with h
          omega))
      have n0 : (y == x) = false := by simpa using hyn
      have r1 : j ≤ c := by omega
      have r3 : (j : Int) ≤ (c : Int) := by omega
      have r4 : (0 : Int) ≤ (j : Int) := by omega
      have r5 : (xs.length : Int) ≤ (c : Int) := by omega
      have r6 : (j : Int) ≤ (xs.length : Int) := by omega
      clear hyn
      have hc1 : ¬ c = j := by omega
      go_wp2_with fail
      clear hcy hyx n0
      obtain ⟨H, hH⟩ : ∃ H, H = w.heap.size := ⟨_, rfl⟩
      obtain ⟨wx, hwx⟩ : ∃ wx, wx = w := ⟨_, rfl⟩
      have hHs : H ≤ wx.heap.size := by rw [hwx]; omega
      have hwH : w.heap.size ≤ H := by omega
      have BW : Below w.heap.size w wx := by rw [hwx]; exact Below.refl _ _
      have RT : ∀ W, Below H wx W → Rd W lo hi 1 (some ⟨g, 0, none⟩) j (ints (xs.take j)) := fun W hW => Rd.take ((by rw [hwx]; exact hr : RdI wx lo hi (some ⟨g, 0, none⟩) xs).below hW (by omega)) hj
      have RD : ∀ W, Below H wx W → RdI W lo hi (some ⟨g, 0, none⟩) xs := fun W hW => (by rw [hwx]; exact hr : RdI wx lo hi (some ⟨g, 0, none⟩) xs).below hW (by omega)
      rw [← hwx]
      clear hwx hH hr
      go_region_held3 (fun w' => Below H wx w')
        ((first | exact (Below.refl _ _).drew | exact L3 | exact L2 | exact L1 | exact L1.alloc L1s _ | exact ((Below.refl _ _).drew).alloc hHs _ | exact (((Below.refl _ _).drew).alloc hHs _).alloc (by simp; omega) _))
        ((first | (refine step_cat _ (by rfl) (.tmp 33) (.tmp 36) 25 (by rfl) H 3 i0 (.int .i64 0) 1 8 Try.underlying25 hi0 hz0 hz1 hz2 (by rfl) (by decide) (some ⟨wx.heap.size, 0, none⟩) 0 0 [] (by rfl) _ ((own_empty _ _).more (by first | (simp; omega) | omega) (Nat.le_refl _)) _ _ (some ⟨g, 0, none⟩) j c (ints (xs.take j)) (by rfl) (RT _ (by first | assumption | exact And.right (by assumption))) (ints_one _) (by omega) (by decide) (by first | assumption | exact (by assumption : Below _ _ _).size | (simp; omega) | omega) ?_; intro A1 c1 v1 O1 b1 s1 k1; rw [Nat.zero_add] at O1; rw [List.nil_append] at O1; (try rw [Nat.zero_add]); have L1 : Below H wx v1 := b1 wx (by first | assumption | exact And.right (by assumption)); have L1s : H ≤ v1.heap.size := Nat.le_trans hHs L1.size) | (refine step_cat _ (by rfl) (.tmp 33) (.tmp 36) 25 (by rfl) H 3 i0 (.int .i64 0) 1 8 Try.underlying25 hi0 hz0 hz1 hz2 (by rfl) (by decide) (some ⟨wx.heap.size, 0, none⟩) 0 0 [] (by rfl) _ (((own_empty _ _).below (below_alloc1 _ _) (Nat.le_refl _)).more (by first | (simp; omega) | omega) (Nat.le_refl _)) _ _ (some ⟨g, 0, none⟩) j c (ints (xs.take j)) (by rfl) (RT _ (by first | assumption | exact And.right (by assumption))) (ints_one _) (by omega) (by decide) (by first | assumption | exact (by assumption : Below _ _ _).size | (simp; omega) | omega) ?_; intro A1 c1 v1 O1 b1 s1 k1; rw [Nat.zero_add] at O1; rw [List.nil_append] at O1; (try rw [Nat.zero_add]); have L1 : Below H wx v1 := b1 wx (by first | assumption | exact And.right (by assumption)); have L1s : H ≤ v1.heap.size := Nat.le_trans hHs L1.size) | (refine step_cat _ (by rfl) (.tmp 33) (.tmp 36) 25 (by rfl) H 3 i0 (.int .i64 0) 1 8 Try.underlying25 hi0 hz0 hz1 hz2 (by rfl) (by decide) (some ⟨wx.heap.size + 1, 0, none⟩) 0 0 [] (by rfl) _ ((own_emptyg _ _ (wx.heap.size + 1) (by simp)).more (by omega) (Nat.le_refl _)) _ _ (some ⟨g, 0, none⟩) j c (ints (xs.take j)) (by rfl) (RT _ (by first | assumption | exact And.right (by assumption))) (ints_one _) (by omega) (by decide) (by first | assumption | exact (by assumption : Below _ _ _).size | (simp; omega) | omega) ?_; intro A1 c1 v1 O1 b1 s1 k1; rw [Nat.zero_add] at O1; rw [List.nil_append] at O1; (try rw [Nat.zero_add]); have L1 : Below H wx v1 := b1 wx (by first | assumption | exact And.right (by assumption)); have L1s : H ≤ v1.heap.size := Nat.le_trans hHs L1.size) | (refine step_cat _ (by rfl) (.tmp 37) (.tmp 39) 25 (by rfl) H 3 i0 (.int .i64 0) 1 8 Try.underlying25 hi0 hz0 hz1 hz2 (by rfl) (by decide) A1 j c1 (ints (xs.take j)) (by rfl) _ (O1.below (below_alloc1 _ _) (Nat.le_refl _)) _ _ (some ⟨_, 0, none⟩) 1 1 [.int .i64 x] (by rfl) (rd_new _ _ x) (one_int x) (by omega) (by decide) (by first | assumption | exact (by assumption : Below _ _ _).size | (simp; omega) | omega) ?_; intro A2 c2 v2 O2 b2 s2 k2; have L2 : Below H wx v2 := b2 wx (by first | assumption | exact And.right (by assumption)); have L2s : H ≤ v2.heap.size := Nat.le_trans hHs L2.size) | (refine step_cat _ (by rfl) (.tmp 37) (.tmp 39) 25 (by rfl) H 3 i0 (.int .i64 0) 1 8 Try.underlying25 hi0 hz0 hz1 hz2 (by rfl) (by decide) A1 j c1 (ints (xs.take j)) (by rfl) _ (O1) _ _ (some ⟨wx.heap.size, 0, none⟩) 1 1 [.int .i64 x] (by rfl) (rd_kept ((rd_new1 _ _ x).below (below_alloc1 _ _) (by simp <;> omega)) (k1 _ (by simp <;> omega) (by simp <;> omega))) (one_int x) (by omega) (by decide) (by first | assumption | exact (by assumption : Below _ _ _).size | (simp; omega) | omega) ?_; intro A2 c2 v2 O2 b2 s2 k2; have L2 : Below H wx v2 := b2 wx (by first | assumption | exact And.right (by assumption)); have L2s : H ≤ v2.heap.size := Nat.le_trans hHs L2.size) | (refine step_cat _ (by rfl) (.tmp 37) (.tmp 39) 25 (by rfl) H 3 i0 (.int .i64 0) 1 8 Try.underlying25 hi0 hz0 hz1 hz2 (by rfl) (by decide) A1 j c1 (ints (xs.take j)) (by rfl) _ (O1) _ _ (some ⟨wx.heap.size + 1, 0, none⟩) 1 1 [.int .i64 x] (by rfl) (rd_kept (rd_new1g _ _ x (wx.heap.size + 1) (by simp)) (k1 _ (by simp <;> omega) (by simp <;> omega))) (one_int x) (by omega) (by decide) (by first | assumption | exact (by assumption : Below _ _ _).size | (simp; omega) | omega) ?_; intro A2 c2 v2 O2 b2 s2 k2; have L2 : Below H wx v2 := b2 wx (by first | assumption | exact And.right (by assumption)); have L2s : H ≤ v2.heap.size := Nat.le_trans hHs L2.size) | (refine step_cat _ (by rfl) (.tmp 40) (.tmp 43) 25 (by rfl) H 3 i0 (.int .i64 0) 1 8 Try.underlying25 hi0 hz0 hz1 hz2 (by rfl) (by decide) A2 (j + 1) c2 _ (by rfl) _ O2 lo hi (some ⟨g, j, none⟩) (xs.length - j) (c - j) (ints (xs.drop j)) (by rfl) (rd_tail (RD _ (by first | assumption | exact And.right (by assumption))) hj) (ints_one _) (by omega) (by decide) (by first | assumption | exact (by assumption : Below _ _ _).size | (simp; omega) | omega) ?_; intro A3 c3 v3 O3 b3 s3 k3; have L3 : Below H wx v3 := b3 wx (by first | assumption | exact And.right (by assumption)))))
      all_goals
        obtain ⟨zs, hzs⟩ : ∃ zs, zs = putAt xs j x := ⟨_, rfl⟩
        have hzl : j + 1 + (xs.length - j) = zs.length := by rw [hzs, putAt_length xs hj]; omega
        have hze : (ints (xs.take j) ++ [.int .i64 x]) ++ ints (xs.drop j) = ints zs := by rw [hzs]; simp [ints, putAt]
        rw [hze, hzl] at O3
        have HR := Lib.hid (show zs.length = xs.length + 1 ∧ zs.Pairwise (· < ·) ∧ ∀ y, y ∈ zs ↔ y = x ∨ y ∈ xs from ⟨by rw [hzs, putAt_length xs hj], by rw [hzs]; exact HPR.out, fun y => by rw [hzs]; exact putAt_mem xs j x y⟩)
        rw [hzl]
        clear hzs hze hzl O1 O2 L1 L2
        go_wp2_with fail
        go_ret
        exact ⟨zs, HR.out.2.1, HR.out.2.2, HR.out.1, A3, c3, rfl, O3.more hwH (Nat.le_refl _), BW.trans (L3.mono hwH)⟩
    · have HPR := Lib.hid (putAt_rising HS.out HL.out (fun m v hm h => by rw [List.getElem?_eq_none (by omega)] at h; cases h))
      have q1 : ¬ (j : Int) < (xs.length : Int) := by omega
      have r1 : j ≤ c := by omega
      have r3 : (j : Int) ≤ (c : Int) := by omega
      have r4 : (0 : Int) ≤ (j : Int) := by omega
      have r5 : (xs.length : Int) ≤ (c : Int) := by omega
      have r6 : (j : Int) ≤ (xs.length : Int) := by omega
      go_wp2_with fail
      by_cases hc1 : c = j
      · obtain ⟨H, hH⟩ : ∃ H, H = w.heap.size := ⟨_, rfl⟩
        obtain ⟨wx, hwx⟩ : ∃ wx, wx = w := ⟨_, rfl⟩
        have hHs : H ≤ wx.heap.size := by rw [hwx]; omega
        have hwH : w.heap.size ≤ H := by omega
        have BW : Below w.heap.size w wx := by rw [hwx]; exact Below.refl _ _
        have RT : ∀ W, Below H wx W → Rd W lo hi 1 (some ⟨g, 0, none⟩) j (ints (xs.take j)) := fun W hW => Rd.take ((by rw [hwx]; exact hr : RdI wx lo hi (some ⟨g, 0, none⟩) xs).below hW (by omega)) hj
        have RD : ∀ W, Below H wx W → RdI W lo hi (some ⟨g, 0, none⟩) xs := fun W hW => (by rw [hwx]; exact hr : RdI wx lo hi (some ⟨g, 0, none⟩) xs).below hW (by omega)
        rw [← hwx]
        clear hwx hH hr
        go_region_held3 (fun w' => Below H wx w')
          ((first | exact (Below.refl _ _).drew | exact L3 | exact L2 | exact L1 | exact L1.alloc L1s _ | exact ((Below.refl _ _).drew).alloc hHs _ | exact (((Below.refl _ _).drew).alloc hHs _).alloc (by simp; omega) _))
          ((first | (refine step_cat _ (by rfl) (.tmp 33) (.tmp 36) 25 (by rfl) H 3 i0 (.int .i64 0) 1 8 Try.underlying25 hi0 hz0 hz1 hz2 (by rfl) (by decide) (some ⟨wx.heap.size, 0, none⟩) 0 0 [] (by rfl) _ ((own_empty _ _).more (by first | (simp; omega) | omega) (Nat.le_refl _)) _ _ (some ⟨g, 0, none⟩) j j (ints (xs.take j)) (by rfl) (RT _ (by first | assumption | exact And.right (by assumption))) (ints_one _) (by omega) (by decide) (by first | assumption | exact (by assumption : Below _ _ _).size | (simp; omega) | omega) ?_; intro A1 c1 v1 O1 b1 s1 k1; rw [Nat.zero_add] at O1; rw [List.nil_append] at O1; (try rw [Nat.zero_add]); have L1 : Below H wx v1 := b1 wx (by first | assumption | exact And.right (by assumption)); have L1s : H ≤ v1.heap.size := Nat.le_trans hHs L1.size) | (refine step_cat _ (by rfl) (.tmp 33) (.tmp 36) 25 (by rfl) H 3 i0 (.int .i64 0) 1 8 Try.underlying25 hi0 hz0 hz1 hz2 (by rfl) (by decide) (some ⟨wx.heap.size, 0, none⟩) 0 0 [] (by rfl) _ (((own_empty _ _).below (below_alloc1 _ _) (Nat.le_refl _)).more (by first | (simp; omega) | omega) (Nat.le_refl _)) _ _ (some ⟨g, 0, none⟩) j j (ints (xs.take j)) (by rfl) (RT _ (by first | assumption | exact And.right (by assumption))) (ints_one _) (by omega) (by decide) (by first | assumption | exact (by assumption : Below _ _ _).size | (simp; omega) | omega) ?_; intro A1 c1 v1 O1 b1 s1 k1; rw [Nat.zero_add] at O1; rw [List.nil_append] at O1; (try rw [Nat.zero_add]); have L1 : Below H wx v1 := b1 wx (by first | assumption | exact And.right (by assumption)); have L1s : H ≤ v1.heap.size := Nat.le_trans hHs L1.size) | (refine step_cat _ (by rfl) (.tmp 33) (.tmp 36) 25 (by rfl) H 3 i0 (.int .i64 0) 1 8 Try.underlying25 hi0 hz0 hz1 hz2 (by rfl) (by decide) (some ⟨wx.heap.size + 1, 0, none⟩) 0 0 [] (by rfl) _ ((own_emptyg _ _ (wx.heap.size + 1) (by simp)).more (by omega) (Nat.le_refl _)) _ _ (some ⟨g, 0, none⟩) j j (ints (xs.take j)) (by rfl) (RT _ (by first | assumption | exact And.right (by assumption))) (ints_one _) (by omega) (by decide) (by first | assumption | exact (by assumption : Below _ _ _).size | (simp; omega) | omega) ?_; intro A1 c1 v1 O1 b1 s1 k1; rw [Nat.zero_add] at O1; rw [List.nil_append] at O1; (try rw [Nat.zero_add]); have L1 : Below H wx v1 := b1 wx (by first | assumption | exact And.right (by assumption)); have L1s : H ≤ v1.heap.size := Nat.le_trans hHs L1.size) | (refine step_cat _ (by rfl) (.tmp 37) (.tmp 39) 25 (by rfl) H 3 i0 (.int .i64 0) 1 8 Try.underlying25 hi0 hz0 hz1 hz2 (by rfl) (by decide) A1 j c1 (ints (xs.take j)) (by rfl) _ (O1.below (below_alloc1 _ _) (Nat.le_refl _)) _ _ (some ⟨_, 0, none⟩) 1 1 [.int .i64 x] (by rfl) (rd_new _ _ x) (one_int x) (by omega) (by decide) (by first | assumption | exact (by assumption : Below _ _ _).size | (simp; omega) | omega) ?_; intro A2 c2 v2 O2 b2 s2 k2; have L2 : Below H wx v2 := b2 wx (by first | assumption | exact And.right (by assumption)); have L2s : H ≤ v2.heap.size := Nat.le_trans hHs L2.size) | (refine step_cat _ (by rfl) (.tmp 37) (.tmp 39) 25 (by rfl) H 3 i0 (.int .i64 0) 1 8 Try.underlying25 hi0 hz0 hz1 hz2 (by rfl) (by decide) A1 j c1 (ints (xs.take j)) (by rfl) _ (O1) _ _ (some ⟨wx.heap.size, 0, none⟩) 1 1 [.int .i64 x] (by rfl) (rd_kept ((rd_new1 _ _ x).below (below_alloc1 _ _) (by simp <;> omega)) (k1 _ (by simp <;> omega) (by simp <;> omega))) (one_int x) (by omega) (by decide) (by first | assumption | exact (by assumption : Below _ _ _).size | (simp; omega) | omega) ?_; intro A2 c2 v2 O2 b2 s2 k2; have L2 : Below H wx v2 := b2 wx (by first | assumption | exact And.right (by assumption)); have L2s : H ≤ v2.heap.size := Nat.le_trans hHs L2.size) | (refine step_cat _ (by rfl) (.tmp 37) (.tmp 39) 25 (by rfl) H 3 i0 (.int .i64 0) 1 8 Try.underlying25 hi0 hz0 hz1 hz2 (by rfl) (by decide) A1 j c1 (ints (xs.take j)) (by rfl) _ (O1) _ _ (some ⟨wx.heap.size + 1, 0, none⟩) 1 1 [.int .i64 x] (by rfl) (rd_kept (rd_new1g _ _ x (wx.heap.size + 1) (by simp)) (k1 _ (by simp <;> omega) (by simp <;> omega))) (one_int x) (by omega) (by decide) (by first | assumption | exact (by assumption : Below _ _ _).size | (simp; omega) | omega) ?_; intro A2 c2 v2 O2 b2 s2 k2; have L2 : Below H wx v2 := b2 wx (by first | assumption | exact And.right (by assumption)); have L2s : H ≤ v2.heap.size := Nat.le_trans hHs L2.size) | (refine step_cat _ (by rfl) (.tmp 40) (.tmp 43) 25 (by rfl) H 3 i0 (.int .i64 0) 1 8 Try.underlying25 hi0 hz0 hz1 hz2 (by rfl) (by decide) A2 (j + 1) c2 _ (by rfl) _ O2 lo hi (some ⟨g, 0, none⟩) (xs.length - j) 0 (ints (xs.drop j)) (by rfl) (rd_tail0 (RD _ (by first | assumption | exact And.right (by assumption))) (by omega)) (ints_one _) (by omega) (by decide) (by first | assumption | exact (by assumption : Below _ _ _).size | (simp; omega) | omega) ?_; intro A3 c3 v3 O3 b3 s3 k3; have L3 : Below H wx v3 := b3 wx (by first | assumption | exact And.right (by assumption)))))
        all_goals
          obtain ⟨zs, hzs⟩ : ∃ zs, zs = putAt xs j x := ⟨_, rfl⟩
          have hzl : j + 1 + (xs.length - j) = zs.length := by rw [hzs, putAt_length xs hj]; omega
          have hze : (ints (xs.take j) ++ [.int .i64 x]) ++ ints (xs.drop j) = ints zs := by rw [hzs]; simp [ints, putAt]
          rw [hze, hzl] at O3
          have HR := Lib.hid (show zs.length = xs.length + 1 ∧ zs.Pairwise (· < ·) ∧ ∀ y, y ∈ zs ↔ y = x ∨ y ∈ xs from ⟨by rw [hzs, putAt_length xs hj], by rw [hzs]; exact HPR.out, fun y => by rw [hzs]; exact putAt_mem xs j x y⟩)
          rw [hzl]
          clear hzs hze hzl O1 O2 L1 L2
          go_wp2_with fail
          go_ret
          exact ⟨zs, HR.out.2.1, HR.out.2.2, HR.out.1, A3, c3, rfl, O3.more hwH (Nat.le_refl _), BW.trans (L3.mono hwH)⟩
      · obtain ⟨H, hH⟩ : ∃ H, H = w.heap.size := ⟨_, rfl⟩
        obtain ⟨wx, hwx⟩ : ∃ wx, wx = w := ⟨_, rfl⟩
        have hHs : H ≤ wx.heap.size := by rw [hwx]; omega
        have hwH : w.heap.size ≤ H := by omega
        have BW : Below w.heap.size w wx := by rw [hwx]; exact Below.refl _ _
        have RT : ∀ W, Below H wx W → Rd W lo hi 1 (some ⟨g, 0, none⟩) j (ints (xs.take j)) := fun W hW => Rd.take ((by rw [hwx]; exact hr : RdI wx lo hi (some ⟨g, 0, none⟩) xs).below hW (by omega)) hj
        have RD : ∀ W, Below H wx W → RdI W lo hi (some ⟨g, 0, none⟩) xs := fun W hW => (by rw [hwx]; exact hr : RdI wx lo hi (some ⟨g, 0, none⟩) xs).below hW (by omega)
        rw [← hwx]
        clear hwx hH hr
        go_region_held3 (fun w' => Below H wx w')
          ((first | exact (Below.refl _ _).drew | exact L3 | exact L2 | exact L1 | exact L1.alloc L1s _ | exact ((Below.refl _ _).drew).alloc hHs _ | exact (((Below.refl _ _).drew).alloc hHs _).alloc (by simp; omega) _))
          ((first | (refine step_cat _ (by rfl) (.tmp 33) (.tmp 36) 25 (by rfl) H 3 i0 (.int .i64 0) 1 8 Try.underlying25 hi0 hz0 hz1 hz2 (by rfl) (by decide) (some ⟨wx.heap.size, 0, none⟩) 0 0 [] (by rfl) _ ((own_empty _ _).more (by first | (simp; omega) | omega) (Nat.le_refl _)) _ _ (some ⟨g, 0, none⟩) j c (ints (xs.take j)) (by rfl) (RT _ (by first | assumption | exact And.right (by assumption))) (ints_one _) (by omega) (by decide) (by first | assumption | exact (by assumption : Below _ _ _).size | (simp; omega) | omega) ?_; intro A1 c1 v1 O1 b1 s1 k1; rw [Nat.zero_add] at O1; rw [List.nil_append] at O1; (try rw [Nat.zero_add]); have L1 : Below H wx v1 := b1 wx (by first | assumption | exact And.right (by assumption)); have L1s : H ≤ v1.heap.size := Nat.le_trans hHs L1.size) | (refine step_cat _ (by rfl) (.tmp 33) (.tmp 36) 25 (by rfl) H 3 i0 (.int .i64 0) 1 8 Try.underlying25 hi0 hz0 hz1 hz2 (by rfl) (by decide) (some ⟨wx.heap.size, 0, none⟩) 0 0 [] (by rfl) _ (((own_empty _ _).below (below_alloc1 _ _) (Nat.le_refl _)).more (by first | (simp; omega) | omega) (Nat.le_refl _)) _ _ (some ⟨g, 0, none⟩) j c (ints (xs.take j)) (by rfl) (RT _ (by first | assumption | exact And.right (by assumption))) (ints_one _) (by omega) (by decide) (by first | assumption | exact (by assumption : Below _ _ _).size | (simp; omega) | omega) ?_; intro A1 c1 v1 O1 b1 s1 k1; rw [Nat.zero_add] at O1; rw [List.nil_append] at O1; (try rw [Nat.zero_add]); have L1 : Below H wx v1 := b1 wx (by first | assumption | exact And.right (by assumption)); have L1s : H ≤ v1.heap.size := Nat.le_trans hHs L1.size) | (refine step_cat _ (by rfl) (.tmp 33) (.tmp 36) 25 (by rfl) H 3 i0 (.int .i64 0) 1 8 Try.underlying25 hi0 hz0 hz1 hz2 (by rfl) (by decide) (some ⟨wx.heap.size + 1, 0, none⟩) 0 0 [] (by rfl) _ ((own_emptyg _ _ (wx.heap.size + 1) (by simp)).more (by omega) (Nat.le_refl _)) _ _ (some ⟨g, 0, none⟩) j c (ints (xs.take j)) (by rfl) (RT _ (by first | assumption | exact And.right (by assumption))) (ints_one _) (by omega) (by decide) (by first | assumption | exact (by assumption : Below _ _ _).size | (simp; omega) | omega) ?_; intro A1 c1 v1 O1 b1 s1 k1; rw [Nat.zero_add] at O1; rw [List.nil_append] at O1; (try rw [Nat.zero_add]); have L1 : Below H wx v1 := b1 wx (by first | assumption | exact And.right (by assumption)); have L1s : H ≤ v1.heap.size := Nat.le_trans hHs L1.size) | (refine step_cat _ (by rfl) (.tmp 37) (.tmp 39) 25 (by rfl) H 3 i0 (.int .i64 0) 1 8 Try.underlying25 hi0 hz0 hz1 hz2 (by rfl) (by decide) A1 j c1 (ints (xs.take j)) (by rfl) _ (O1.below (below_alloc1 _ _) (Nat.le_refl _)) _ _ (some ⟨_, 0, none⟩) 1 1 [.int .i64 x] (by rfl) (rd_new _ _ x) (one_int x) (by omega) (by decide) (by first | assumption | exact (by assumption : Below _ _ _).size | (simp; omega) | omega) ?_; intro A2 c2 v2 O2 b2 s2 k2; have L2 : Below H wx v2 := b2 wx (by first | assumption | exact And.right (by assumption)); have L2s : H ≤ v2.heap.size := Nat.le_trans hHs L2.size) | (refine step_cat _ (by rfl) (.tmp 37) (.tmp 39) 25 (by rfl) H 3 i0 (.int .i64 0) 1 8 Try.underlying25 hi0 hz0 hz1 hz2 (by rfl) (by decide) A1 j c1 (ints (xs.take j)) (by rfl) _ (O1) _ _ (some ⟨wx.heap.size, 0, none⟩) 1 1 [.int .i64 x] (by rfl) (rd_kept ((rd_new1 _ _ x).below (below_alloc1 _ _) (by simp <;> omega)) (k1 _ (by simp <;> omega) (by simp <;> omega))) (one_int x) (by omega) (by decide) (by first | assumption | exact (by assumption : Below _ _ _).size | (simp; omega) | omega) ?_; intro A2 c2 v2 O2 b2 s2 k2; have L2 : Below H wx v2 := b2 wx (by first | assumption | exact And.right (by assumption)); have L2s : H ≤ v2.heap.size := Nat.le_trans hHs L2.size) | (refine step_cat _ (by rfl) (.tmp 37) (.tmp 39) 25 (by rfl) H 3 i0 (.int .i64 0) 1 8 Try.underlying25 hi0 hz0 hz1 hz2 (by rfl) (by decide) A1 j c1 (ints (xs.take j)) (by rfl) _ (O1) _ _ (some ⟨wx.heap.size + 1, 0, none⟩) 1 1 [.int .i64 x] (by rfl) (rd_kept (rd_new1g _ _ x (wx.heap.size + 1) (by simp)) (k1 _ (by simp <;> omega) (by simp <;> omega))) (one_int x) (by omega) (by decide) (by first | assumption | exact (by assumption : Below _ _ _).size | (simp; omega) | omega) ?_; intro A2 c2 v2 O2 b2 s2 k2; have L2 : Below H wx v2 := b2 wx (by first | assumption | exact And.right (by assumption)); have L2s : H ≤ v2.heap.size := Nat.le_trans hHs L2.size) | (refine step_cat _ (by rfl) (.tmp 40) (.tmp 43) 25 (by rfl) H 3 i0 (.int .i64 0) 1 8 Try.underlying25 hi0 hz0 hz1 hz2 (by rfl) (by decide) A2 (j + 1) c2 _ (by rfl) _ O2 lo hi (some ⟨g, j, none⟩) (xs.length - j) (c - j) (ints (xs.drop j)) (by rfl) (rd_tail (RD _ (by first | assumption | exact And.right (by assumption))) hj) (ints_one _) (by omega) (by decide) (by first | assumption | exact (by assumption : Below _ _ _).size | (simp; omega) | omega) ?_; intro A3 c3 v3 O3 b3 s3 k3; have L3 : Below H wx v3 := b3 wx (by first | assumption | exact And.right (by assumption)))))
        all_goals
          obtain ⟨zs, hzs⟩ : ∃ zs, zs = putAt xs j x := ⟨_, rfl⟩
          have hzl : j + 1 + (xs.length - j) = zs.length := by rw [hzs, putAt_length xs hj]; omega
          have hze : (ints (xs.take j) ++ [.int .i64 x]) ++ ints (xs.drop j) = ints zs := by rw [hzs]; simp [ints, putAt]
          rw [hze, hzl] at O3
          have HR := Lib.hid (show zs.length = xs.length + 1 ∧ zs.Pairwise (· < ·) ∧ ∀ y, y ∈ zs ↔ y = x ∨ y ∈ xs from ⟨by rw [hzs, putAt_length xs hj], by rw [hzs]; exact HPR.out, fun y => by rw [hzs]; exact putAt_mem xs j x y⟩)
          rw [hzl]
          clear hzs hze hzl O1 O2 L1 L2
          go_wp2_with fail
          go_ret
          exact ⟨zs, HR.out.2.1, HR.out.2.2, HR.out.1, A3, c3, rfl, O3.more hwH (Nat.le_refl _), BW.trans (L3.mono hwH)⟩

end Go.Proofs.Ytaehfcdcdjlanaa
