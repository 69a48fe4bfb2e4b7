/-
  This file proves the contract of slices.Insert of one pass into a row of passes of the call's own.
  Conditions: that the row is the call's own and not too long, that the new pass lies in a block of its own.
-/
import Derived.Test.YtaehfcdcdjlanaaInsA
namespace Go.Proofs.Ytaehfcdcdjlanaa
open Go.RowKit
set_option linter.unusedSimpArgs false
set_option linter.unusedVariables false

theorem rd_block {w : World} {vb : Nat} {q : GPass} (hv : w.heap[vb]? = some (.cells #[.int .i64 q.ln, .int .i64 q.bg, .int .i64 q.en, .int .i64 q.pg, .int .i64 q.bd, .int .i64 q.cs] 40)) : Rd w vb (vb + 1) 6 (some ⟨vb, 0, none⟩) 1 q.cells := by
  refine ⟨rfl, fun _ => ⟨vb, 0, rfl, Nat.le_refl _, Nat.lt_succ_self _, fun j u hu => ?_⟩⟩
  rw [cell_of_row _ _ _ _ _ (0, 0) hv]
  simpa [GPass.cells] using hu
/-- What an insertion leaves. -/
def RetIns (lo : Nat) (qs : List GPass) (w : World) (e : Ending) (w' : World) : Prop := ∃ A' c', e = .returned (.slice A' qs.length c') ∧ Own w' 40 lo w'.heap.size 6 A' qs.length c' (passCells qs) ∧ Below lo w w'
theorem retIns_of {lo n : Nat} {qs : List GPass} {w w' : World} {v : Value} (h : w'.ownsRow lo 40 6 v n (passCells qs)) (hn : qs.length = n) (hb : Below lo w w') : RetIns lo qs w (.returned v) w' := by
  subst hn
  obtain ⟨A, c, rfl, ho⟩ := Own.of_row h
  exact ⟨A, c, rfl, ho, hb⟩
theorem ins_end {ps : List GPass} {q : GPass} : passCells ps ++ q.cells = passCells (putP ps ps.length q) := by rw [putP_cells, List.take_of_length_le (Nat.le_refl _), List.drop_of_length_le (Nat.le_refl _)]; simp [passCells]
theorem cells_hd {w : World} {lo hi n c g : Nat} {e : TypeId} {xs : List Value} (h : Own w e lo hi 6 (some ⟨g, 0, none⟩) n c xs) {j m : Nat} {cs : List Value} (hcs : cs = (xs.drop j).take m) (hn : j + cs.length ≤ n * 6) : ∀ i v, cs[i]? = some v → w.cell? ((⟨g, j, none⟩ : Addr).add i) = some v := by
  intro i v hi
  have hil := (List.getElem?_eq_some_iff.1 hi).1
  rw [Addr.add_lit, h.1.cellAt (j + i) (by omega), ← hi, hcs, List.getElem?_take_of_lt (by have := congrArg List.length hcs; rw [List.length_take] at this; omega), List.getElem?_drop]

set_option maxHeartbeats 4000000 in
set_option maxRecDepth 100000 in
theorem insert_end {A : Option Addr} {c lo hi vb : Nat} {ps : List GPass} {q : GPass} {w : World} (ho : Own w 40 lo hi 6 A ps.length c (passCells ps)) (hl : ps.length ≤ 100000) (hlo : lo ≤ w.heap.size) (hv : w.heap[vb]? = some (.cells #[.int .i64 q.ln, .int .i64 q.bg, .int .i64 q.en, .int .i64 q.pg, .int .i64 q.bd, .int .i64 q.cs] 40)) :
    Calls Try.prog 77 #[.slice A ps.length c, .int .i64 ps.length, .slice (some ⟨vb, 0, none⟩) 1 1] w (RetIns lo (putP ps ps.length q) w) := by
  obtain ⟨i0, hi0, hz0, hz1, hz2⟩ := info_parts pass_info
  have RV := rd_block hv
  have hcm := ho.capmax
  have hcap := ho.cap
  have HE := Lib.hid (ins_end (ps := ps) (q := q))
  have HLN := Lib.hid (putP_length ps (Nat.le_refl _) q)
  have HB := Lib.hid (Below.refl lo w)
  unfold maxLen at hcm
  clear hv
  rcases ho.head with ⟨rfl, h0, rfl⟩ | ⟨g, rfl, hg1, hg2⟩
  · obtain rfl : ps = [] := List.eq_nil_of_length_eq_zero h0
    have hown0 : w.ownsRow lo 40 6 (.slice none 0 0) 0 [] := ho.1
    show Calls Try.prog 77 #[.slice none 0 0, .int .i64 0, .slice (some ⟨vb, 0, none⟩) 1 1] w (RetIns lo (putP [] ([] : List GPass).length q) w)
    clear ho hl h0 hcm hcap
    go_enter Try.func77, Try.ntmps77
    go_wp2_with (at_builtin; refine wpList_cat _ rfl _ _ 24 rfl lo 40 i0 (Value.agg #[.int .i64 0, .int .i64 0, .int .i64 0, .int .i64 0, .int .i64 0, .int .i64 0]) 6 48 Try.underlying24 hi0 hz0 hz1 hz2 rfl (by decide) _ 0 [] rfl hown0 vb (vb + 1) (some ⟨vb, 0, none⟩) 1 1 q.cells rfl RV (one_pass q) (by omega) (by decide) hlo ?_; intro v7 w7 hown7 hb7 hs7 _ _)
    have hb8 := hb7 _ HB.out
    go_wp2_with fail
    go_ret
    exact retIns_of (n := 1) (by have := hown7; rwa [show ([] : List Value) ++ q.cells = passCells (putP [] ([] : List GPass).length q) from HE.out] at this) HLN.out hb8
  · have r1 : (0 : Int) ≤ (ps.length : Int) := by omega
    have r2 : (ps.length : Int) ≤ (c : Int) := by omega
    by_cases hc : c = ps.length
    · go_enter Try.func77, Try.ntmps77
      go_wp2_with (at_builtin; refine wpList_cat _ rfl _ _ 24 rfl lo 40 i0 (Value.agg #[.int .i64 0, .int .i64 0, .int .i64 0, .int .i64 0, .int .i64 0, .int .i64 0]) 6 48 Try.underlying24 hi0 hz0 hz1 hz2 rfl (by decide) _ ps.length (passCells ps) rfl ho.1 vb (vb + 1) (some ⟨vb, 0, none⟩) 1 1 q.cells rfl RV (one_pass q) (by omega) (by decide) hlo ?_; intro v7 w7 hown7 hb7 hs7 _ _)
      have hown8 := hown7
      rw [HE.out] at hown8
      have hb8 := hb7 _ HB.out
      go_wp2_with fail
      go_ret
      exact retIns_of hown8 HLN.out hb8
    · have hc' : ¬ c = ps.length := hc
      go_enter Try.func77, Try.ntmps77
      go_wp2_with (at_builtin; refine wpList_cat _ rfl _ _ 24 rfl lo 40 i0 (Value.agg #[.int .i64 0, .int .i64 0, .int .i64 0, .int .i64 0, .int .i64 0, .int .i64 0]) 6 48 Try.underlying24 hi0 hz0 hz1 hz2 rfl (by decide) _ ps.length (passCells ps) rfl ho.1 vb (vb + 1) (some ⟨vb, 0, none⟩) 1 1 q.cells rfl RV (one_pass q) (by omega) (by decide) hlo ?_; intro v7 w7 hown7 hb7 hs7 _ _)
      have hown8 := hown7
      rw [HE.out] at hown8
      have hb8 := hb7 _ HB.out
      go_wp2_with fail
      go_ret
      exact retIns_of hown8 HLN.out hb8

set_option maxHeartbeats 4000000 in
set_option maxRecDepth 100000 in
theorem insert_in {c lo hi vb g j : Nat} {ps : List GPass} {q : GPass} {w : World} (ho : Own w 40 lo hi 6 (some ⟨g, 0, none⟩) ps.length c (passCells ps)) (hl : ps.length ≤ 100000) (hlo : lo ≤ w.heap.size) (hhi : hi ≤ w.heap.size) (hv : w.heap[vb]? = some (.cells #[.int .i64 q.ln, .int .i64 q.bg, .int .i64 q.en, .int .i64 q.pg, .int .i64 q.bd, .int .i64 q.cs] 40)) (hvb : vb ≠ g) (hj : j < ps.length) (hroom : ps.length < c) :
    Calls Try.prog 77 #[.slice (some ⟨g, 0, none⟩) ps.length c, .int .i64 j, .slice (some ⟨vb, 0, none⟩) 1 1] w (RetIns lo (putP ps j q) w) := by
  obtain ⟨i0, hi0, hz0, hz1, hz2⟩ := info_parts pass_info
  have RV := rd_block hv
  have hcm := ho.capmax
  unfold maxLen at hcm
  have HLN := Lib.hid (putP_length ps (j := j) (by omega) q)
  have HO := Lib.hid ho
  obtain ⟨n, hn⟩ : ∃ n, ps.length = n := ⟨_, rfl⟩
  have hgw : g < w.heap.size := by have := ho.2 _ rfl; simp at this; omega
  have hov : ∀ o lb cb, (callFunc 86 #[.slice (some ⟨vb, 0, none⟩) 1 1, .slice (some ⟨g, o, none⟩) lb cb]).run Try.prog w = .ok (.value (.bool false)) w := fun o lb cb => by
    rw [run_callFunc_extern Try.func86 (by kernel_rfl) (by kernel_rfl) (by kernel_rfl) (e := Extern.SlicesOverlaps.overlaps #[24, 24] #[4]) (by kernel_rfl),
      Lib.run_overlaps_apart w 24 4 40 Try.underlying24 6 (fun _ => by kernel_rfl) ⟨vb, 0, none⟩ ⟨g, o, none⟩ 1 1 lb cb hvb 40 40 6 (c * 6) (by unfold World.shape?; rw [hv]; rfl) ho.shape (by omega) (by unfold World.frozen?; rw [hv]; rfl) (by unfold World.frozen?; rw [hv]; rfl)]
    rfl
  have hzA : ¬ ((1 : Int) = 0) := by omega
  have hzB : ¬ ((j : Int) = (n : Int)) := by omega
  have hw0 : IntKind.i64.wrap ((n : Int) + 1) = (n : Int) + 1 := wr64 (by omega) (by omega)
  have hw1 : IntKind.i64.wrap ((j : Int) + 1) = (j : Int) + 1 := wr64 (by omega) (by omega)
  have hb1 : (0 : Int) ≤ (j : Int) + 1 := by omega
  have hin : j ≤ n := by omega
  have htn : ((j : Int) + 1).toNat = j + 1 := by omega
  have htn2 : ((n : Int) + 1).toNat = n + 1 := by omega
  have hb2 : ¬ (c = j + 1) := by omega
  have hb3 : (j : Int) ≤ (n : Int) + 1 := by omega
  have hb4 : ¬ (c = j) := by omega
  have hb5 : ¬ ((c : Int) < (n : Int) + 1) := by omega
  have hb6 : (n : Int) + 1 ≤ (c : Int) := by omega
  have hb7 : (n : Int) ≤ (c : Int) := by omega
  obtain ⟨R, hR, O0⟩ := ho.wider (m := n + 1) (by omega) (by omega)
  have hRl : R.length = 6 := by rw [hR]; omega
  obtain ⟨D, hD⟩ : ∃ D, D = passCells (ps.drop j) := ⟨_, rfl⟩
  have hDl : D.length = (n - j) * 6 := by rw [hD, passCells_length, List.length_drop, hn]
  have hPl : (passCells ps).length = n * 6 := by rw [passCells_length, hn]
  have hmul : j * 6 + (n - j) * 6 = n * 6 := by omega
  have hDs : D = ((passCells ps ++ R).drop (j * 6)).take ((n - j) * 6) := by
    have ht : (passCells (ps.take j)).length = j * 6 := by rw [passCells_length, List.length_take]; congr 1; omega
    rw [passCells_split ps j, List.append_assoc, ← ht, List.drop_left, ← hD, ← hDl, List.take_left]
  have hsz : (Try.prog.info? 40).map (·.size) = some 6 := by rw [hi0]; simp [hz1]
  have O0d := O0.drewN 1
  have e1 := cells_hd O0d (j := j * 6) (m := (n - j) * 6) hDs (by rw [hDl]; omega)
  obtain ⟨W1, hW1⟩ : ∃ W1, W1 = w.drew.setCells g ((j + 1) * 6) D := ⟨_, rfl⟩
  have O1 : Own W1 40 lo hi 6 (some ⟨g, 0, none⟩) (n + 1) c (over (passCells ps ++ R) ((j + 1) * 6) D) := by
    rw [hW1]
    exact Own.stores D _ _ w.drew O0 (by rw [List.length_append, hPl, hRl, hDl]; omega)
  have hcp1 : ∀ ty dc sc, (Builtin.copy_ #[24, 24] ty #[.slice (some ⟨g, (j + 1) * 6, none⟩) (n - j) dc, .slice (some ⟨g, j * 6, none⟩) (n + 1 - j) sc]).run Try.prog w.drew = .ok (goInt ((n - j : Nat) : Int)) W1 := fun ty dc sc => by
    rw [hW1]
    exact run_copyN w.drew 24 24 ty 40 6 (n - j) g ((j + 1) * 6) (n - j) dc ⟨g, j * 6, none⟩ (n + 1 - j) sc D Try.underlying24 hsz (by simp only [Nat.min_def]; split <;> omega) hDl e1 (fun k hk => O0d.cellThere (by rw [hDl] at hk; omega)) (fun k _ => O0d.frozen _) (by rw [hD]; exact one_passes _)
  have RV1 : ∀ k u, q.cells[k]? = some u → W1.cell? ((⟨vb, 0, none⟩ : Addr).add k) = some u := fun k u hu => by
    obtain ⟨b, off, e, _, _, hc⟩ := RV.2 (by omega)
    cases e
    rw [Addr.add_lit, hW1, World.cell?_setCells_out _ _ _ _ _ (fun h _ => absurd h hvb)]
    exact hc k u hu
  obtain ⟨W2, hW2⟩ : ∃ W2, W2 = W1.setCells g (j * 6) q.cells := ⟨_, rfl⟩
  have hql : q.cells.length = 6 := rfl
  have O2 : Own W2 40 lo hi 6 (some ⟨g, 0, none⟩) (n + 1) c (passCells (putP ps j q)) := by
    rw [hW2, ← over_in ps R q hn hin hRl, ← hD]
    exact Own.stores q.cells _ _ W1 O1 (by rw [over_length _ _ _ (by rw [List.length_append, hPl, hRl, hDl]; omega), List.length_append, hPl, hRl, hql]; omega)
  have hcp2 : ∀ ty dc, (Builtin.copy_ #[24, 24] ty #[.slice (some ⟨g, j * 6, none⟩) (n + 1 - j) dc, .slice (some ⟨vb, 0, none⟩) 1 1]).run Try.prog W1 = .ok (goInt 1) W2 := fun ty dc => by
    rw [hW2]
    exact run_copyN W1 24 24 ty 40 6 1 g (j * 6) (n + 1 - j) dc ⟨vb, 0, none⟩ 1 1 q.cells Try.underlying24 hsz (by simp only [Nat.min_def]; split <;> omega) hql RV1 (fun k hk => O1.cellThere (by rw [hql] at hk; omega)) (fun k _ => O1.frozen _) (one_pass q)
  have B2 : Below lo w W2 := by
    rw [hW2, hW1]
    have hg := HO.out.head
    have hlg : lo ≤ g := by
      rcases hg with ⟨h0, _⟩ | ⟨g', h0, h1, _⟩
      · cases h0
      · injection h0 with h0; injection h0 with h0; omega
    exact belowSetCells hlg _ _ _ (belowSetCells hlg _ _ _ (Below.refl _ _).drew)
  have hs2 := B2.size
  have HFIN := Lib.hid (And.intro O2 B2)
  have HCP1 := Lib.hid hcp1
  have HCP2 := Lib.hid hcp2
  rw [hn]
  clear ho hv O0 O1 O2 B2 hcp1 hcp2 O0d e1 hW1 hW2 hDs hD hDl hPl hR hRl RV RV1 hmul
  go_enter Try.func77, Try.ntmps77
  go_wp2_with (simp only [hov])
  have hcp2 := HCP2.out
  go_region_law (refine step_copyN rfl _ _ 24 24 rfl (.slice (some ⟨g, (j + 1) * 6, none⟩) (n - j) (c - (j + 1))) (.slice (some ⟨g, j * 6, none⟩) (n + 1 - j) (c - j)) (by simp [Act.eval, Act.put]) (by simp [Act.eval, Act.put]) (HCP1.out _ _ _) ?_)
  go_wp2_with fail
  go_ret
  have hln : (putP ps j q).length = n + 1 := by rw [HLN.out, hn]
  refine ⟨some ⟨g, 0, none⟩, c, ?_, ?_, HFIN.out.2⟩
  · rw [hln]
    rfl
  · rw [hln]
    exact HFIN.out.1.more (Nat.le_refl _) (by omega)

theorem zero6 (k : Nat) : (Builtin.zeroCells (Value.agg #[.int .i64 0, .int .i64 0, .int .i64 0, .int .i64 0, .int .i64 0, .int .i64 0]).cells k).toList.length = k * 6 := by
  have hcl : (Value.agg #[.int .i64 0, .int .i64 0, .int .i64 0, .int .i64 0, .int .i64 0, .int .i64 0]).cells = #[.int .i64 0, .int .i64 0, .int .i64 0, .int .i64 0, .int .i64 0, .int .i64 0] := by kernel_rfl
  rw [hcl]
  simp [Builtin.zeroCells]

set_option maxHeartbeats 4000000 in
set_option maxRecDepth 100000 in
theorem insert_new {c lo hi vb g j : Nat} {ps : List GPass} {q : GPass} {w : World} (ho : Own w 40 lo hi 6 (some ⟨g, 0, none⟩) ps.length c (passCells ps)) (hl : ps.length ≤ 100000) (hlo : lo ≤ w.heap.size) (hhi : hi ≤ w.heap.size) (hv : w.heap[vb]? = some (.cells #[.int .i64 q.ln, .int .i64 q.bg, .int .i64 q.en, .int .i64 q.pg, .int .i64 q.bd, .int .i64 q.cs] 40)) (hj : j < ps.length) (hroom : c = ps.length) :
    Calls Try.prog 77 #[.slice (some ⟨g, 0, none⟩) ps.length c, .int .i64 j, .slice (some ⟨vb, 0, none⟩) 1 1] w (RetIns lo (putP ps j q) w) := by
  obtain ⟨i0, hi0, hz0, hz1, hz2⟩ := info_parts pass_info
  have RV := rd_block hv
  have hvw : vb < w.heap.size := (Array.getElem?_eq_some_iff.1 hv).1
  have HLN := Lib.hid (putP_length ps (j := j) (by omega) q)
  obtain ⟨n, hn⟩ : ∃ n, ps.length = n := ⟨_, rfl⟩
  have hcn : c < n + 1 := by omega
  have hnc : n ≤ c := by omega
  have hgw : g < w.heap.size := by have := ho.2 _ rfl; simp at this; omega
  have hzA : ¬ ((1 : Int) = 0) := by omega
  have hzB : ¬ ((j : Int) = (n : Int)) := by omega
  have hw0 : IntKind.i64.wrap ((n : Int) + 1) = (n : Int) + 1 := wr64 (by omega) (by omega)
  have hw1 : IntKind.i64.wrap ((j : Int) + 1) = (j : Int) + 1 := wr64 (by omega) (by omega)
  have hw2 : IntKind.i64.wrap ((n : Int) + 1 - (j : Int)) = (n : Int) + 1 - (j : Int) := wr64 (by omega) (by omega)
  have hb1 : (0 : Int) ≤ (j : Int) + 1 := by omega
  have hin : j ≤ n := by omega
  have htn : ((j : Int) + 1).toNat = j + 1 := by omega
  have htn2 : ((n : Int) + 1).toNat = n + 1 := by omega
  have hb3 : (j : Int) ≤ (n : Int) + 1 := by omega
  have hb4 : ¬ (c = j) := by omega
  have hb5 : (c : Int) < (n : Int) + 1 := by omega
  have hb7 : (n : Int) ≤ (c : Int) := by omega
  have hb8 : (j : Int) ≤ (c : Int) := by omega
  have hkk : (n : Int) + 1 - (j : Int) = ((n + 1 - j : Nat) : Int) := by omega
  have hik : j + (n + 1 - j) = n + 1 := by omega
  have hPl : (passCells ps).length = n * 6 := by rw [passCells_length, hn]
  have hTl : (passCells (ps.take j)).length = j * 6 := by rw [passCells_length, List.length_take]; congr 1; omega
  obtain ⟨D, hD⟩ : ∃ D, D = passCells (ps.drop j) := ⟨_, rfl⟩
  have hDl : D.length = (n - j) * 6 := by rw [hD, passCells_length, List.length_drop, hn]
  have hold : (Builtin.firstCells i0.size j (.slice (some ⟨g, 0, none⟩) j c)).run Try.prog w.drew = .ok (passCells (ps.take j)).toArray w.drew := by
    rw [hz1]
    exact run_firstCells_some w.drew 6 j ⟨g, 0, none⟩ j c (passCells (ps.take j)) hTl (cells_hd (ho.drewN 1) (j := 0) (m := j * 6) (by rw [List.drop_zero, passCells_split ps j, ← hTl, List.take_left]) (by rw [hTl]; omega))
  have hrz : ∀ ty, (Builtin.append_ #[24, 3] ty #[.slice (some ⟨g, 0, none⟩) j c, .int .i64 ((n : Int) + 1 - (j : Int))]).run Try.prog w =
      .ok (.slice (some ⟨w.heap.size, 0, none⟩) (n + 1) (grownCap w (n + 1) c 40)) (w.drew.alloc (.cells ((passCells (ps.take j)).toArray ++ Builtin.zeroCells (Value.agg #[.int .i64 0, .int .i64 0, .int .i64 0, .int .i64 0, .int .i64 0, .int .i64 0]).cells (n + 1 - j) ++ Builtin.zeroCells (Value.agg #[.int .i64 0, .int .i64 0, .int .i64 0, .int .i64 0, .int .i64 0, .int .i64 0]).cells (grownCap w (n + 1) c 40 - (n + 1))) 40)) := fun ty => by
    have h := Lib.run_append_grow_zeros w 24 3 ty 40 i0 _ .i64 .i64 Try.underlying24 Try.underlying3 hi0 hz0 (some ⟨g, 0, none⟩) j c (passCells (ps.take j)) hold (n + 1 - j) (by omega) (by omega) (by omega) (by omega) (by rw [hz2]; omega) (by rw [hz2, hik]; exact growslice_fits hcn (by omega))
    rw [hik] at h
    rw [hkk]
    exact h
  obtain ⟨G, hG⟩ : ∃ G, G = grownCap w (n + 1) c 40 := ⟨_, rfl⟩
  have hGn : n + 1 ≤ G := by rw [hG]; exact grownCap_ge w _ _ _
  have hGm : G ≤ maxLen := by rw [hG]; exact grownCap_le_maxLen w _ _ _ (by unfold maxLen; omega)
  have hG63 : G ≤ 9223372036854775807 := by unfold maxLen at hGm; omega
  rw [← hG] at hrz
  obtain ⟨Z, hZ⟩ : ∃ Z, Z = (Builtin.zeroCells (Value.agg #[.int .i64 0, .int .i64 0, .int .i64 0, .int .i64 0, .int .i64 0, .int .i64 0]).cells (n + 1 - j)).toList := ⟨_, rfl⟩
  have hZl : Z.length = (n + 1 - j) * 6 := by rw [hZ]; exact zero6 _
  obtain ⟨ROW, hROW⟩ : ∃ ROW : Array Value, ROW = (passCells (ps.take j)).toArray ++ Builtin.zeroCells (Value.agg #[.int .i64 0, .int .i64 0, .int .i64 0, .int .i64 0, .int .i64 0, .int .i64 0]).cells (n + 1 - j) ++ Builtin.zeroCells (Value.agg #[.int .i64 0, .int .i64 0, .int .i64 0, .int .i64 0, .int .i64 0, .int .i64 0]).cells (G - (n + 1)) := ⟨_, rfl⟩
  rw [← hROW] at hrz
  obtain ⟨S, hS, hSl⟩ : ∃ S : List Value, ROW.toList = (passCells (ps.take j) ++ Z) ++ S ∧ S.length = (G - (n + 1)) * 6 := ⟨(Builtin.zeroCells (Value.agg #[.int .i64 0, .int .i64 0, .int .i64 0, .int .i64 0, .int .i64 0, .int .i64 0]).cells (G - (n + 1))).toList, by rw [hROW, hZ]; simp, zero6 _⟩
  have hTZ : (passCells (ps.take j) ++ Z).length = (n + 1) * 6 := by rw [List.length_append, hTl, hZl]; omega
  obtain ⟨N, hN⟩ : ∃ N, N = w.heap.size := ⟨_, rfl⟩
  obtain ⟨W1, hW1⟩ : ∃ W1, W1 = w.drew.alloc (.cells ROW 40) := ⟨_, rfl⟩
  have O1 : Own W1 40 N (N + 1) 6 (some ⟨N, 0, none⟩) (n + 1) G (passCells (ps.take j) ++ Z) := by
    rw [hW1, hN]
    refine ⟨⟨hTZ, .inr ⟨w.heap.size, G, ROW, rfl, Nat.le_refl _, heap_alloc_new w.drew _, hGn, hGm, ?_, ?_⟩⟩, fun a ha => by cases ha; simp⟩
    · have := congrArg List.length hS
      rw [List.length_append, hTZ, hSl] at this
      rw [← Array.length_toList, this]
      omega
    · rw [hS, ← hTZ, List.take_left]
  have B1 : Below N w W1 := by rw [hW1, hN]; exact (Below.refl _ w).drew.alloc (Nat.le_refl _) _
  rw [← hW1, ← hN] at hrz
  have hNw : lo ≤ N := by omega
  have OG1 := ho.below B1 (by omega)
  have hsz : (Try.prog.info? 40).map (·.size) = some 6 := by rw [hi0]; simp [hz1]
  have hql : q.cells.length = 6 := rfl
  have RV1 : ∀ k u, q.cells[k]? = some u → W1.cell? ((⟨vb, 0, none⟩ : Addr).add k) = some u := fun k u hu => by
    obtain ⟨b, off, e, _, _, hc⟩ := (RV.below B1 (by omega)).2 (by omega)
    cases e
    rw [Addr.add_lit]
    exact hc k u hu
  obtain ⟨W2, hW2⟩ : ∃ W2, W2 = W1.setCells N (j * 6) q.cells := ⟨_, rfl⟩
  have O2 : Own W2 40 N (N + 1) 6 (some ⟨N, 0, none⟩) (n + 1) G (over (passCells (ps.take j) ++ Z) (j * 6) q.cells) := by
    rw [hW2]
    exact Own.stores q.cells _ _ W1 O1 (by rw [hTZ, hql]; omega)
  have hcpA : ∀ ty dc, (Builtin.copy_ #[24, 24] ty #[.slice (some ⟨N, j * 6, none⟩) (n + 1 - j) dc, .slice (some ⟨vb, 0, none⟩) 1 1]).run Try.prog W1 = .ok (goInt 1) W2 := fun ty dc => by
    rw [hW2]
    exact run_copyN W1 24 24 ty 40 6 1 N (j * 6) (n + 1 - j) dc ⟨vb, 0, none⟩ 1 1 q.cells Try.underlying24 hsz (by simp only [Nat.min_def]; split <;> omega) hql RV1 (fun k hk => O1.cellThere (by rw [hql] at hk; omega)) (fun k _ => O1.frozen _) (one_pass q)
  have B2 : Below N w W2 := by rw [hW2]; exact belowSetCells (Nat.le_refl _) _ _ _ B1
  have OG2 := (ho.below B2 (by omega)).drewN 1
  have hDs : D = ((passCells ps).drop (j * 6)).take ((n - j) * 6) := by
    rw [passCells_split ps j, ← hTl, List.drop_left, ← hD, ← hDl, List.take_length]
  have e1 := cells_hd OG2 (j := j * 6) (m := (n - j) * 6) hDs (by rw [hDl, hn]; omega)
  obtain ⟨W3, hW3⟩ : ∃ W3, W3 = W2.drew.setCells N ((j + 1) * 6) D := ⟨_, rfl⟩
  have hol : (over (passCells (ps.take j) ++ Z) (j * 6) q.cells).length = (n + 1) * 6 := by rw [over_length _ _ _ (by rw [hTZ, hql]; omega), hTZ]
  have O2d := O2.drewN 1
  have O3 : Own W3 40 N (N + 1) 6 (some ⟨N, 0, none⟩) (n + 1) G (passCells (putP ps j q)) := by
    rw [hW3, ← over_new ps Z q hn hin hZl, ← hD]
    exact Own.stores D _ _ W2.drew O2 (by rw [hol, hDl]; omega)
  have hcpB : ∀ ty dc sc, (Builtin.copy_ #[24, 24] ty #[.slice (some ⟨N, (j + 1) * 6, none⟩) (n - j) dc, .slice (some ⟨g, j * 6, none⟩) (n - j) sc]).run Try.prog W2.drew = .ok (goInt ((n - j : Nat) : Int)) W3 := fun ty dc sc => by
    rw [hW3]
    exact run_copyN W2.drew 24 24 ty 40 6 (n - j) N ((j + 1) * 6) (n - j) dc ⟨g, j * 6, none⟩ (n - j) sc D Try.underlying24 hsz (by simp only [Nat.min_def]; split <;> omega) hDl e1 (fun k hk => O2d.cellThere (by rw [hDl] at hk; omega)) (fun k _ => O2d.frozen _) (by rw [hD]; exact one_passes _)
  have B3 : Below lo w W3 := by rw [hW3]; exact belowSetCells hNw _ _ _ (B2.mono hNw).drew
  have hs3 : N + 1 ≤ W3.heap.size := by have := O3.1.lt N rfl; omega
  have HFIN := Lib.hid (And.intro O3 B3)
  have HCPA := Lib.hid hcpA
  have HCPB := Lib.hid hcpB
  have HRZ := Lib.hid hrz
  have hGj : ¬ (G = j) := by omega
  have hGj1 : ¬ (G = j + 1) := by omega
  have hGi : ((n : Int) + 1) ≤ (G : Int) := by omega
  rw [hn]
  clear ho hv O1 O2 O3 B1 B2 B3 hcpA hcpB hrz OG1 OG2 O2d e1 hW1 hW2 hW3 hDs hD hDl hPl RV RV1 hold hROW hS hSl hTZ hZ hZl hTl hol hkk hik hG hGm hN hroom hcn hnc
  go_enter Try.func77, Try.ntmps77
  have hcpA := HCPA.out
  go_wp2_with (at_builtin; refine Lib.wpList_append_run _ rfl _ _ _ _ rfl _ _ rfl rfl _ _ (HRZ.out _) ?_)
  go_region_law (refine step_copyN rfl _ _ 24 24 rfl (.slice (some ⟨N, (j + 1) * 6, none⟩) (n - j) (G - (j + 1))) (.slice (some ⟨g, j * 6, none⟩) (n - j) (c - j)) (by simp [Act.eval, Act.put]) (by simp [Act.eval, Act.put]) (HCPB.out _ _ _) ?_)
  go_wp2_with fail
  go_ret
  have hln : (putP ps j q).length = n + 1 := by rw [HLN.out, hn]
  refine ⟨some ⟨N, 0, none⟩, G, ?_, ?_, HFIN.out.2⟩
  · rw [hln]
    rfl
  · rw [hln]
    exact HFIN.out.1.more hNw hs3

end Go.Proofs.Ytaehfcdcdjlanaa
