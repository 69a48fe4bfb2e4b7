/-
  This file proves contracts of exported functions on edit lists: AcceptedAfter, CleanSteps, ReasonsFor, of the program and of the reference.
  Conditions: that the slice reads as a list of steps, that it is not too long, that its texts are no longer than any string of the machine.
-/
import Derived.Test.YtdcbgahfbcemnaaEditF
import Derived.Test.YtdcbgahfbcemnaaEditN
namespace Go.Proofs.Ytdcbgahfbcemnaa
open Go.RowKit
set_option linter.unusedSimpArgs false
set_option linter.unusedVariables false

theorem str_info : (Try.prog.info? 9).map (fun i => (i.zero, i.size, i.bytes)) = some (some (.string ByteArray.empty), 1, 16) := by kernel_rfl
/-- New lists of bools, of texts. -/
def RetBLB (xs : List Bool) (b : Bool) (w : World) (e : Ending) (w' : World) : Prop :=
  ∃ A c, e = .returned (.tuple #[.slice A xs.length c, .bool b]) ∧ Own w' 4 w.heap.size w'.heap.size 1 A xs.length c (blsV xs) ∧ Below w.heap.size w w'
def RetSLB (xs : List ByteArray) (b : Bool) (w : World) (e : Ending) (w' : World) : Prop :=
  ∃ A c, e = .returned (.tuple #[.slice A xs.length c, .bool b]) ∧ Own w' 9 w.heap.size w'.heap.size 1 A xs.length c (strV xs) ∧ Below w.heap.size w w'
theorem ownNil (w : World) (e : TypeId) (lo hi size : Nat) : Own w e lo hi size none 0 0 [] := ⟨World.ownsRow_nil w lo e size, fun a ha => by cases ha⟩
theorem retBLB_nil (b : Bool) (w w' : World) (hb : Below w.heap.size w w') : RetBLB [] b w (.returned (.tuple #[.slice none 0 0, .bool b])) w' := ⟨none, 0, rfl, ownNil _ _ _ _ _, hb⟩
theorem retSLB_nil (b : Bool) (w w' : World) (hb : Below w.heap.size w w') : RetSLB [] b w (.returned (.tuple #[.slice none 0 0, .bool b])) w' := ⟨none, 0, rfl, ownNil _ _ _ _ _, hb⟩
theorem retESB_nil (b : Bool) (w w' : World) (hb : Below w.heap.size w w') : RetEditStepSB [] b w (.returned (.tuple #[.slice none 0 0, .bool b])) w' := ⟨none, 0, rfl, ownNil _ _ _ _ _, hb⟩
theorem retBLB_of {base : Nat} {xs : List Bool} {b : Bool} {w w' : World} {v : Value} (h : w'.ownsRow base 4 1 v xs.length (blsV xs)) (hs : w.heap.size ≤ base) (hb : Below w.heap.size w w') : RetBLB xs b w (.returned (.tuple #[v, .bool b])) w' := by
  obtain ⟨A, c, rfl, ho⟩ := Own.of_row h
  exact ⟨A, c, rfl, ho.more hs (Nat.le_refl _), hb⟩
theorem retSLB_of {base : Nat} {xs : List ByteArray} {b : Bool} {w w' : World} {v : Value} (h : w'.ownsRow base 9 1 v xs.length (strV xs)) (hs : w.heap.size ≤ base) (hb : Below w.heap.size w w') : RetSLB xs b w (.returned (.tuple #[v, .bool b])) w' := by
  obtain ⟨A, c, rfl, ho⟩ := Own.of_row h
  exact ⟨A, c, rfl, ho.more hs (Nat.le_refl _), hb⟩
theorem retESB_of {base : Nat} {ps : List GEditStep} {b : Bool} {w w' : World} {v : Value} (h : w'.ownsRow base 42 4 v ps.length (cellsEditStep ps)) (hs : w.heap.size ≤ base) (hb : Below w.heap.size w w') : RetEditStepSB ps b w (.returned (.tuple #[v, .bool b])) w' := by
  obtain ⟨A, c, rfl, ho⟩ := Own.of_row h
  exact ⟨A, c, rfl, ho.more hs (Nat.le_refl _), hb⟩
theorem one_bool (x : Bool) : ∀ u ∈ [Value.bool x], u.oneCell' = true := by
  intro u hu; simp at hu; subst hu; rfl
theorem one_str (x : ByteArray) : ∀ u ∈ [Value.string x], u.oneCell' = true := by
  intro u hu; simp at hu; subst hu; rfl
theorem one_step (a b c : Int) (s : ByteArray) : ∀ u ∈ ([.int .i64 a, .int .i64 b, .int .i64 c, .string s] : List Value), u.oneCell' = true := by
  intro u hu; simp at hu; rcases hu with rfl | rfl | rfl | rfl <;> rfl
theorem push_b {w : World} {base : Nat} {v : Value} {F F' : List Bool} {x : Bool} (he : F' = F ++ [x]) (h : w.ownsRow base 4 1 v (F.length + 1) (blsV F ++ [.bool x])) : w.ownsRow base 4 1 v F'.length (blsV F') := by
  subst he
  have e1 : (F ++ [x]).length = F.length + 1 := by simp
  have e2 : blsV (F ++ [x]) = blsV F ++ [.bool x] := by simp [blsV]
  rw [e1, e2]; exact h
theorem push_s {w : World} {base : Nat} {v : Value} {F F' : List ByteArray} {x : ByteArray} (he : F' = F ++ [x]) (h : w.ownsRow base 9 1 v (F.length + 1) (strV F ++ [.string x])) : w.ownsRow base 9 1 v F'.length (strV F') := by
  subst he
  have e1 : (F ++ [x]).length = F.length + 1 := by simp
  have e2 : strV (F ++ [x]) = strV F ++ [.string x] := by simp [strV]
  rw [e1, e2]; exact h
theorem push_e {w : World} {base : Nat} {v : Value} {F F' : List GEditStep} {q : GEditStep} (he : F' = F ++ [q]) (h : w.ownsRow base 42 4 v (F.length + 1) (cellsEditStep F ++ [.int .i64 q.kd, .int .i64 q.mr, .int .i64 q.sh, .string q.rs])) : w.ownsRow base 42 4 v F'.length (cellsEditStep F') := by
  subst he
  have e1 : (F ++ [q]).length = F.length + 1 := by simp
  have e2 : cellsEditStep (F ++ [q]) = cellsEditStep F ++ [.int .i64 q.kd, .int .i64 q.mr, .int .i64 q.sh, .string q.rs] := by simp [cellsEditStep, GEditStep.cells]
  rw [e1, e2]; exact h

def accL (ps : List GEditStep) (m : Nat) (l : List Nat) : List Bool := (List.range m).map fun (j : Nat) => accE ps (j : Int) l
theorem accL_length (ps : List GEditStep) (m : Nat) (l : List Nat) : (accL ps m l).length = m := by simp [accL]
theorem accL_succ {ps : List GEditStep} {m : Nat} {l : List Nat} {b : Bool} (h : accE ps (m : Int) l = b) : accL ps (m + 1) l = accL ps m l ++ [b] := by simp [accL, List.range_succ, h]
def vAcceptedAfter (m : Int) (ps : List GEditStep) : List Bool × Bool := if goodE m ps = true then (accL ps m.toNat (liveE ps ps.length), true) else ([], false)
def vCleanSteps (m : Int) (ps : List GEditStep) : List GEditStep × Bool := if goodE m ps = true then ((liveE ps ps.length).map (gE ps), true) else ([], false)
def reasons (ps : List GEditStep) (mark : Int) (l : List Nat) : List ByteArray := (l.filter fun i => (gE ps i).mr == mark).map fun i => (gE ps i).rs
def vReasonsFor (m : Int) (ps : List GEditStep) (mark : Int) : List ByteArray × Bool := if goodE m ps = true ∧ inR mark 0 (m - 1) = true then (reasons ps mark (liveE ps ps.length), true) else ([], false)
theorem reasons_le (ps : List GEditStep) (mark : Int) (l : List Nat) : (reasons ps mark l).length ≤ l.length := by
  unfold reasons
  rw [List.length_map]
  exact List.length_filter_le _ _
theorem reasons_yes {ps : List GEditStep} {mark : Int} {l : List Nat} {i : Nat} (h : (gE ps i).mr = mark) : reasons ps mark (l ++ [i]) = reasons ps mark l ++ [(gE ps i).rs] := by simp [reasons, List.filter_append, h]
theorem reasons_no {ps : List GEditStep} {mark : Int} {l : List Nat} {i : Nat} (h : ¬ (gE ps i).mr = mark) : reasons ps mark (l ++ [i]) = reasons ps mark l := by simp [reasons, List.filter_append, h]
theorem liveF_le {m : Int} {ps : List GEditStep} (h : goodE m ps = true) : (liveE ps ps.length).length ≤ 20 := Nat.le_trans (liveE_len ps.length) (goodE_len h).1
theorem vAcceptedAfter_len0 (m : Int) (ps : List GEditStep) : (vAcceptedAfter m ps).1.length ≤ 20 := by
  unfold vAcceptedAfter
  split
  · rename_i h
    have := goodE_len h
    simp only [accL_length]
    omega
  · simp
theorem vCleanSteps_len0 (m : Int) (ps : List GEditStep) : (vCleanSteps m ps).1.length ≤ 20 := by
  unfold vCleanSteps
  split
  · rename_i h
    simpa using liveF_le h
  · simp
theorem vReasonsFor_len0 (m : Int) (ps : List GEditStep) (mark : Int) : (vReasonsFor m ps mark).1.length ≤ 20 := by
  unfold vReasonsFor
  split
  · rename_i h
    exact Nat.le_trans (reasons_le _ _ _) (liveF_le h.1)
  · simp
theorem take_map {ps : List GEditStep} {l : List Nat} {j i : Nat} (h : l[j]? = some i) : (l.take (j + 1)).map (gE ps) = (l.take j).map (gE ps) ++ [gE ps i] := by rw [take_nat h]; simp

set_option maxHeartbeats 2000000 in
set_option maxRecDepth 100000 in
theorem iAcceptedAfter {A : Option Addr} {c lo hi : Nat} {m : Int} {ps : List GEditStep} {w : World} (hr : RdE w lo hi A ps) (hl : ps.length ≤ 2097152) (hh : hi ≤ w.heap.size) (hcap : ps.length ≤ c) (hsz : ∀ p ∈ ps, p.rs.size ≤ maxLen) :
    Calls Try.prog 40 #[.int .i64 m, .slice A ps.length c] w (RetBLB (vAcceptedAfter m ps).1 (vAcceptedAfter m ps).2 w) := by
  obtain ⟨ib, hib, hbz0, hbz1, hbz2⟩ := info_parts bool_info
  rcases hgd : goodE m ps with _ | _
  · have HE := Lib.hid (show vAcceptedAfter m ps = ([], false) from by unfold vAcceptedAfter; rw [if_neg (by simp [hgd])])
    have HGD := Lib.hid hgd
    clear hgd
    go_enter Try.func40, Try.ntmps40
    go_wp2_with fail
    refine (edited_any hr hh hl hsz).mono ?_
    rintro e w1 ⟨hc, B1⟩
    rcases hc with ⟨_, rfl⟩ | ⟨hx, _⟩
    rotate_left
    · rw [HGD.out] at hx; cases hx
    go_wp2_with fail
    go_ret2
    rw [HE.out]
    exact retBLB_nil _ _ _ B1
  have hmn := goodE_len hgd
  obtain ⟨M, rfl⟩ : ∃ M : Nat, m = (M : Int) := ⟨m.toNat, by omega⟩
  have HGD := Lib.hid hgd
  clear hgd
  have HE := Lib.hid (show vAcceptedAfter (M : Int) ps = (accL ps M (liveE ps ps.length), true) from by unfold vAcceptedAfter; rw [if_pos HGD.out]; rfl)
  go_enter Try.func40, Try.ntmps40
  go_wp2_with fail
  refine (edited_any hr hh hl hsz).mono ?_
  rintro e w1 ⟨hc, B1⟩
  rcases hc with ⟨hx, _⟩ | ⟨_, M', B, c', r, s, g, hM, rfl, ES⟩
  · rw [HGD.out] at hx; cases hx
  obtain rfl : M = M' := by omega
  obtain ⟨S, gr, gs, gg, LO⟩ := ES
  have hc0 := S.c0
  have hc1 := S.c1
  have hc2 := S.c2
  clear hM
  obtain ⟨N1, hN1⟩ : ∃ N1, N1 = w1.heap.size := ⟨_, rfl⟩
  have HN1 := Lib.hid hN1
  have O0 := row_empty_at w1 4 1 (show N1 ≤ w1.heap.size by omega)
  have SA := S.alloc (.cells #[] 4)
  have hc0a := SA.c0
  have B0 := (below_alloc1 w1 (.cells #[] 4))
  rw [← hN1] at B0
  have hwN : w.heap.size ≤ N1 := by rw [hN1]; exact B1.size
  have hrN : r < N1 ∧ s < N1 ∧ g < N1 := by rw [hN1]; exact S.lt
  clear hN1
  go_wp2_with fail
  go_loopw [8, 25] (fun v i wr => ∃ j : Nat, j ≤ M ∧ i = .int .i64 j ∧ wr.ownsRow N1 4 1 v (accL ps j (liveE ps ps.length)).length (blsV (accL ps j (liveE ps ps.length))) ∧ Below N1 w1 wr) (fun _ i _ => M - (intOf i).toNat)
  case atStart => exact ⟨0, Nat.zero_le _, rfl, O0, B0⟩
  case round =>
    obtain ⟨j, hj, rfl, hown2, hb⟩ := hrel
    have hlen : (accL ps j (liveE ps ps.length)).length ≤ 15 := by rw [accL_length]; omega
    by_cases hlt : j < M
    · have hcell := st_bool (S.below hb hrN.1 hrN.2.1 hrN.2.2) hlt
      have q1 : (j : Int) < (M : Int) := by omega
      have hbs2 : N1 ≤ wr.heap.size := by have := hb.size; have := HN1.out; omega
      rcases ha : accE ps (j : Int) (liveE ps ps.length) with _ | _
      · have HA := Lib.hid (accL_succ ha)
        rw [ha] at hcell
        simp only [Bool.not_false] at hcell
        clear ha
        go_wp2_with (at_builtin; refine wpList_push _ rfl _ _ 52 rfl N1 4 ib (.bool false) 1 1 Try.underlying52 hib hbz0 hbz1 hbz2 rfl (by decide) _ _ _ rfl hown2 [.bool false] rfl (one_bool _) rfl (by omega) (by decide) hbs2 ?_; intro v1 w3 hown1 hb1 hs1 _ _)
        go_roundw
        case rel => exact ⟨j + 1, by omega, by go_num, push_b HA.out hown1, hb1 _ hb⟩
        case measure => simp [intOf]; omega
      · have HA := Lib.hid (accL_succ ha)
        rw [ha] at hcell
        simp only [Bool.not_true] at hcell
        clear ha
        go_wp2_with (at_builtin; refine wpList_push _ rfl _ _ 52 rfl N1 4 ib (.bool false) 1 1 Try.underlying52 hib hbz0 hbz1 hbz2 rfl (by decide) _ _ _ rfl hown2 [.bool true] rfl (one_bool _) rfl (by omega) (by decide) hbs2 ?_; intro v1 w3 hown1 hb1 hs1 _ _)
        go_roundw
        case rel => exact ⟨j + 1, by omega, by go_num, push_b HA.out hown1, hb1 _ hb⟩
        case measure => simp [intOf]; omega
    · obtain rfl : j = M := by omega
      go_wp2_with fail
      go_ret2
      rw [HE.out]
      exact retBLB_of hown2 hwN (B1.trans (hb.mono hwN))

set_option maxHeartbeats 2000000 in
set_option maxRecDepth 100000 in
theorem sAcceptedAfter {A : Option Addr} {c lo hi : Nat} {m : Int} {ps : List GEditStep} {w : World} (hr : RdE w lo hi A ps) (hl : ps.length ≤ 2097152) (hh : hi ≤ w.heap.size) (hcap : ps.length ≤ c) (hsz : ∀ p ∈ ps, p.rs.size ≤ maxLen) :
    Calls Try.prog 39 #[.int .i64 m, .slice A ps.length c] w (RetBLB (vAcceptedAfter m ps).1 (vAcceptedAfter m ps).2 w) := by
  obtain ⟨i0, hi0, hz0, hz1, hz2⟩ := info_parts int_info
  have HGC := Lib.hid (fun b (hb : goodE m ps = b) (W : World) (hW : Below w.heap.size w W) => (show Calls Try.prog 46 #[.int .i64 m, .slice A ps.length c] W (RetB b W) from by rw [← hb]; exact l14Good_any (hr.below hW hh) (Nat.le_trans hh hW.size) hcap hl hsz))
  rcases hgd : goodE m ps with _ | _
  · have HE := Lib.hid (show vAcceptedAfter m ps = ([], false) from by unfold vAcceptedAfter; rw [if_neg (by simp [hgd])])
    have HGD := Lib.hid hgd
    clear hgd
    go_enter Try.func39, Try.ntmps39
    go_wp2_with fail
    refine (HGC.out _ HGD.out _ (by first | exact Below.refl _ _ | exact below_alloc1 _ _)).mono ?_
    rintro e w1 ⟨rfl, B1⟩
    go_wp2_with fail
    go_ret2
    rw [HE.out]
    exact retBLB_of (xs := []) (row_below (row_empty w 4 1) B1) (Nat.le_refl _) ((below_alloc1 w _).trans (B1.mono (by simp)))
  have hmn := goodE_len hgd
  obtain ⟨M, rfl⟩ : ∃ M : Nat, m = (M : Int) := ⟨m.toNat, by omega⟩
  have HGD := Lib.hid hgd
  clear hgd
  go_enter Try.func39, Try.ntmps39
  go_wp2_with fail
  refine (HGC.out _ HGD.out _ (by first | exact Below.refl _ _ | exact below_alloc1 _ _)).mono ?_
  rintro e w1 ⟨rfl, B1⟩
  have HE := Lib.hid (show vAcceptedAfter (M : Int) ps = (accL ps M (liveE ps ps.length), true) from by unfold vAcceptedAfter; rw [if_pos HGD.out]; rfl)
  obtain ⟨ib, hib, hbz0, hbz1, hbz2⟩ := info_parts bool_info
  have BB1 := (below_alloc1 w (.cells #[] 4)).trans (B1.mono (by simp))
  obtain ⟨N1, hN1⟩ : ∃ N1, N1 = w.heap.size := ⟨_, rfl⟩
  have HN1 := Lib.hid hN1
  have O0 := row_below (row_empty_at w 4 1 (show N1 ≤ w.heap.size by omega)) B1
  clear B1 hN1
  go_wp2_with fail
  go_loopw [6, 7] (fun v i wr => ∃ j : Nat, j ≤ M ∧ i = .int .i64 j ∧ wr.ownsRow N1 4 1 v (accL ps j (liveE ps ps.length)).length (blsV (accL ps j (liveE ps ps.length))) ∧ Below w.heap.size w wr) (fun _ i _ => M - (intOf i).toNat)
  case atStart => exact ⟨0, Nat.zero_le _, rfl, O0, BB1⟩
  case round =>
    obtain ⟨j, hj, rfl, hown, hb⟩ := hrel
    have hlen : (accL ps j (liveE ps ps.length)).length ≤ 15 := by rw [accL_length]; omega
    by_cases hlt : j < M
    · have q1 : (j : Int) < (M : Int) := by omega
      obtain ⟨bv, hbv⟩ : ∃ bv, accE ps (j : Int) (liveE ps ps.length) = bv := ⟨_, rfl⟩
      have HA := Lib.hid (accL_succ hbv)
      have HAC := Lib.hid (fun (W : World) (hW : Below w.heap.size w W) => (show Calls Try.prog 49 #[.slice A ps.length c, .int .i64 (j : Int)] W (RetB bv W) from by rw [← hbv]; exact l14Accepted_any (hr.below hW hh) (Nat.le_trans hh hW.size) (Nat.le_refl _) (by omega)))
      clear hbv
      go_wp2_with fail
      refine (HAC.out _ hb).mono ?_
      rintro e w2 ⟨rfl, B2⟩
      have hown2 := row_below hown B2
      have hb2 := hb.trans (B2.mono hb.size)
      have hbs2 : N1 ≤ w2.heap.size := by have := hb2.size; have := HN1.out; omega
      go_wp2_with (at_builtin; refine wpList_push _ rfl _ _ 52 rfl N1 4 ib (.bool false) 1 1 Try.underlying52 hib hbz0 hbz1 hbz2 rfl (by decide) _ _ _ rfl hown2 [.bool bv] rfl (one_bool _) rfl (by omega) (by decide) hbs2 ?_; intro v1 w3 hown1 hb1 hs1 _ _)
      go_roundw
      case rel => exact ⟨j + 1, by omega, by go_num, push_b HA.out hown1, by have := hb1 w (by rw [HN1.out]; exact hb2); rwa [HN1.out] at this⟩
      case measure => simp [intOf]; omega
    · obtain rfl : j = M := by omega
      go_wp2_with fail
      go_ret2
      rw [HE.out]
      exact retBLB_of hown (by have := HN1.out; omega) hb

set_option maxHeartbeats 2000000 in
set_option maxRecDepth 100000 in
theorem iCleanSteps {A : Option Addr} {c lo hi : Nat} {m : Int} {ps : List GEditStep} {w : World} (hr : RdE w lo hi A ps) (hl : ps.length ≤ 2097152) (hh : hi ≤ w.heap.size) (hcap : ps.length ≤ c) (hsz : ∀ p ∈ ps, p.rs.size ≤ maxLen) :
    Calls Try.prog 31 #[.int .i64 m, .slice A ps.length c] w (RetEditStepSB (vCleanSteps m ps).1 (vCleanSteps m ps).2 w) := by
  obtain ⟨ie, hie, hez0, hez1, hez2⟩ := info_parts info_EditStep
  rcases hgd : goodE m ps with _ | _
  · have HE := Lib.hid (show vCleanSteps m ps = ([], false) from by unfold vCleanSteps; rw [if_neg (by simp [hgd])])
    have HGD := Lib.hid hgd
    clear hgd
    go_enter Try.func31, Try.ntmps31
    go_wp2_with fail
    refine (edited_any hr hh hl hsz).mono ?_
    rintro e w1 ⟨hc, B1⟩
    rcases hc with ⟨_, rfl⟩ | ⟨hx, _⟩
    rotate_left
    · rw [HGD.out] at hx; cases hx
    go_wp2_with fail
    go_ret2
    rw [HE.out]
    exact retESB_nil _ _ _ B1
  have hmn := goodE_len hgd
  obtain ⟨M, rfl⟩ : ∃ M : Nat, m = (M : Int) := ⟨m.toNat, by omega⟩
  have HGD := Lib.hid hgd
  clear hgd
  have HE := Lib.hid (show vCleanSteps (M : Int) ps = ((liveE ps ps.length).map (gE ps), true) from by unfold vCleanSteps; rw [if_pos HGD.out])
  go_enter Try.func31, Try.ntmps31
  go_wp2_with fail
  refine (edited_any hr hh hl hsz).mono ?_
  rintro e w1 ⟨hc, B1⟩
  rcases hc with ⟨hx, _⟩ | ⟨_, M', B, c', r, s, g, hM, rfl, ES⟩
  · rw [HGD.out] at hx; cases hx
  obtain rfl : M = M' := by omega
  obtain ⟨S, gr, gs, gg, LO⟩ := ES
  have hc0 := S.c0
  have hc1 := S.c1
  have hc2 := S.c2
  clear hM
  have hnl : (liveE ps ps.length).length = (natL (liveE ps ps.length)).length := (natL_len _).symm
  rw [hnl] at hc2 S LO
  have hc0' := S.c0
  clear hc0 hc1 hnl
  obtain ⟨N1, hN1⟩ : ∃ N1, N1 = w1.heap.size := ⟨_, rfl⟩
  have HN1 := Lib.hid hN1
  have O0 := row_empty_at w1 42 4 (show N1 ≤ w1.heap.size by omega)
  have hc2a := (S.alloc (.cells #[] 42)).c2
  have B0 := (below_alloc1 w1 (.cells #[] 42))
  rw [← hN1] at B0
  have hwN : w.heap.size ≤ N1 := by rw [hN1]; exact B1.size
  have hhN : hi ≤ N1 := by omega
  have hvN : w1.heap.size ≤ N1 := by omega
  have hr1 := hr.below B1 hh
  have hv1 := LO.rd
  have hnb : (natL (liveE ps ps.length)).length ≤ 20 := by rw [natL_len]; exact liveF_le HGD.out
  clear hN1 hc0'
  go_wp2_with fail
  go_loopw [8, 25] (fun v i wr => ∃ j : Nat, j ≤ (natL (liveE ps ps.length)).length ∧ i = .int .i64 j ∧ wr.ownsRow N1 42 4 v ((((liveE ps ps.length).take j).map (gE ps))).length (cellsEditStep (((liveE ps ps.length).take j).map (gE ps))) ∧ Below N1 w1 wr) (fun _ i _ => (natL (liveE ps ps.length)).length - (intOf i).toNat)
  case atStart => exact ⟨0, Nat.zero_le _, rfl, O0, B0⟩
  case round =>
    obtain ⟨j, hj, rfl, hown2, hb⟩ := hrel
    have hlen : (((liveE ps ps.length).take j).map (gE ps)).length ≤ 20 := by have := liveF_le HGD.out; simp; omega
    by_cases hlt : j < (natL (liveE ps ps.length)).length
    · obtain ⟨b, off, b', off', i, q, rfl, hbl, rfl, hbl', hik, hi, hgi, hcell, c0, c1, c2, c3⟩ := live_step (hr1.below hb hhN) (Nat.le_refl _) (hv1.below hb hvN) hlt
      have qi : (i : Int) < (ps.length : Int) := by omega
      have qj : (j : Int) < ((natL (liveE ps ps.length)).length : Int) := by omega
      have hbs2 : N1 ≤ wr.heap.size := by have := hb.size; have := HN1.out; omega
      have HT := Lib.hid (take_map (ps := ps) hi)
      rw [hgi] at HT
      clear hgi hi
      go_wp2_with (at_builtin; refine wpList_push _ rfl _ _ 25 rfl N1 42 ie (.agg #[.int .i64 0, .int .i64 0, .int .i64 0, .string ByteArray.empty]) 4 40 Try.underlying25 hie hez0 hez1 hez2 rfl (by decide) _ _ _ rfl hown2 [.int .i64 q.kd, .int .i64 q.mr, .int .i64 q.sh, .string q.rs] rfl (one_step _ _ _ _) rfl (by omega) (by decide) hbs2 ?_; intro v1 w3 hown1 hb1 hs1 _ _)
      go_roundw
      case rel => exact ⟨j + 1, by omega, by go_num, push_e HT.out hown1, hb1 _ hb⟩
      case measure => simp [intOf]; omega
    · have e : (liveE ps ps.length).take j = liveF ps := List.take_of_length_le (by rw [natL_len] at hlt; omega)
      rw [e] at hown2
      go_wp2_with fail
      go_ret2
      rw [HE.out]
      exact retESB_of hown2 hwN (B1.trans (hb.mono hwN))

set_option maxHeartbeats 2000000 in
set_option maxRecDepth 100000 in
theorem iReasonsFor {A : Option Addr} {c lo hi : Nat} {m mark : Int} {ps : List GEditStep} {w : World} (hr : RdE w lo hi A ps) (hl : ps.length ≤ 2097152) (hh : hi ≤ w.heap.size) (hcap : ps.length ≤ c) (hsz : ∀ p ∈ ps, p.rs.size ≤ maxLen) :
    Calls Try.prog 35 #[.int .i64 m, .slice A ps.length c, .int .i64 mark] w (RetSLB (vReasonsFor m ps mark).1 (vReasonsFor m ps mark).2 w) := by
  obtain ⟨is, his, hsz0, hsz1, hsz2⟩ := info_parts str_info
  rcases hgd : goodE m ps with _ | _
  · have HE := Lib.hid (show vReasonsFor m ps mark = ([], false) from by unfold vReasonsFor; rw [if_neg (by simp [hgd])])
    have HGD := Lib.hid hgd
    clear hgd
    go_enter Try.func35, Try.ntmps35
    go_wp2_with fail
    refine (edited_any hr hh hl hsz).mono ?_
    rintro e w1 ⟨hc, B1⟩
    rcases hc with ⟨_, rfl⟩ | ⟨hx, _⟩
    rotate_left
    · rw [HGD.out] at hx; cases hx
    go_wp2_with fail
    go_ret2
    rw [HE.out]
    exact retSLB_nil _ _ _ B1
  have hmn := goodE_len hgd
  obtain ⟨M, rfl⟩ : ∃ M : Nat, m = (M : Int) := ⟨m.toNat, by omega⟩
  have HGD := Lib.hid hgd
  clear hgd
  have qm : IntKind.i64.wrap ((M : Int) - 1) = (M : Int) - 1 := wr64 (by omega) (by omega)
  rcases hin : inR mark 0 ((M : Int) - 1) with _ | _
  · have HE := Lib.hid (show vReasonsFor (M : Int) ps mark = ([], false) from by unfold vReasonsFor; rw [if_neg (by simp [hin])])
    have HIN := Lib.hid (fun (W : World) => (show Calls Try.prog 54 #[.int .i64 mark, .int .i64 0, .int .i64 ((M : Int) - 1)] W (fun e w' => e = .returned (.bool false) ∧ W = w') from by rw [← hin]; exact inside_any _ _ _ _))
    clear hin
    go_enter Try.func35, Try.ntmps35
    go_wp2_with fail
    refine (edited_any hr hh hl hsz).mono ?_
    rintro e w1 ⟨hc, B1⟩
    rcases hc with ⟨hx, _⟩ | ⟨_, M', B, c', r, s, g, hM, rfl, ES⟩
    · rw [HGD.out] at hx; cases hx
    obtain rfl : M = M' := by omega
    obtain ⟨S, gr, gs, gg, LO⟩ := ES
    have hc0 := S.c0
    have hc1 := S.c1
    have hc2 := S.c2
    clear hM
    go_wp2_with fail
    refine (HIN.out _).mono ?_
    rintro e w' ⟨rfl, rfl⟩
    go_wp2_with fail
    go_ret2
    rw [HE.out]
    exact retSLB_nil _ _ _ B1
  have HE := Lib.hid (show vReasonsFor (M : Int) ps mark = (reasons ps mark (liveE ps ps.length), true) from by unfold vReasonsFor; rw [if_pos ⟨HGD.out, hin⟩])
  have HIN := Lib.hid (fun (W : World) => (show Calls Try.prog 54 #[.int .i64 mark, .int .i64 0, .int .i64 ((M : Int) - 1)] W (fun e w' => e = .returned (.bool true) ∧ W = w') from by rw [← hin]; exact inside_any _ _ _ _))
  clear hin
  go_enter Try.func35, Try.ntmps35
  go_wp2_with fail
  refine (edited_any hr hh hl hsz).mono ?_
  rintro e w1 ⟨hc, B1⟩
  rcases hc with ⟨hx, _⟩ | ⟨_, M', B, c', r, s, g, hM, rfl, ES⟩
  · rw [HGD.out] at hx; cases hx
  obtain rfl : M = M' := by omega
  obtain ⟨S, gr, gs, gg, LO⟩ := ES
  have hc0 := S.c0
  have hc1 := S.c1
  have hc2 := S.c2
  clear hM
  go_wp2_with fail
  refine (HIN.out _).mono ?_
  rintro e w' ⟨rfl, rfl⟩
  have hnl : (liveE ps ps.length).length = (natL (liveE ps ps.length)).length := (natL_len _).symm
  rw [hnl] at hc2 S LO
  have hc0' := S.c0
  clear hc0 hc1 hnl
  obtain ⟨N1, hN1⟩ : ∃ N1, N1 = w1.heap.size := ⟨_, rfl⟩
  have HN1 := Lib.hid hN1
  have O0 := row_empty_at w1 9 1 (show N1 ≤ w1.heap.size by omega)
  have hc2a := (S.alloc (.cells #[] 9)).c2
  have B0 := (below_alloc1 w1 (.cells #[] 9))
  rw [← hN1] at B0
  have hwN : w.heap.size ≤ N1 := by rw [hN1]; exact B1.size
  have hhN : hi ≤ N1 := by omega
  have hvN : w1.heap.size ≤ N1 := by omega
  have hr1 := hr.below B1 hh
  have hv1 := LO.rd
  have hnb : (natL (liveE ps ps.length)).length ≤ 20 := by rw [natL_len]; exact liveF_le HGD.out
  clear hN1 hc0'
  go_wp2_with fail
  go_loopw [10, 34] (fun v i wr => ∃ j : Nat, j ≤ (natL (liveE ps ps.length)).length ∧ i = .int .i64 j ∧ wr.ownsRow N1 9 1 v (reasons ps mark ((liveE ps ps.length).take j)).length (strV (reasons ps mark ((liveE ps ps.length).take j))) ∧ Below N1 w1 wr) (fun _ i _ => (natL (liveE ps ps.length)).length - (intOf i).toNat)
  case atStart => exact ⟨0, Nat.zero_le _, rfl, O0, B0⟩
  case round =>
    obtain ⟨j, hj, rfl, hown2, hb⟩ := hrel
    have hlen : (reasons ps mark ((liveE ps ps.length).take j)).length ≤ 20 := by have := liveF_le HGD.out; have := reasons_le ps mark ((liveE ps ps.length).take j); have := List.length_take_le j (liveE ps ps.length); have := List.length_take_le' j (liveE ps ps.length); omega
    by_cases hlt : j < (natL (liveE ps ps.length)).length
    · obtain ⟨b, off, b', off', i, q, rfl, hbl, rfl, hbl', hik, hi, hgi, hcell, c0, c1, c2, c3⟩ := live_step (hr1.below hb hhN) (Nat.le_refl _) (hv1.below hb hvN) hlt
      have qi : (i : Int) < (ps.length : Int) := by omega
      have qj : (j : Int) < ((natL (liveE ps ps.length)).length : Int) := by omega
      have hbs2 : N1 ≤ wr.heap.size := by have := hb.size; have := HN1.out; omega
      have HTK := Lib.hid (take_nat hi)
      have HRL := Lib.hid (hlen)
      by_cases hm : q.mr = mark
      · have m1 : (q.mr == mark) = true := by simpa using hm
        have HT := Lib.hid (reasons_yes (ps := ps) (l := (liveE ps ps.length).take j) (i := i) (mark := mark) (by rw [hgi]; exact hm))
        rw [hgi, ← HTK.out] at HT
        clear hgi hi hm
        go_wp2_with (at_builtin; refine wpList_push _ rfl _ _ 46 rfl N1 9 is (.string ByteArray.empty) 1 16 Try.underlying46 his hsz0 hsz1 hsz2 rfl (by decide) _ _ _ rfl hown2 [.string q.rs] rfl (one_str _) rfl (by omega) (by decide) hbs2 ?_; intro v1 w3 hown1 hb1 hs1 _ _)
        go_roundw
        case rel => exact ⟨j + 1, by omega, by go_num, push_s HT.out hown1, hb1 _ hb⟩
        case measure => simp [intOf]; omega
      · have m1 : (q.mr == mark) = false := by simpa using hm
        have HT := Lib.hid (reasons_no (ps := ps) (l := (liveE ps ps.length).take j) (i := i) (mark := mark) (by rw [hgi]; exact hm))
        rw [← HTK.out] at HT
        clear hgi hi hm
        go_wp2_with fail
        go_roundw
        case rel => exact ⟨j + 1, by omega, by go_num, by rw [HT.out]; exact hown2, hb⟩
        case measure => simp [intOf]; omega
    · have e : (liveE ps ps.length).take j = liveF ps := List.take_of_length_le (by rw [natL_len] at hlt; omega)
      rw [e] at hown2
      go_wp2_with fail
      go_ret2
      rw [HE.out]
      exact retSLB_of hown2 hwN (B1.trans (hb.mono hwN))

end Go.Proofs.Ytdcbgahfbcemnaa
