/-
  This file proves contracts on hypotheses: the pairs between neighbours, of the program and of the reference.
  Conditions: that the slice reads as a list of depths, that it is not too long.
-/
import Derived.Test.YtdllhdfoinobjaaPairM
import Derived.StillTailTactics
namespace Go.Proofs.Ytdllhdfoinobjaa
open Go.RowKit
set_option linter.unusedSimpArgs false
set_option linter.unusedVariables false

def gH (F : List GHypothesis) (k : Nat) : GHypothesis := F.getD k ⟨0, 0, 0⟩
theorem gH_of {F : List GHypothesis} {k : Nat} {h : GHypothesis} (hp : F[k]? = some h) : gH F k = h := by simp [gH, List.getD, hp]
def spl (F : List GHypothesis) (k : Nat) : List GPair := (List.range k).map fun i => ⟨(gH F i).hg, (gH F (i + 1)).lw⟩
theorem spl_len (F : List GHypothesis) (k : Nat) : (spl F k).length = k := by simp [spl]
theorem spl_step {F : List GHypothesis} {k : Nat} {p q : GHypothesis} (hp : F[k]? = some p) (hq : F[k + 1]? = some q) : spl F (k + 1) = spl F k ++ [⟨p.hg, q.lw⟩] := by
  unfold spl
  rw [List.range_succ, List.map_append, List.map_singleton, gH_of hp, gH_of hq]
def vSplitsAt (xs : List Int) (wd : Int) : List GPair × Bool := if canV xs wd = true then (spl (hypV xs wd) ((hypV xs wd).length - 1), true) else ([], false)
theorem vSplitsAt_len0 (xs : List Int) (wd : Int) : (vSplitsAt xs wd).1.length ≤ 20 := by
  unfold vSplitsAt
  split
  · rename_i h
    have := (hypV_facts h).1
    rw [spl_len]; omega
  · simp
theorem rd_new2 (w : World) (e : TypeId) (x y : Int) : Rd (w.alloc (.cells #[.int .i64 x, .int .i64 y] e)) 0 (w.alloc (.cells #[.int .i64 x, .int .i64 y] e)).heap.size 2 (some ⟨w.heap.size, 0, none⟩) 1 [.int .i64 x, .int .i64 y] := by
  refine ⟨rfl, fun _ => ⟨w.heap.size, 0, rfl, Nat.zero_le _, by simp, fun j u hu => ?_⟩⟩
  have := cells_new w [.int .i64 x, .int .i64 y] e j u hu
  rwa [Addr.add_lit] at this
theorem one_pair (x y : Int) : ∀ u ∈ ([.int .i64 x, .int .i64 y] : List Value), u.oneCell' = true := by
  intro u hu
  simp at hu
  rcases hu with rfl | rfl <;> rfl
theorem push_relP {w : World} {base : Nat} {e : TypeId} {v : Value} {F F' : List GPair} {x y : Int} (he : F' = F ++ [⟨x, y⟩]) (h : w.ownsRow base e 2 v (F.length + 1) (cellsPair F ++ [.int .i64 x, .int .i64 y])) : w.ownsRow base e 2 v F'.length (cellsPair F') := by
  subst he
  have e1 : cellsPair (F ++ [⟨x, y⟩]) = cellsPair F ++ [.int .i64 x, .int .i64 y] := by simp [cellsPair, GPair.cells]
  rw [e1, List.length_append]
  exact h
theorem retPairsB_of {base : Nat} {ps : List GPair} {b : Bool} {w w' : World} {v : Value} (h : w'.ownsRow base 66 2 v ps.length (cellsPair ps)) (hbs : w.heap.size ≤ base) (hb : Below w.heap.size w w') : RetPairsB ps b w (.returned (.tuple #[v, .bool b])) w' := by
  obtain ⟨A, c, rfl, ho⟩ := Own.of_row h
  exact ⟨A, c, rfl, ho.more hbs (Nat.le_refl _), hb⟩
theorem retPairsB_nil (b : Bool) (w w' : World) (hb : Below w.heap.size w w') : RetPairsB [] b w (.returned (.tuple #[.slice none 0 0, .bool b])) w' :=
  ⟨none, 0, rfl, ⟨⟨rfl, .inl ⟨rfl, rfl⟩⟩, fun a ha => by cases ha⟩, hb⟩

set_option maxHeartbeats 1000000 in
set_option maxRecDepth 100000 in
theorem iSplitsAt {A : Option Addr} {c lo hi : Nat} {xs : List Int} {wd : Int} {w : World} (hr : RdI w lo hi A xs) (hl : xs.length ≤ 4194304) (hh : hi ≤ w.heap.size) :
    Calls Try.prog 15 #[.slice A xs.length c, .int .i64 wd] w (RetPairsB (vSplitsAt xs wd).1 (vSplitsAt xs wd).2 w) := by
  obtain ⟨i0, hi0, hz0, hz1, hz2⟩ := info_parts info_Pair
  by_cases h1 : canV xs wd = true
  rotate_left
  · have h1' : canV xs wd = false := by simpa using h1
    have HE := Lib.hid (show vSplitsAt xs wd = ([], false) from by unfold vSplitsAt; rw [if_neg (by simp [h1'])])
    clear h1
    go_enter Try.func15, Try.ntmps15
    go_wp2_with fail
    refine (canVote_any hr hl hh).mono ?_
    rintro e w' ⟨rfl, rfl⟩
    rw [h1']
    go_wp2_with fail
    go_ret2
    rw [HE.out]
    exact retPairsB_nil _ _ _ (Below.refl _ _)
  have HE := Lib.hid (show vSplitsAt xs wd = (spl (hypV xs wd) ((hypV xs wd).length - 1), true) from by unfold vSplitsAt; rw [if_pos h1])
  have H1 := Lib.hid h1
  have hfa := hypV_facts h1
  have hl20 := hfa.1
  have hpos := hfa.2.2.2
  have HBD := Lib.hid hfa.2.1
  clear hfa
  go_enter Try.func15, Try.ntmps15
  go_wp2_with fail
  refine (canVote_any hr hl hh).mono ?_
  rintro e w' ⟨rfl, rfl⟩
  rw [h1]
  clear h1
  go_wp2_with fail
  refine (hypothesesOf_any hr hh H1.out).mono ?_
  rintro e w1 ⟨A1, c1, rfl, O1, B1⟩
  have hR := O1.rd
  have hs1 := B1.size
  clear O1
  generalize hF : hypV xs wd = F at hR hl20 hpos HBD ⊢
  rw [hF] at HE
  clear hF
  obtain ⟨b0, hb00⟩ : ∃ b0, b0 = w1.heap.size := ⟨_, rfl⟩
  have ho1 := row_empty_at w1 66 2 (Nat.le_of_eq hb00)
  have hb1 : Below b0 w1 (w1.alloc (.cells #[] 66)) := (Below.refl b0 w1).alloc (Nat.le_of_eq hb00) _
  rw [← hb00] at hR
  go_wp2_with fail
  have HB0 := Lib.hid hb00
  go_loopw [7, 8] (fun v i wr => ∃ k j : Nat, j = k + 1 ∧ j ≤ F.length ∧ i = .int .i64 j ∧ wr.ownsRow b0 66 2 v (spl F k).length (cellsPair (spl F k)) ∧ Below b0 w1 wr) (fun _ i _ => F.length - (intOf i).toNat)
  case atStart => exact ⟨0, 1, rfl, by omega, rfl, ho1, hb1⟩
  case round =>
    clear ho1 hb1
    obtain ⟨k, j, hjk, hk, rfl, hown, hb⟩ := hrel
    have HJ := Lib.hid hjk
    have hsl := spl_len F k
    by_cases hlt : j < F.length
    rotate_left
    · have HK := Lib.hid (show F.length - 1 = k from by omega)
      have HOWN := Lib.hid hown
      have q1 : ¬ ((j : Int) < (F.length : Int)) := by omega
      clear hown hsl hjk
      go_wp2_with fail
      go_ret2
      rw [HE.out, HK.out]
      exact retPairsB_of HOWN.out (by have := HB0.out; omega) (B1.trans (hb.mono (by have := HB0.out; omega)))
    obtain ⟨bA, off, x, rfl, _, hbA, hx, _, x1, _⟩ := hR.getHypothesis (k := k) (by omega)
    obtain ⟨bB, offB, y, hrow, _, _, hy, y0, _, _⟩ := hR.getHypothesis (k := j) hlt
    injection hrow with hrow
    injection hrow with e1 e2 e3
    subst e1 e2
    have HS := Lib.hid (spl_step hx (by rw [← hjk]; exact hy))
    have HC : ∀ wx, Below b0 w1 wx → wx.cell? ⟨bA, off + k * 3 + 1, none⟩ = some (.int .i64 x.hg) ∧ wx.cell? ⟨bA, off + j * 3, none⟩ = some (.int .i64 y.lw) := fun wx h =>
      ⟨(h.cell (p := ⟨bA, off + k * 3 + 1, none⟩) hbA).trans x1, (h.cell (p := ⟨bA, off + j * 3, none⟩) hbA).trans y0⟩
    obtain ⟨A5, c5, rfl, O5⟩ := Own.of_row hown
    obtain ⟨L, hL⟩ : ∃ L, spl F k = L := ⟨_, rfl⟩
    rw [hL] at O5 hsl HS
    obtain ⟨n, hn⟩ : ∃ n, L.length = n := ⟨_, rfl⟩
    rw [hL, hn]
    rw [hn] at O5 hsl
    have HN := Lib.hid hn
    have hn20 : n ≤ 20 := by omega
    have q1 : (j : Int) < (F.length : Int) := by omega
    have q2 : (k : Int) < (F.length : Int) := by omega
    have q3 : (0 : Int) ≤ (k : Int) := by omega
    have q4 : IntKind.i64.wrap ((j : Int) - 1) = (k : Int) := by rw [show (j : Int) - 1 = (k : Int) by omega]; exact wr64 (by omega) (by omega)
    have q5 : IntKind.i64.wrap (k : Int) = (k : Int) := wr64 (by omega) (by omega)
    have hbd := hb.drew
    have O7 : Own wr.drew _ _ _ _ _ _ _ _ := ⟨O5.1, O5.2⟩
    have hz7 : wr.heap.size ≤ wr.drew.heap.size := Nat.le_refl _
    have hbs : b0 ≤ wr.drew.heap.size := by have := hb.size; have := HB0.out; show b0 ≤ wr.heap.size; omega
    clear hjk hx hy x1 y0 hown hL hn hsl O5 hb00
    go_wp2_with fail
    go_region_held3 (fun w' => (w'.cell? ⟨bA, off + k * 3 + 1, none⟩ = some (.int .i64 x.hg) ∧ w'.cell? ⟨bA, off + j * 3, none⟩ = some (.int .i64 y.lw)) ∧ Below b0 w1 w')
      ((first | exact ⟨HC _ hbd, hbd⟩ | exact ⟨HC _ L3, L3⟩ | exact ⟨HC _ (hbd.alloc hbs _), hbd.alloc hbs _⟩))
      ((first | (refine step_cat _ (by rfl) (.tmp 23) (.tmp 36) 32 (by rfl) b0 66 i0 (.agg #[.int .i64 0, .int .i64 0]) 2 16 Try.underlying32 hi0 hz0 hz1 hz2 (by rfl) (by decide) A5 n c5 _ (by rfl) _ (O7.below (below_alloc1 _ _) hz7) 0 _ (some ⟨_, 0, none⟩) 1 1 [.int .i64 x.hg, .int .i64 y.lw] (by rfl) (rd_new2 _ _ _ _) (one_pair _ _) (by omega) (by decide) (Nat.le_trans hbs (below_alloc1 _ _).size) ?_; intro B8 c8 w8 O8 b8 s8 k8; have L3 := b8 _ (hbd.alloc hbs _))))
    all_goals
      have hown7 := O8.1
      replace hown7 : w8.ownsRow b0 66 2 (Value.slice B8 (n + 1) c8) (L.length + 1) (cellsPair L ++ [.int .i64 x.hg, .int .i64 y.lw]) := by rw [HN.out]; exact hown7
      have hown8 := push_relP HS.out hown7
      clear O7 O8 HC
      go_wp2_with fail
      go_roundw
      case rel => exact ⟨k + 1, j + 1, by rw [HJ.out], by omega, by go_num, hown8, L3⟩
      case measure => simp [intOf]; omega


end Go.Proofs.Ytdllhdfoinobjaa
