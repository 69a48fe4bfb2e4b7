/-
  This file proves a contract on hypotheses: the pairs between neighbours, of the reference.
  Conditions: that the slice reads as a list of depths, that it is not too long.
-/
import Derived.Test.YtdllhdfoinobjaaHypJ
import Derived.Test.YtdllhdfoinobjaaHypI
namespace Go.Proofs.Ytdllhdfoinobjaa
open Go.RowKit
set_option linter.unusedSimpArgs false
set_option linter.unusedVariables false

/-- At a step of a region that draws its order: 'append(s, l...)', telling where the new slice lies. -/
theorem step_cat_at {P : Program} (w : World) {ops : Array Oper} {o : Oper} {a : Act} {K : Act → World → Prop} {Q : Exit → Act → World → Prop} {E : Prop} (hgd : o.guard = none) (s x : Operand) (t : TypeId)
    (ho : o.op = .call { callee := .builtin .append, args := #[s, x], argTypes := #[t, t] })
    (base : Nat) (e : TypeId) (i : TypeInfo) (z : Value) (size bytes : Nat) (ht : P.underlying t = some (.slice e)) (hi : P.info? e = some i) (hz : i.zero = some z)
    (hsize : i.size = size) (hby : i.bytes = bytes) (hzs : z.cells.size = size) (hsz : 0 < size)
    (B : Option Addr) (n c0 : Nat) (xs : List Value) (hs : a.eval s = .slice B n c0) (hi0 : Nat) (hown : Own w e base hi0 size B n c0 xs)
    (lo hi' : Nat) (A : Option Addr) (m c : Nat) (news : List Value) (hx : a.eval x = .slice A m c) (hr : Rd w lo hi' size A m news) (h1 : ∀ u ∈ news, u.oneCell' = true)
    (hn : n + m ≤ 1099511627776) (hb : bytes ≤ 64) (hbase : base ≤ w.heap.size)
    (h : ∀ B' c' w', Own w' e base w'.heap.size size B' (n + m) c' (xs ++ news) → (∀ w0, Below base w0 w → Below base w0 w') → w.heap.size ≤ w'.heap.size →
      (∀ b, b < w.heap.size → (Value.slice B n c0).ownBlock ≠ some b → w'.heap[b]? = w.heap[b]?) →
      (∀ b, b < w.heap.size → (Value.slice B n c0).ownBlock ≠ some b → (Value.slice B' (n + m) c').ownBlock ≠ some b) → K (a.put o.dst (.slice B' (n + m) c')) w') :
    if Region.wanted o (yielded ops a.tmps) = true then Oper.wp P o a w K Q else E := by
  have hw : Region.wanted o (yielded ops a.tmps) = true := by simp [Region.wanted, hgd]
  rw [if_pos hw]
  obtain ⟨v', w', hr', h2, h3, h5⟩ := run_cat (P := P) w t o.type base e i z size bytes ht hi hz hsize hby hzs hsz _ n xs hown.1 lo hi' A m c news hr h1 hn hb hbase
  obtain ⟨B', c', rfl, ho'⟩ := Own.of_row h2
  have hlt := hown.1.lt
  unfold Oper.wp execOp
  simp only [ho, resolve, invoke, builtin, Sem.run_bind, Sem.run_pure, Result.andThen_ok, List.map_toArray, List.map_cons, List.map_nil, hs, hx, hr']
  refine h B' c' w' ho' (fun w0 hw0 => hw0.grown h3 hbase (fun k hk => (hlt k hk).1)) h3.size (fun b hb1 hb2 => h3.block b hb1 fun e0 => hb2 e0.symm) (fun b hb1 hb2 e0 => ?_)
  rcases h5 with h5 | h5
  · exact hb2 (h5.symm.trans e0)
  · rw [h5] at e0
    injection e0 with e0
    omega

set_option maxHeartbeats 1000000 in
set_option maxRecDepth 100000 in
theorem sSplitsAt {A : Option Addr} {c lo hi : Nat} {xs : List Int} {wd : Int} {w : World} (hr : RdI w lo hi A xs) (hl : xs.length ≤ 4194304) (hh : hi ≤ w.heap.size) :
    Calls Try.prog 16 #[.slice A xs.length c, .int .i64 wd] w (RetPairsB (vSplitsAt xs wd).1 (vSplitsAt xs wd).2 w) := by
  obtain ⟨i0, hi0, hz0, hz1, hz2⟩ := info_parts info_Pair
  by_cases h1 : canV xs wd = true
  rotate_left
  · have h1' : canV xs wd = false := by simpa using h1
    have HE := Lib.hid (show vSplitsAt xs wd = ([], false) from by unfold vSplitsAt; rw [if_neg (by simp [h1'])])
    clear h1
    go_enter Try.func16, Try.ntmps16
    go_wp2_with fail
    refine (l13Asked_any (hr.below (below_alloc1 w _) hh) hl (by simp; omega)).mono ?_
    rintro e w' ⟨rfl, rfl⟩
    rw [h1']
    go_wp2_with fail
    go_ret2
    rw [HE.out]
    exact retPairsB_of (ps := []) (row_empty_at _ _ _ (Nat.le_refl _)) (Nat.le_refl _) (below_alloc1 _ _)
  have HE := Lib.hid (show vSplitsAt xs wd = (spl (hypV xs wd) ((hypV xs wd).length - 1), true) from by unfold vSplitsAt; rw [if_pos h1])
  have H1 := Lib.hid h1
  have hfa := hypV_facts h1
  have hl20 := hfa.1
  have hpos := hfa.2.2.2
  clear hfa
  go_enter Try.func16, Try.ntmps16
  go_wp2_with fail
  refine (l13Asked_any (hr.below (below_alloc1 w _) hh) hl (by simp; omega)).mono ?_
  rintro e w' ⟨rfl, rfl⟩
  rw [h1]
  clear h1
  go_wp2_with fail
  refine (l13Of_any (hr.below (below_alloc1 w _) hh) (by simp; omega) H1.out).mono ?_
  rintro e w1 ⟨A1, c1, rfl, O1, B1⟩
  generalize hF : hypV xs wd = F at O1 hl20 hpos ⊢
  rw [hF] at HE
  clear hF
  obtain ⟨gG, rfl, hgG1, hgG2⟩ := O1.length_pos hpos
  have hgw : w.heap.size < gG := by simp at hgG1; omega
  have hRG := O1.rd.tight
  have hb1 : Below w.heap.size w w1 := (below_alloc1 w _).trans (B1.mono (by simp))
  have ho1 := row_below (row_empty_at w 66 2 (Nat.le_refl _)) B1
  have hv1 : (Value.slice (some ⟨w.heap.size, 0, none⟩) 0 0).ownBlock ≠ some gG := by rw [ownBlock_slice]; intro h; injection h with h; omega
  clear O1 B1 hgG1
  go_wp2_with fail
  go_loopw [6, 8] (fun v i wr => ∃ k j : Nat, j = k + 1 ∧ j ≤ F.length ∧ i = .int .i64 j ∧ wr.ownsRow w.heap.size 66 2 v (spl F k).length (cellsPair (spl F k)) ∧ v.ownBlock ≠ some gG ∧ RdH wr gG (gG + 1) (some ⟨gG, 0, none⟩) F ∧ Below w.heap.size w wr ∧ gG < wr.heap.size) (fun _ i _ => F.length - (intOf i).toNat)
  case atStart => exact ⟨0, 1, rfl, by omega, rfl, ho1, hv1, hRG, hb1, hgG2⟩
  case round =>
    clear ho1 hv1 hRG hb1 hgG2
    obtain ⟨k, j, hjk, hk, rfl, hown, hvb, hRG, hb, hgs⟩ := hrel
    have HJ := Lib.hid hjk
    have HVB := Lib.hid hvb
    clear hvb
    have hsl := spl_len F k
    by_cases hlt : j < F.length
    rotate_left
    · have HK := Lib.hid (show F.length - 1 = k from by omega)
      have HOWN := Lib.hid hown
      have q1 : ¬ ((j : Int) < (F.length : Int)) := by omega
      clear hown hsl hjk
      go_wp2_with fail
      go_ret2
      rw [HE.out, HK.out]
      exact retPairsB_of HOWN.out (Nat.le_refl _) hb
    obtain ⟨bA, off, x, hrow0, _, hbA, hx, _, x1, _⟩ := hRG.getHypothesis (k := k) (by omega)
    obtain ⟨bB, offB, y, hrow, _, _, hy, y0, _, _⟩ := hRG.getHypothesis (k := j) hlt
    injection hrow with hrow
    injection hrow with e1 e2 e3
    subst e1 e2
    injection hrow0 with hrow0
    injection hrow0 with e1 e2 e3
    subst e1 e2
    rw [Nat.zero_add] at x1 y0
    have HS := Lib.hid (spl_step hx (by rw [← hjk]; exact hy))
    obtain ⟨A5, c5, rfl, O5⟩ := Own.of_row hown
    obtain ⟨L, hL⟩ : ∃ L, spl F k = L := ⟨_, rfl⟩
    rw [hL] at O5 hsl HS
    obtain ⟨n, hn⟩ : ∃ n, L.length = n := ⟨_, rfl⟩
    have HV := Lib.hid (ownBlock_any HVB.out)
    rw [hL, hn]
    rw [hn] at O5 hsl
    have HN := Lib.hid hn
    have hn20 : n ≤ 20 := by omega
    have q1 : (j : Int) < (F.length : Int) := by omega
    have q2 : (k : Int) < (F.length : Int) := by omega
    have q3 : (0 : Int) ≤ (k : Int) := by omega
    have q4 : IntKind.i64.wrap ((j : Int) - 1) = (k : Int) := by rw [show (j : Int) - 1 = (k : Int) by omega]; exact wr64 (by omega) (by omega)
    have q5 : IntKind.i64.wrap (k : Int) = (k : Int) := wr64 (by omega) (by omega)
    have hbd := hb.drew
    have O7 : Own wr.drew _ _ _ _ _ _ _ _ := ⟨O5.1, O5.2⟩
    have hz7 : wr.heap.size ≤ wr.drew.heap.size := Nat.le_refl _
    have hbs : w.heap.size ≤ wr.drew.heap.size := hb.size
    have hR7 : RdH wr.drew gG (gG + 1) (some ⟨gG, 0, none⟩) F := hRG
    have hC7 : wr.drew.cell? ⟨gG, k * 3 + 1, none⟩ = some (.int .i64 x.hg) ∧ wr.drew.cell? ⟨gG, j * 3, none⟩ = some (.int .i64 y.lw) := ⟨x1, y0⟩
    have hgs7 : gG < wr.drew.heap.size := hgs
    have HCA : ∀ ob : Obj, (wr.drew.alloc ob).cell? ⟨gG, k * 3 + 1, none⟩ = some (.int .i64 x.hg) ∧ (wr.drew.alloc ob).cell? ⟨gG, j * 3, none⟩ = some (.int .i64 y.lw) := fun ob =>
      ⟨((below_alloc1 _ ob).cell (p := ⟨gG, k * 3 + 1, none⟩) hgs7).trans hC7.1, ((below_alloc1 _ ob).cell (p := ⟨gG, j * 3, none⟩) hgs7).trans hC7.2⟩
    have hg8 : gG < (wr.drew.alloc (.cells #[.int .i64 x.hg, .int .i64 y.lw] 66)).heap.size := by simp; exact Nat.lt_succ_of_lt hgs7
    have HK8 : ∀ w8 : World, w8.heap[gG]? = (wr.drew.alloc (.cells #[.int .i64 x.hg, .int .i64 y.lw] 66)).heap[gG]? → w8.cell? ⟨gG, k * 3 + 1, none⟩ = some (.int .i64 x.hg) ∧ w8.cell? ⟨gG, j * 3, none⟩ = some (.int .i64 y.lw) := fun w8 h =>
      ⟨(World.cell?_of_block h).trans (HCA _).1, (World.cell?_of_block h).trans (HCA _).2⟩
    clear hjk hx hy hown hL hn hsl O5 hRG e3
    go_wp2_with fail
    go_region_held3 (fun w' => (w'.cell? ⟨gG, k * 3 + 1, none⟩ = some (.int .i64 x.hg) ∧ w'.cell? ⟨gG, j * 3, none⟩ = some (.int .i64 y.lw)) ∧ Below w.heap.size w w')
      ((first | exact ⟨hC7, hbd⟩ | exact ⟨C8, L3⟩ | exact ⟨HCA _, hbd.alloc hbs _⟩))
      ((first | (refine step_cat_at _ (by rfl) (.tmp 24) (.tmp 37) 32 (by rfl) w.heap.size 66 i0 (.agg #[.int .i64 0, .int .i64 0]) 2 16 Try.underlying32 hi0 hz0 hz1 hz2 (by rfl) (by decide) A5 n c5 _ (by rfl) _ (O7.below (below_alloc1 _ _) hz7) 0 _ (some ⟨_, 0, none⟩) 1 1 [.int .i64 x.hg, .int .i64 y.lw] (by rfl) (rd_new2 _ _ _ _) (one_pair _ _) (by omega) (by decide) (Nat.le_trans hbs (below_alloc1 _ _).size) ?_; intro B8 c8 w8 O8 b8 s8 k8 l8; have L3 := b8 _ (hbd.alloc hbs _); have C8 := HK8 w8 (k8 gG hg8 (HV.out _ _)))))
    all_goals
      have hown7 := O8.1
      replace hown7 : w8.ownsRow w.heap.size 66 2 (Value.slice B8 (n + 1) c8) (L.length + 1) (cellsPair L ++ [.int .i64 x.hg, .int .i64 y.lw]) := by rw [HN.out]; exact hown7
      have hown8 := push_relP HS.out hown7
      have gs8 := Nat.lt_of_lt_of_le hg8 s8
      have m8 := l8 gG hg8 (HV.out _ _)
      have R8 := (hR7.below (below_alloc1 _ (.cells #[.int .i64 x.hg, .int .i64 y.lw] 66)) hgs7).tkeep (k8 gG hg8 (HV.out _ _))
      clear O7 O8 HCA hC7 HK8
      go_wp2_with fail
      go_roundw
      case rel => exact ⟨k + 1, j + 1, by rw [HJ.out], by omega, by go_num, hown8, m8, R8, L3, gs8⟩
      case measure => simp [intOf]; omega


end Go.Proofs.Ytdllhdfoinobjaa
