/-
  This file proves contracts on hypotheses: the strong ones of votes (the library's deletion by a closure) and the safe depth.
  Conditions: that the slice reads as a list of depths, that it is not too long.
-/
import Derived.Test.YtdllhdfoinobjaaHypE
import Derived.Lib.SliceRun
namespace Go.Proofs.Ytdllhdfoinobjaa
open Go.RowKit
set_option linter.unusedSimpArgs false
set_option linter.unusedVariables false

def strL (s : Int) (F : List GHypothesis) : List GHypothesis := F.filter fun h => !decide (h.vt < s)
theorem strL_keep {s : Int} {F : List GHypothesis} {j : Nat} {p : GHypothesis} (hp : F[j]? = some p) (h : ¬ p.vt < s) : strL s (F.take (j + 1)) = strL s (F.take j) ++ [p] := by
  unfold strL
  rw [List.take_add_one, hp, List.filter_append]
  simp [h]
theorem strL_skip {s : Int} {F : List GHypothesis} {j : Nat} {p : GHypothesis} (hp : F[j]? = some p) (h : p.vt < s) : strL s (F.take (j + 1)) = strL s (F.take j) := by
  unfold strL
  rw [List.take_add_one, hp, List.filter_append]
  simp [h]
theorem strL_le (s : Int) (F : List GHypothesis) : (strL s F).length ≤ F.length := List.length_filter_le _ _
theorem cellsH_app (F G : List GHypothesis) : cellsHypothesis (F ++ G) = cellsHypothesis F ++ cellsHypothesis G := by simp [cellsHypothesis]
theorem cellsH_drop {F : List GHypothesis} {j : Nat} {p : GHypothesis} (hp : F[j]? = some p) : cellsHypothesis (F.drop j) = [.int .i64 p.lw, .int .i64 p.hg, .int .i64 p.vt] ++ cellsHypothesis (F.drop (j + 1)) := by
  obtain ⟨hj, rfl⟩ := List.getElem?_eq_some_iff.1 hp
  rw [List.drop_eq_getElem_cons hj]
  rfl
theorem del_get {F X : List GHypothesis} {R : List Value} {j : Nat} {p : GHypothesis} (hp : F[j]? = some p) (hR : X.length * 3 + R.length = j * 3) (t : Nat) (ht : t < 3) : (cellsHypothesis X ++ (R ++ cellsHypothesis (F.drop j)))[j * 3 + t]? = p.cells[t]? := by
  rw [cellsH_drop hp, ← List.append_assoc, List.getElem?_append_right (by rw [List.length_append, cellsHypothesis_length]; omega), List.length_append, cellsHypothesis_length, show j * 3 + t - (X.length * 3 + R.length) = t by omega]
  rw [List.getElem?_append_left (by simpa using ht)]
  rfl
theorem del_skip {F X : List GHypothesis} {R : List Value} {j : Nat} {p : GHypothesis} (hp : F[j]? = some p) (hR : X.length * 3 + R.length = j * 3) :
    ∃ R' : List Value, cellsHypothesis X ++ (R ++ cellsHypothesis (F.drop j)) = cellsHypothesis X ++ (R' ++ cellsHypothesis (F.drop (j + 1))) ∧ X.length * 3 + R'.length = (j + 1) * 3 :=
  ⟨R ++ [.int .i64 p.lw, .int .i64 p.hg, .int .i64 p.vt], by rw [cellsH_drop hp, List.append_assoc], by rw [List.length_append]; simp; omega⟩
theorem del_keep {F X : List GHypothesis} {R : List Value} {i j : Nat} {p : GHypothesis} (hp : F[j]? = some p) (hR : X.length * 3 + R.length = j * 3) (hi : X.length = i) (hij : i < j) :
    ∃ R' : List Value, ((((cellsHypothesis X ++ (R ++ cellsHypothesis (F.drop j))).set (i * 3) (.int .i64 p.lw)).set (i * 3 + 1) (.int .i64 p.hg)).set (i * 3 + 2) (.int .i64 p.vt)) = cellsHypothesis (X ++ [p]) ++ (R' ++ cellsHypothesis (F.drop (j + 1))) ∧ (X ++ [p]).length * 3 + R'.length = (j + 1) * 3 := by
  match R, hR with
  | z0 :: z1 :: z2 :: R', hR =>
    refine ⟨R' ++ [.int .i64 p.lw, .int .i64 p.hg, .int .i64 p.vt], ?_, by simp at hR ⊢; omega⟩
    rw [List.cons_append, List.cons_append, List.cons_append, setHypothesis (by rw [cellsHypothesis_length, hi]), cells_last, cellsH_drop hp]
    simp
  | [], hR | [_], hR | [_, _], hR => exact absurd hR (by simp only [List.length_cons, List.length_nil]; omega)
theorem below_setCells {B b : Nat} {a : World} (hb : B ≤ b) : ∀ (vs : List Value) (o : Nat) (w : World), Below B a w → Below B a (w.setCells b o vs)
  | [], _, _, h => h
  | v :: r, o, w, h => below_setCells hb r (o + 1) _ (h.setCell (p := ⟨b, o, none⟩) hb v)
theorem zeros3 (z : Value) (n : Nat) : (Builtin.zeroCells #[z, z, z] n).toList = List.replicate (n * 3) z := by
  simp only [Builtin.zeroCells]
  apply List.ext_getElem
  · simp
  · intro i h1 h2
    simp only [List.getElem_replicate]
    have : i % 3 < 3 := Nat.mod_lt _ (by omega)
    rcases h : i % 3 with _ | _ | _ | m <;> first | (exfalso; omega) | simp_all
theorem run_clear3 (w : World) (ty : TypeId) (g o n c : Nat) (hn : 0 < n) (hc : ∀ j, j < n * 3 → (w.cell? ⟨g, o + j, none⟩).isSome = true) (hf : ∀ j, j < n * 3 → w.frozen? ⟨g, o + j, none⟩ = false) :
    (Builtin.clear_ #[27] ty #[.slice (some ⟨g, o, none⟩) n c]).run Try.prog w = .ok (.tuple #[]) (w.setCells g o (List.replicate (n * 3) (.int .i64 0))) := by
  have hv : ∀ w, (zeroValue 37).run Try.prog w = .ok (.agg #[.int .i64 0, .int .i64 0, .int .i64 0]) w := fun w => by kernel_rfl
  have hz := zeros3 (.int .i64 0) n
  have hst := run_storeCells_cells (P := Try.prog) g o (List.replicate (n * 3) (.int .i64 0)) 0 w (by simpa using hc) (by simpa using hf) (by intro v hv'; rw [List.eq_of_mem_replicate hv']; rfl)
  simp only [Nat.add_zero] at hst
  obtain ⟨m, rfl⟩ : ∃ m, n = m + 1 := ⟨n - 1, by omega⟩
  have hcl : (Value.agg #[.int .i64 0, .int .i64 0, .int .i64 0]).cells = #[.int .i64 0, .int .i64 0, .int .i64 0] := by kernel_rfl
  simp [Builtin.clear_, run_underlying Try.underlying27, hv, hcl, hz, hst]

set_option maxHeartbeats 1000000 in
theorem weak1_any {W : World} {pb : Nat} {s : Int} (p : GHypothesis) (hc : W.cell? ⟨pb, 0, none⟩ = some (.int .i64 s)) :
    Calls Try.prog 77 #[.agg #[.int .i64 p.lw, .int .i64 p.hg, .int .i64 p.vt], .pointer (some ⟨pb, 0, none⟩)] W fun e w' => e = .returned (.bool (decide (p.vt < s))) ∧ Below W.heap.size W w' := by
  have D := Hypothesis_cells p W 37
  have hb := below_alloc1 W (.cells #[.int .i64 p.lw, .int .i64 p.hg, .int .i64 p.vt] 37)
  have hlt : pb < W.heap.size := World.block_lt_of_cell? W _ hc
  have h2 := (hb.cell (p := ⟨pb, 0, none⟩) hlt).trans hc
  go_enter Try.func77, Try.ntmps77
  go_wp2_with fail
  go_ret
  exact ⟨ret_bool rfl, hb⟩

def IdxH (s : Int) (F : List GHypothesis) (W : World) (e : Ending) (w' : World) : Prop := ∃ v : Int, e = .returned (.int .i64 v) ∧ ((v = -1 ∧ strL s F = F) ∨ ∃ (k : Nat) (p : GHypothesis), v = k ∧ F[k]? = some p ∧ p.vt < s ∧ strL s (F.take k) = F.take k) ∧ Below W.heap.size W w'
set_option maxHeartbeats 1000000 in
set_option maxRecDepth 100000 in
theorem indexH_any {W : World} {pb lo hi c : Nat} {A : Option Addr} {F : List GHypothesis} {s : Int} (hc : W.cell? ⟨pb, 0, none⟩ = some (.int .i64 s)) (hr : RdH W lo hi A F) (hh : hi ≤ W.heap.size) (hl : F.length ≤ 20) :
    Calls Try.prog 78 #[.slice A F.length c, .func (.func 77) #[] #[.pointer (some ⟨pb, 0, none⟩)]] W (IdxH s F W) := by
  have hlt0 : pb < W.heap.size := World.block_lt_of_cell? W _ hc
  go_enter Try.func78, Try.ntmps78
  go_wp2_with fail
  go_loopw [8] (fun i wr => ∃ k : Nat, k ≤ F.length ∧ i = .int .i64 k ∧ strL s (F.take k) = F.take k ∧ Below W.heap.size W wr) (fun i _ => F.length - (intOf i).toNat)
  case atStart => exact ⟨0, Nat.zero_le _, rfl, rfl, Below.refl _ _⟩
  case round =>
    obtain ⟨k, hk, rfl, h0, hb⟩ := hrel
    have H0 := Lib.hid h0
    clear h0
    have hs := hb.size
    by_cases hlt : k < F.length
    · obtain ⟨b, off, q, rfl, _, _, hq, c0, c1, c2⟩ := (hr.below hb hh).getHypothesis hlt
      have hc2 := (hb.cell (p := ⟨pb, 0, none⟩) hlt0).trans hc
      have q1 : (k : Int) < (F.length : Int) := by omega
      have hcall := weak1_any q hc2
      have HQ := Lib.hid hq
      clear hq
      by_cases hv : q.vt < s
      · have HV := Lib.hid hv
        rw [decide_eq_true hv] at hcall
        have HC := Lib.hid hcall
        clear hcall hv
        go_wp2_with fail
        refine HC.out.mono ?_
        rintro e w' ⟨rfl, hb'⟩
        go_wp2_with fail
        go_ret
        exact ⟨k, rfl, .inr ⟨k, q, rfl, HQ.out, HV.out, H0.out⟩, hb.trans (hb'.mono hs)⟩
      · have HV := Lib.hid hv
        rw [decide_eq_false hv] at hcall
        have HC := Lib.hid hcall
        clear hcall hv
        have HS := Lib.hid (show strL s (F.take (k + 1)) = F.take (k + 1) from by rw [strL_keep HQ.out HV.out, H0.out, List.take_add_one, HQ.out]; rfl)
        go_wp2_with fail
        refine HC.out.mono ?_
        rintro e w' ⟨rfl, hb'⟩
        go_wp2_with fail
        go_roundw
        case rel => exact ⟨k + 1, by omega, by go_num, HS.out, hb.trans (hb'.mono hs)⟩
        case measure => simp [intOf]; omega
    · have e : F.take k = F := List.take_of_length_le (by omega)
      have h0 := H0.out
      rw [e] at h0
      have HN := Lib.hid h0
      clear h0 e
      go_wp2_with fail
      go_ret
      exact ⟨-1, rfl, .inl ⟨rfl, HN.out⟩, hb⟩


set_option maxHeartbeats 2000000 in
set_option maxRecDepth 100000 in
theorem deleteH_any {W : World} {pb lo hi c : Nat} {A : Option Addr} {F : List GHypothesis} {s : Int} (hc : W.cell? ⟨pb, 0, none⟩ = some (.int .i64 s)) (hpb : pb < lo) (ho : Own W 37 lo hi 3 A F.length c (cellsHypothesis F)) (hh : hi ≤ W.heap.size) (hl0 : lo ≤ hi) (hl : F.length ≤ 20) :
    Calls Try.prog 76 #[.slice A F.length c, .func (.func 77) #[] #[.pointer (some ⟨pb, 0, none⟩)]] W fun e w' => ∃ (A' : Option Addr) (c' : Nat), e = .returned (.slice A' (strL s F).length c') ∧ RdH w' lo hi A' (strL s F) ∧ Below lo W w' := by
  have hlo : lo ≤ W.heap.size := Nat.le_trans hl0 hh
  have hcap := ho.cap
  go_enter Try.func76, Try.ntmps76
  go_wp2_with fail
  refine (indexH_any hc ho.rd hh hl).mono ?_
  rintro e w1 ⟨v, rfl, hcase, B1⟩
  have O1 := ho.below B1 hh
  have hc1 := (B1.cell (p := ⟨pb, 0, none⟩) (World.block_lt_of_cell? W _ hc)).trans hc
  have hs1 := B1.size
  have BB1 := B1.mono hlo
  clear ho hc B1
  rcases hcase with ⟨rfl, hall⟩ | ⟨k0, p0, rfl, hp0, hv0, h0⟩
  · have HA := Lib.hid hall
    clear hall
    go_wp2_with fail
    go_ret
    exact ⟨A, c, by rw [HA.out]; rfl, by rw [HA.out]; exact O1.rd, BB1⟩
  have hk0 : k0 < F.length := (List.getElem?_eq_some_iff.1 hp0).1
  have hne : ((k0 : Int) == -1) = false := by rw [beq_eq_false_iff_ne]; omega
  have hst : strL s (F.take (k0 + 1)) = F.take k0 := by rw [strL_skip hp0 hv0, h0]
  obtain ⟨R0, hR0, hz0⟩ := del_skip (X := F.take k0) (R := []) hp0 (by simp; omega)
  have O1' : Own w1 37 lo hi 3 A F.length c (cellsHypothesis (F.take k0) ++ (R0 ++ cellsHypothesis (F.drop (k0 + 1)))) := by
    rw [← hR0, List.nil_append, ← cellsH_app, List.take_append_drop]; exact O1
  have hln : (F.take k0).length = k0 := by simp; omega
  obtain ⟨X0, hX0⟩ : ∃ X0, X0 = F.take k0 := ⟨_, rfl⟩
  rw [← hX0] at hst O1' hln hz0
  have HST := Lib.hid hst
  have HZ0 := Lib.hid hz0
  clear hR0 O1 hv0 h0 hX0 hst hz0 hp0
  go_wp2_with fail
  go_loopw [5, 6] (fun i j wr => ∃ (ki kj : Nat) (X : List GHypothesis) (R : List Value), i = .int .i64 ki ∧ j = .int .i64 kj ∧ strL s (F.take kj) = X ∧ X.length = ki ∧ ki < kj ∧ kj ≤ F.length ∧ X.length * 3 + R.length = kj * 3 ∧ Own wr 37 lo hi 3 A F.length c (cellsHypothesis X ++ (R ++ cellsHypothesis (F.drop kj))) ∧ Below lo W wr ∧ wr.cell? ⟨pb, 0, none⟩ = some (.int .i64 s) ∧ hi ≤ wr.heap.size) (fun _ j _ => F.length - (intOf j).toNat)
  case atStart => exact ⟨k0, k0 + 1, X0, R0, rfl, by go_num, HST.out, hln, by omega, by omega, HZ0.out, O1', BB1, hc1, by omega⟩
  case round =>
    clear O1' BB1 hc1 hs1 HST HZ0 hln
    obtain ⟨ki, kj, X, R, rfl, rfl, hX, hXl, hij, hjl, hR, hO, hB, hcc, hhi⟩ := hrel
    have HX := Lib.hid hX
    clear hX
    obtain ⟨g, rfl, hg1, hg2⟩ := hO.length_pos (by omega)
    by_cases hlt : kj < F.length
    · obtain ⟨p, hp⟩ : ∃ p, F[kj]? = some p := ⟨_, List.getElem?_eq_getElem hlt⟩
      have hcell : ∀ t, t < 3 → wr.cell? ⟨g, kj * 3 + t, none⟩ = p.cells[t]? := fun t ht => by
        rw [hO.1.cellAt (kj * 3 + t) (by omega)]; exact del_get hp hR t ht
      have c0 : wr.cell? ⟨g, kj * 3, none⟩ = some (.int .i64 p.lw) := hcell 0 (by omega)
      have c1 : wr.cell? ⟨g, kj * 3 + 1, none⟩ = some (.int .i64 p.hg) := hcell 1 (by omega)
      have c2 : wr.cell? ⟨g, kj * 3 + 2, none⟩ = some (.int .i64 p.vt) := hcell 2 (by omega)
      have HP := Lib.hid hp
      have q1 : (kj : Int) < (F.length : Int) := by omega
      obtain ⟨wa, hwa⟩ : ∃ wa, wa = wr.alloc (.cells #[.int .i64 p.lw, .int .i64 p.hg, .int .i64 p.vt] 37) := ⟨_, rfl⟩
      have hba := below_alloc1 wr (.cells #[.int .i64 p.lw, .int .i64 p.hg, .int .i64 p.vt] 37)
      have hsz : wa.heap.size = wr.heap.size + 1 := by rw [hwa]; simp
      rw [← hwa] at hba
      obtain ⟨d0, d1, d2⟩ := Hypothesis_cells p wr 37
      rw [← hwa] at d0 d1 d2
      have hca := (hba.cell (p := ⟨pb, 0, none⟩) (World.block_lt_of_cell? wr _ hcc)).trans hcc
      have HWA := Lib.hid hwa
      have hcall := weak1_any p hca
      clear hcell hp hwa
      by_cases hv : p.vt < s
      · obtain ⟨R', hR1, hR2⟩ := del_skip (X := X) (R := R) HP.out hR
        rw [hR1] at hO
        have HS := Lib.hid ((strL_skip HP.out hv).trans HX.out)
        rw [decide_eq_true hv] at hcall
        have HC := Lib.hid hcall
        clear hcall hv hR1 hR
        have HR2 := Lib.hid hR2
        clear hR2
        go_wp2_with fail
        rw [← HWA.out]
        go_wp2_with fail
        refine HC.out.mono ?_
        rintro e w2 ⟨rfl, B2⟩
        have hb2 := hba.trans (B2.mono (by omega))
        have hs2 := hb2.size
        go_wp2_with fail
        go_roundw
        case rel => exact ⟨ki, kj + 1, X, R', rfl, by go_num, HS.out, hXl, by omega, by omega, HR2.out, hO.below hb2 hhi, hB.trans (hb2.mono (by omega)), (hb2.cell (p := ⟨pb, 0, none⟩) (World.block_lt_of_cell? wr _ hcc)).trans hcc, by omega⟩
        case measure => simp [intOf]; omega
      · obtain ⟨R', hR1, hR2⟩ := del_keep (X := X) (R := R) HP.out hR hXl hij
        have HS := Lib.hid (show strL s (F.take (kj + 1)) = X ++ [p] from by rw [strL_keep HP.out hv, HX.out])
        rw [decide_eq_false hv] at hcall
        have HC := Lib.hid hcall
        have hlen := hO.length
        clear hcall hv hR
        have HR1 := Lib.hid hR1
        have HR2 := Lib.hid hR2
        clear hR1 hR2
        have hXn : (X ++ [p]).length = ki + 1 := by simp [hXl]
        have q2 : (ki : Int) < (F.length : Int) := by omega
        go_wp2_with fail
        rw [← HWA.out]
        go_wp2_with fail
        refine HC.out.mono ?_
        rintro e w2 ⟨rfl, B2⟩
        have hb2 := hba.trans (B2.mono (by omega))
        have hs2 := hb2.size
        have e0 := (B2.cell (p := ⟨wr.heap.size, 0, none⟩) (show wr.heap.size < wa.heap.size from by omega)).trans d0
        have e1 := (B2.cell (p := ⟨wr.heap.size, 1, none⟩) (show wr.heap.size < wa.heap.size from by omega)).trans d1
        have e2 := (B2.cell (p := ⟨wr.heap.size, 2, none⟩) (show wr.heap.size < wa.heap.size from by omega)).trans d2
        have O2 := hO.below hb2 hhi
        have BB2 := hB.trans (hb2.mono (by omega))
        have hcc2 := (hb2.cell (p := ⟨pb, 0, none⟩) (World.block_lt_of_cell? wr _ hcc)).trans hcc
        have hu : ∀ t, t < 3 → ∃ u, w2.cell? ⟨g, ki * 3 + t, none⟩ = some u := fun t ht => by
          have h1 := O2.1.cellAt (ki * 3 + t) (by omega)
          exact ⟨_, h1.trans (List.getElem?_eq_getElem (by rw [hlen]; omega))⟩
        obtain ⟨u0, hu0⟩ := hu 0 (by omega)
        obtain ⟨u1, hu1⟩ := hu 1 (by omega)
        obtain ⟨u2, hu2⟩ := hu 2 (by omega)
        rw [Nat.add_zero] at hu0
        have hf0 : w2.frozen? ⟨g, ki * 3, none⟩ = false := O2.frozen _
        have hf1 : w2.frozen? ⟨g, ki * 3 + 1, none⟩ = false := O2.frozen _
        have hf2 : w2.frozen? ⟨g, ki * 3 + 2, none⟩ = false := O2.frozen _
        have O3 := ((O2.store (ki * 3) (.int .i64 p.lw)).store (ki * 3 + 1) (.int .i64 p.hg)).store (ki * 3 + 2) (.int .i64 p.vt)
        rw [HR1.out] at O3
        have hng : g ≠ pb := by omega
        have hcc3 : (((w2.setCell ⟨g, ki * 3, none⟩ (.int .i64 p.lw)).setCell ⟨g, ki * 3 + 1, none⟩ (.int .i64 p.hg)).setCell ⟨g, ki * 3 + 2, none⟩ (.int .i64 p.vt)).cell? ⟨pb, 0, none⟩ = some (.int .i64 s) := by
          rw [World.cell?_setCell_far _ _ _ _ hng, World.cell?_setCell_far _ _ _ _ hng, World.cell?_setCell_far _ _ _ _ hng]; exact hcc2
        have HCC3 := Lib.hid hcc3
        have hs3 : hi ≤ (((w2.setCell ⟨g, ki * 3, none⟩ (.int .i64 p.lw)).setCell ⟨g, ki * 3 + 1, none⟩ (.int .i64 p.hg)).setCell ⟨g, ki * 3 + 2, none⟩ (.int .i64 p.vt)).heap.size := by simp [World.setCell]; omega
        clear hu hO c0 c1 c2 d0 d1 d2 hba hcc3
        go_wp2_with fail
        go_roundw
        case rel => exact ⟨ki + 1, kj + 1, X ++ [p], R', by go_num, by go_num, HS.out, hXn, by omega, by omega, HR2.out, O3, ((BB2.setCell hg1 _).setCell hg1 _).setCell hg1 _, HCC3.out, hs3⟩
        case measure => simp [intOf]; omega
    · obtain rfl : kj = F.length := by omega
      have hX : strL s F = X := by rw [← HX.out, List.take_length]
      have q1 : (ki : Int) ≤ (F.length : Int) := by omega
      have q2 : ki ≤ F.length := by omega
      have q3 : ki ≤ c := by omega
      have hlen := hO.length
      have hcl : ∀ ty, (Builtin.clear_ #[27] ty #[.slice (some ⟨g, ki * 3, none⟩) (F.length - ki) (c - ki)]).run Try.prog wr = .ok (.tuple #[]) (wr.setCells g (ki * 3) (List.replicate ((F.length - ki) * 3) (.int .i64 0))) := fun ty =>
        run_clear3 wr ty g (ki * 3) (F.length - ki) (c - ki) (by omega) (fun t ht => by
          rw [hO.1.cellAt (ki * 3 + t) (by omega), List.getElem?_eq_getElem (by rw [hlen]; omega)]; rfl) (fun t ht => hO.frozen _)
      have BF := below_setCells hg1 (List.replicate ((F.length - ki) * 3) (.int .i64 0)) (ki * 3) wr hB
      have hRR : RdH (wr.setCells g (ki * 3) (List.replicate ((F.length - ki) * 3) (.int .i64 0))) lo hi (some ⟨g, 0, none⟩) X := by
        refine ⟨cellsHypothesis_length X, fun _ => ⟨g, 0, rfl, hg1, hg2, fun j u hu => ?_⟩⟩
        have hj : j < ki * 3 := by
          have := (List.getElem?_eq_some_iff.1 hu).1
          rw [cellsHypothesis_length, hXl] at this; exact this
        rw [Nat.zero_add, World.cell?_setCells_out g _ _ _ ⟨g, j, none⟩ (fun _ _ => .inl hj), hO.1.cellAt j (by omega), List.getElem?_append_left (by rw [cellsHypothesis_length, hXl]; exact hj)]
        exact hu
      have HX2 := Lib.hid hX
      clear hO hX hR
      go_wp2_with fail
      go_ret
      exact ⟨some ⟨g, 0, none⟩, c, by rw [HX2.out, hXl]; rfl, by rw [HX2.out]; exact hRR, BF⟩


end Go.Proofs.Ytdllhdfoinobjaa
