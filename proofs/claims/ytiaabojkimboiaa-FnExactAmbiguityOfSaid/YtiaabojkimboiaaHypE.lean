/-
  This file proves contracts of StrongestOf and AmbiguityOf, of the program and of the reference.
  Conditions: each contract's own hypotheses (that a slice reads as a list, that it is not too long).
-/
import Derived.Test.YtiaabojkimboiaaHypD
import Derived.Test.YtiaabojkimboiaaRed
namespace Go.Proofs.Ytiaabojkimboiaa
open Go.RowKit
set_option linter.unusedSimpArgs false
set_option linter.unusedVariables false

/-- The cells of a struct variable of the call's own, which may be written. -/
def Cells3 (W : World) (g : Nat) (h : GHypothesis) : Prop := (W.cell? ⟨g, 0, none⟩ = some (.int .i64 h.lw) ∧ W.cell? ⟨g, 1, none⟩ = some (.int .i64 h.hg) ∧ W.cell? ⟨g, 2, none⟩ = some (.int .i64 h.vt)) ∧ W.frozen? ⟨g, 0, none⟩ = false ∧ W.frozen? ⟨g, 1, none⟩ = false ∧ W.frozen? ⟨g, 2, none⟩ = false
theorem Cells3.lt {W : World} {g : Nat} {h : GHypothesis} (c : Cells3 W g h) : g < W.heap.size := World.block_lt_of_cell? W _ c.1.1
theorem Cells3.below {W W' : World} {N g : Nat} {h : GHypothesis} (c : Cells3 W g h) (hb : Below N W W') (hg : g < N) : Cells3 W' g h :=
  ⟨⟨(hb.cell (p := ⟨g, 0, none⟩) hg).trans c.1.1, (hb.cell (p := ⟨g, 1, none⟩) hg).trans c.1.2.1, (hb.cell (p := ⟨g, 2, none⟩) hg).trans c.1.2.2⟩,
   (hb.frozen (p := ⟨g, 0, none⟩) hg).trans c.2.1, (hb.frozen (p := ⟨g, 1, none⟩) hg).trans c.2.2.1, (hb.frozen (p := ⟨g, 2, none⟩) hg).trans c.2.2.2⟩
theorem Cells3.new (W : World) (h : GHypothesis) (t : TypeId) : Cells3 (W.alloc (.cells #[.int .i64 h.lw, .int .i64 h.hg, .int .i64 h.vt] t)) W.heap.size h := by
  have e := heap_alloc_new W (.cells #[.int .i64 h.lw, .int .i64 h.hg, .int .i64 h.vt] t)
  refine ⟨Hypothesis_cells h W t, ?_, ?_, ?_⟩ <;> (unfold World.frozen?; rw [e]; rfl)
theorem Cells3.store {W : World} {g : Nat} {h : GHypothesis} (c : Cells3 W g h) (q : GHypothesis) : Cells3 (((W.setCell ⟨g, 0, none⟩ (.int .i64 q.lw)).setCell ⟨g, 1, none⟩ (.int .i64 q.hg)).setCell ⟨g, 2, none⟩ (.int .i64 q.vt)) g q := by
  refine ⟨⟨?_, ?_, ?_⟩, ?_, ?_, ?_⟩
  · rw [World.cell?_setCell_other _ _ _ _ (by simp), World.cell?_setCell_other _ _ _ _ (by simp)]; exact World.cell?_setCell_same _ _ _ c.1.1
  · rw [World.cell?_setCell_other _ _ _ _ (by simp)]; exact World.cell?_setCell_same _ _ _ ((World.cell?_setCell_other _ _ _ _ (by simp)).trans c.1.2.1)
  · exact World.cell?_setCell_same _ _ _ ((World.cell?_setCell_other _ _ _ _ (by simp)).trans ((World.cell?_setCell_other _ _ _ _ (by simp)).trans c.1.2.2))
  · exact (World.frozen?_setCell _ _ _ _).trans ((World.frozen?_setCell _ _ _ _).trans ((World.frozen?_setCell _ _ _ _).trans c.2.1))
  · exact (World.frozen?_setCell _ _ _ _).trans ((World.frozen?_setCell _ _ _ _).trans ((World.frozen?_setCell _ _ _ _).trans c.2.2.1))
  · exact (World.frozen?_setCell _ _ _ _).trans ((World.frozen?_setCell _ _ _ _).trans ((World.frozen?_setCell _ _ _ _).trans c.2.2.2))
theorem Cells3.far {W : World} {g g' j : Nat} {u : Value} {h : GHypothesis} (c : Cells3 W g h) (hg : g' ≠ g) : Cells3 (W.setCell ⟨g', j, none⟩ u) g h :=
  ⟨⟨(World.cell?_setCell_far _ _ _ _ hg).trans c.1.1, (World.cell?_setCell_far _ _ _ _ hg).trans c.1.2.1, (World.cell?_setCell_far _ _ _ _ hg).trans c.1.2.2⟩, (World.frozen?_setCell _ _ _ _).trans c.2.1, (World.frozen?_setCell _ _ _ _).trans c.2.2.1, (World.frozen?_setCell _ _ _ _).trans c.2.2.2⟩
theorem Rd.far {W : World} {lo hi size n g j : Nat} {A : Option Addr} {xs : List Value} {u : Value} (h : Rd W lo hi size A n xs) (hg : g < lo ∨ hi ≤ g) : Rd (W.setCell ⟨g, j, none⟩ u) lo hi size A n xs :=
  h.keep fun b off h1 h2 => World.cell?_setCell_far _ _ _ _ (by show g ≠ b; omega)

/-- The strongest hypothesis: the first with the most votes. -/
def bStep (b h : GHypothesis) : GHypothesis := if b.vt < h.vt then h else b
def bestH (F : List GHypothesis) : GHypothesis := F.foldl bStep ⟨0, 0, 0⟩
theorem bestH_snoc {F : List GHypothesis} {k : Nat} {h : GHypothesis} (hp : F[k]? = some h) : bestH (F.take (k + 1)) = bStep (bestH (F.take k)) h := by
  rw [List.take_add_one, hp, bestH, List.foldl_append]
  rfl
theorem bStep_yes {b h : GHypothesis} (hc : b.vt < h.vt) : bStep b h = h := if_pos hc
theorem bStep_no {b h : GHypothesis} (hc : ¬ b.vt < h.vt) : bStep b h = b := if_neg hc
theorem bestH_bound {n : Nat} : ∀ (F : List GHypothesis) (b : GHypothesis), (∀ h ∈ F, hB n h) → (0 ≤ b.vt ∧ b.vt ≤ n) → 0 ≤ (F.foldl bStep b).vt ∧ (F.foldl bStep b).vt ≤ n
  | [], b, _, hb => hb
  | h :: F, b, hF, hb => by
    rw [List.foldl_cons]
    refine bestH_bound F _ (fun a ha => hF a (List.mem_cons_of_mem _ ha)) ?_
    have h1 := hF h (by simp)
    unfold hB at h1
    unfold bStep
    split <;> omega
def RetHyp (h : GHypothesis) (w : World) (e : Ending) (w' : World) : Prop := e = .returned (.agg #[.int .i64 h.lw, .int .i64 h.hg, .int .i64 h.vt]) ∧ Below w.heap.size w w'
def RetHypB (h : GHypothesis) (b : Bool) (w : World) (e : Ending) (w' : World) : Prop := e = .returned (.tuple #[.agg #[.int .i64 h.lw, .int .i64 h.hg, .int .i64 h.vt], .bool b]) ∧ Below w.heap.size w w'

set_option maxHeartbeats 1000000 in
set_option maxRecDepth 100000 in
theorem strongestOf_any {A : Option Addr} {c lo hi : Nat} {xs : List Int} {wd : Int} {w : World} (hr : RdI w lo hi A xs) (hh : hi ≤ w.heap.size) (hcv : canV xs wd = true) :
    Calls Try.prog 22 #[.slice A xs.length c, .int .i64 wd] w (RetHyp (bestH (hypV xs wd)) w) := by
  have HC := Lib.hid hcv
  have hl20 := (hypV_facts hcv).1
  clear hcv
  go_enter Try.func22, Try.ntmps22
  have CR0 := Cells3.new w ⟨0, 0, 0⟩ 24
  have CB0 := Cells3.new (w.alloc (.cells #[.int .i64 0, .int .i64 0, .int .i64 0] 24)) ⟨0, 0, 0⟩ 24
  have hs0 : (w.alloc (.cells #[.int .i64 0, .int .i64 0, .int .i64 0] 24)).heap.size = w.heap.size + 1 := by simp
  rw [hs0] at CB0
  have hbx : Below w.heap.size w ((w.alloc (.cells #[.int .i64 0, .int .i64 0, .int .i64 0] 24)).alloc (.cells #[.int .i64 0, .int .i64 0, .int .i64 0] 24)) := (below_alloc1 _ _).alloc (by simp) _
  have CR1 := CR0.below (below_alloc1 (w.alloc (.cells #[.int .i64 0, .int .i64 0, .int .i64 0] 24)) (.cells #[.int .i64 0, .int .i64 0, .int .i64 0] 24)) (by rw [hs0]; omega)
  clear hs0 CR0
  go_wp2_with fail
  generalize (w.alloc (.cells #[.int .i64 0, .int .i64 0, .int .i64 0] 24)).alloc (.cells #[.int .i64 0, .int .i64 0, .int .i64 0] 24) = wx at CR1 CB0 hbx ⊢
  obtain ⟨gb, hgb⟩ : ∃ gb, gb = w.heap.size + 1 := ⟨_, rfl⟩
  rw [← hgb] at CB0 ⊢
  have hgw : w.heap.size ≤ gb := by omega
  have hne : w.heap.size ≠ gb := by omega
  clear hgb
  refine (hypothesesOf_any (hr.below hbx hh) (by have := hbx.size; omega) HC.out).mono ?_
  rintro e w1 ⟨A1, c1, rfl, O1, B1⟩
  have CR := CR1.below B1 CR1.lt
  have CB := CB0.below B1 CB0.lt
  have hb1 := hbx.trans (B1.mono hbx.size)
  have hd : gb < wx.heap.size ∨ w1.heap.size ≤ gb := .inl CB0.lt
  obtain ⟨lo1, hlo1⟩ : ∃ lo1, lo1 = wx.heap.size := ⟨_, rfl⟩
  obtain ⟨hi1, hhi1⟩ : ∃ hi1, hi1 = w1.heap.size := ⟨_, rfl⟩
  have hR := O1.rd
  have hhw : hi1 ≤ w1.heap.size := by omega
  rw [← hlo1, ← hhi1] at hR hd
  clear O1 CR1 CB0 hlo1 hhi1
  generalize hF : hypV xs wd = F at hR hl20 ⊢
  have HF := Lib.hid hF
  clear hF
  go_wp2_with fail
  go_loopw [13] (fun i wr => ∃ k : Nat, k ≤ F.length ∧ i = .int .i64 k ∧ Cells3 wr gb (bestH (F.take k)) ∧ Cells3 wr w.heap.size ⟨0, 0, 0⟩ ∧ Below w.heap.size w wr ∧ RdH wr lo1 hi1 A1 F ∧ hi1 ≤ wr.heap.size) (fun i _ => F.length - (intOf i).toNat)
  case atStart => exact ⟨0, Nat.zero_le _, rfl, CB, CR, hb1, hR, hhw⟩
  case round =>
    obtain ⟨k, hk, rfl, hCB, hCR, hb, hRd, hhi⟩ := hrel
    clear CB CR hb1 hR hhw
    obtain ⟨q, hq⟩ : ∃ q, q = bestH (F.take k) := ⟨_, rfl⟩
    rw [← hq] at hCB
    have HQ0 := Lib.hid hq
    clear hq
    by_cases hlt : k < F.length
    rotate_left
    · have HQ := Lib.hid (show q = bestH F from by rw [HQ0.out, List.take_of_length_le (by omega)])
      have CR2 := hCR
      obtain ⟨⟨r0, r1, r2⟩, fr0, fr1, fr2⟩ := CR2
      obtain ⟨⟨e0, e1, e2⟩, _, _, _⟩ := hCB
      go_wp2_with fail
      refine bodyPost_ret (v := .agg #[.int .i64 q.lw, .int .i64 q.hg, .int .i64 q.vt]) (by simp [results, Try.results22, go_sem, r0, r1, r2]) rfl ?_
      exact ⟨by rw [HQ.out, ← HF.out], ((hb.setCell (Nat.le_refl _) _).setCell (Nat.le_refl _) _).setCell (Nat.le_refl _) _⟩
    obtain ⟨b, off, p, rfl, hblo, hbhi, hp, c0, c1, c2⟩ := hRd.getHypothesis hlt
    have HS := Lib.hid (show bestH (F.take (k + 1)) = bStep q p from by rw [HQ0.out]; exact bestH_snoc hp)
    have q1 : (k : Int) < (F.length : Int) := by omega
    clear hp
    have hCB2 := hCB.below (below_alloc1 wr (.cells #[.int .i64 p.lw, .int .i64 p.hg, .int .i64 p.vt] 24)) hCB.lt
    have hCR2 := hCR.below (below_alloc1 wr (.cells #[.int .i64 p.lw, .int .i64 p.hg, .int .i64 p.vt] 24)) hCR.lt
    have hb2 := hb.trans ((below_alloc1 wr (.cells #[.int .i64 p.lw, .int .i64 p.hg, .int .i64 p.vt] 24)).mono hb.size)
    have hRd2 := hRd.below (below_alloc1 wr (.cells #[.int .i64 p.lw, .int .i64 p.hg, .int .i64 p.vt] 24)) hhi
    have hhi2 : hi1 ≤ (wr.alloc (.cells #[.int .i64 p.lw, .int .i64 p.hg, .int .i64 p.vt] 24)).heap.size := by simp; omega
    have D := Hypothesis_cells p wr 24
    obtain ⟨⟨k0, k1, k2⟩, f0, f1, f2⟩ := hCB2
    by_cases hc : q.vt < p.vt
    · have HN := Lib.hid (bStep_yes hc)
      go_wp2_with fail
      have hCB3 : Cells3 (wr.alloc (.cells #[.int .i64 p.lw, .int .i64 p.hg, .int .i64 p.vt] 24)) gb q := ⟨⟨k0, k1, k2⟩, f0, f1, f2⟩
      go_roundw
      case rel => exact ⟨k + 1, by omega, by go_num, by rw [HS.out, HN.out]; exact hCB3.store p, ((hCR2.far hne.symm).far hne.symm).far hne.symm, ((hb2.setCell hgw _).setCell hgw _).setCell hgw _, ((hRd2.far hd).far hd).far hd, by simpa [World.setCell] using hhi2⟩
      case measure => simp [intOf]; omega
    · have HN := Lib.hid (bStep_no hc)
      go_wp2_with fail
      have hCB3 : Cells3 (wr.alloc (.cells #[.int .i64 p.lw, .int .i64 p.hg, .int .i64 p.vt] 24)) gb q := ⟨⟨k0, k1, k2⟩, f0, f1, f2⟩
      go_roundw
      case rel => exact ⟨k + 1, by omega, by go_num, by rw [HS.out, HN.out]; exact hCB3, hCR2, hb2, hRd2, hhi2⟩
      case measure => simp [intOf]; omega

set_option maxHeartbeats 1000000 in
set_option maxRecDepth 100000 in
theorem l13Best_any {A : Option Addr} {c lo hi : Nat} {xs : List Int} {wd : Int} {w : World} (hr : RdI w lo hi A xs) (hh : hi ≤ w.heap.size) (hcv : canV xs wd = true) :
    Calls Try.prog 20 #[.slice A xs.length c, .int .i64 wd] w (RetHyp (bestH (hypV xs wd)) w) := by
  have HC := Lib.hid hcv
  have hl20 := (hypV_facts hcv).1
  clear hcv
  go_enter Try.func20, Try.ntmps20
  have CR0 := Cells3.new w ⟨0, 0, 0⟩ 24
  have hbx := below_alloc1 w (.cells #[.int .i64 0, .int .i64 0, .int .i64 0] 24)
  go_wp2_with fail
  generalize w.alloc (.cells #[.int .i64 0, .int .i64 0, .int .i64 0] 24) = wx at CR0 hbx ⊢
  refine (l13Of_any (hr.below hbx hh) (by have := hbx.size; omega) HC.out).mono ?_
  rintro e w1 ⟨A1, c1, rfl, O1, B1⟩
  have CR1 := CR0.below B1 CR0.lt
  have hb01 := hbx.trans (B1.mono hbx.size)
  have CB := Cells3.new w1 ⟨0, 0, 0⟩ 24
  have CR := CR1.below (below_alloc1 w1 (.cells #[.int .i64 0, .int .i64 0, .int .i64 0] 24)) CR1.lt
  have hb1 := hb01.trans ((below_alloc1 w1 (.cells #[.int .i64 0, .int .i64 0, .int .i64 0] 24)).mono hb01.size)
  have hR := O1.rd.below (below_alloc1 w1 (.cells #[.int .i64 0, .int .i64 0, .int .i64 0] 24)) (Nat.le_refl _)
  have hhw : w1.heap.size ≤ (w1.alloc (.cells #[.int .i64 0, .int .i64 0, .int .i64 0] 24)).heap.size := by simp
  obtain ⟨hi1, hhi1⟩ : ∃ hi1, hi1 = w1.heap.size := ⟨_, rfl⟩
  obtain ⟨lo1, hlo1⟩ : ∃ lo1, lo1 = wx.heap.size := ⟨_, rfl⟩
  have hd : w1.heap.size < lo1 ∨ hi1 ≤ w1.heap.size := .inr (by omega)
  have hgw : w.heap.size ≤ w1.heap.size := by have := CR1.lt; omega
  have hne : w.heap.size ≠ w1.heap.size := by have := CR1.lt; omega
  rw [← hlo1, ← hhi1] at hR
  rw [← hhi1] at hhw
  clear O1 CR0 CR1 hb01 hlo1 hhi1
  generalize hF : hypV xs wd = F at hR hl20 ⊢
  have HF := Lib.hid hF
  clear hF
  go_wp2_with fail
  generalize w1.alloc (.cells #[.int .i64 0, .int .i64 0, .int .i64 0] 24) = w2 at CB CR hb1 hR hhw ⊢
  generalize w1.heap.size = gb at CB hd hgw hne ⊢
  go_loopw [7] (fun i wr => ∃ k : Nat, k ≤ F.length ∧ i = .int .i64 k ∧ Cells3 wr gb (bestH (F.take k)) ∧ Cells3 wr w.heap.size ⟨0, 0, 0⟩ ∧ Below w.heap.size w wr ∧ RdH wr lo1 hi1 A1 F ∧ hi1 ≤ wr.heap.size) (fun i _ => F.length - (intOf i).toNat)
  case atStart => exact ⟨0, Nat.zero_le _, rfl, CB, CR, hb1, hR, hhw⟩
  case round =>
    obtain ⟨k, hk, rfl, hCB, hCR, hb, hRd, hhi⟩ := hrel
    clear CB CR hb1 hR hhw
    obtain ⟨q, hq⟩ : ∃ q, q = bestH (F.take k) := ⟨_, rfl⟩
    rw [← hq] at hCB
    have HQ0 := Lib.hid hq
    clear hq
    by_cases hlt : k < F.length
    rotate_left
    · have HQ := Lib.hid (show q = bestH F from by rw [HQ0.out, List.take_of_length_le (by omega)])
      have CR2 := hCR
      obtain ⟨⟨r0, r1, r2⟩, fr0, fr1, fr2⟩ := CR2
      obtain ⟨⟨e0, e1, e2⟩, _, _, _⟩ := hCB
      go_wp2_with fail
      refine bodyPost_ret (v := .agg #[.int .i64 q.lw, .int .i64 q.hg, .int .i64 q.vt]) (by simp [results, Try.results20, go_sem, r0, r1, r2]) rfl ?_
      exact ⟨by rw [HQ.out, ← HF.out], ((hb.setCell (Nat.le_refl _) _).setCell (Nat.le_refl _) _).setCell (Nat.le_refl _) _⟩
    obtain ⟨b, off, p, rfl, hblo, hbhi, hp, c0, c1, c2⟩ := hRd.getHypothesis hlt
    have HS := Lib.hid (show bestH (F.take (k + 1)) = bStep q p from by rw [HQ0.out]; exact bestH_snoc hp)
    have q1 : (k : Int) < (F.length : Int) := by omega
    clear hp
    obtain ⟨⟨k0, k1, k2⟩, f0, f1, f2⟩ := hCB
    by_cases hc : q.vt < p.vt
    · have HN := Lib.hid (bStep_yes hc)
      go_wp2_with fail
      go_quiet (fail)
      go_wp2_with fail
      have hCB3 : Cells3 (wr.drewN nq) gb q := ⟨⟨k0, k1, k2⟩, f0, f1, f2⟩
      have hCR3 : Cells3 (wr.drewN nq) w.heap.size ⟨0, 0, 0⟩ := hCR
      go_roundw
      case rel => exact ⟨k + 1, by omega, by go_num, by rw [HS.out, HN.out]; exact hCB3.store p, ((hCR3.far hne.symm).far hne.symm).far hne.symm, (((below_drewN hb nq).setCell hgw _).setCell hgw _).setCell hgw _, (((hRd.drewN nq).far hd).far hd).far hd, by simpa [World.setCell] using hhi⟩
      case measure => simp [intOf]; omega
    · have HN := Lib.hid (bStep_no hc)
      go_wp2_with fail
      go_quiet (fail)
      go_wp2_with fail
      go_roundw
      case rel => exact ⟨k + 1, by omega, by go_num, by rw [HS.out, HN.out]; exact ⟨⟨k0, k1, k2⟩, f0, f1, f2⟩, hCR, below_drewN hb _, hRd.drewN _, hhi⟩
      case measure => simp [intOf]; omega

def vAmbiguityOf (xs : List Int) (wd : Int) : Int × Int × Bool :=
  if canV xs wd = true then (redN ((xs.length : Int) - (bestH (hypV xs wd)).vt) xs.length, redD ((xs.length : Int) - (bestH (hypV xs wd)).vt) xs.length, true) else (0, 0, false)
def vStrongestOf (xs : List Int) (wd : Int) : GHypothesis × Bool := if canV xs wd = true then (bestH (hypV xs wd), true) else (⟨0, 0, 0⟩, false)
theorem best_vt {xs : List Int} {wd : Int} (h : canV xs wd = true) : 0 ≤ (bestH (hypV xs wd)).vt ∧ (bestH (hypV xs wd)).vt ≤ 20 :=
  bestH_bound (n := 20) (hypV xs wd) ⟨0, 0, 0⟩ (hypV_facts h).2.1 ⟨by decide, by decide⟩

set_option maxHeartbeats 1000000 in
set_option maxRecDepth 100000 in
theorem iAmbiguityOf {A : Option Addr} {c lo hi : Nat} {xs : List Int} {wd : Int} {w : World} (hr : RdI w lo hi A xs) (hl : xs.length ≤ 4194304) (hh : hi ≤ w.heap.size) :
    Calls Try.prog 12 #[.slice A xs.length c, .int .i64 wd] w (RetIIB (vAmbiguityOf xs wd).1 (vAmbiguityOf xs wd).2.1 (vAmbiguityOf xs wd).2.2 w) := by
  by_cases h1 : canV xs wd = true
  rotate_left
  · have h1' : canV xs wd = false := by simpa using h1
    have HE := Lib.hid (show vAmbiguityOf xs wd = (0, 0, false) from by unfold vAmbiguityOf; rw [if_neg (by simp [h1'])])
    clear h1
    go_enter Try.func12, Try.ntmps12
    go_wp2_with fail
    refine (canVote_any hr hl hh).mono ?_
    rintro e w' ⟨rfl, rfl⟩
    rw [h1']
    go_wp2_with fail
    go_ret3
    rw [HE.out]
    exact ⟨rfl, Below.refl _ _⟩
  have HE := Lib.hid (show vAmbiguityOf xs wd = (redN ((xs.length : Int) - (bestH (hypV xs wd)).vt) xs.length, redD ((xs.length : Int) - (bestH (hypV xs wd)).vt) xs.length, true) from by unfold vAmbiguityOf; rw [if_pos h1])
  have H1 := Lib.hid h1
  have hvt := best_vt h1
  obtain ⟨_, hn1, hn20⟩ := isVts_all (canV_yes h1).1
  obtain ⟨q, hq⟩ : ∃ q, bestH (hypV xs wd) = q := ⟨_, rfl⟩
  rw [hq] at hvt
  have HQ := Lib.hid hq
  clear hq
  obtain ⟨d, hd⟩ : ∃ d : Int, (xs.length : Int) - q.vt = d := ⟨_, rfl⟩
  have hd1 : -20 ≤ d ∧ d ≤ 20 := by omega
  have HD := Lib.hid (show (xs.length : Int) - (bestH (hypV xs wd)).vt = d from by rw [HQ.out]; exact hd)
  have q1 : IntKind.i64.wrap ((xs.length : Int) - q.vt) = (xs.length : Int) - q.vt := wr64 (by omega) (by omega)
  have HD2 := Lib.hid hd
  clear hd
  go_enter Try.func12, Try.ntmps12
  go_wp2_with fail
  refine (canVote_any hr hl hh).mono ?_
  rintro e w' ⟨rfl, rfl⟩
  rw [h1]
  clear h1
  go_wp2_with fail
  refine (strongestOf_any hr hh H1.out).mono ?_
  rintro e w1 ⟨rfl, B1⟩
  rw [HQ.out]
  have hfl : ∀ w', (Instr.field 24 (.agg #[.int .i64 q.lw, .int .i64 q.hg, .int .i64 q.vt]) 2).run Try.prog w' = .ok (.int .i64 q.vt) w' := fun _ => by kernel_rfl
  go_wp2_with fail
  rw [HD2.out]
  refine (lowestTerms_any d xs.length _ (by omega) (by omega) (by omega)).mono ?_
  rintro e w3 ⟨rfl, n, rfl⟩
  have hb3 := below_drewN B1 n
  go_wp2_with fail
  go_ret3
  rw [HE.out, HD.out]
  exact ⟨rfl, hb3⟩

set_option maxHeartbeats 1000000 in
theorem iStrongestOf {A : Option Addr} {c lo hi : Nat} {xs : List Int} {wd : Int} {w : World} (hr : RdI w lo hi A xs) (hl : xs.length ≤ 4194304) (hh : hi ≤ w.heap.size) :
    Calls Try.prog 8 #[.slice A xs.length c, .int .i64 wd] w (RetHypB (vStrongestOf xs wd).1 (vStrongestOf xs wd).2 w) := by
  have CR0 := Cells3.new w ⟨0, 0, 0⟩ 24
  have hbx := below_alloc1 w (.cells #[.int .i64 0, .int .i64 0, .int .i64 0] 24)
  by_cases h1 : canV xs wd = true
  rotate_left
  · have h1' : canV xs wd = false := by simpa using h1
    have HE := Lib.hid (show vStrongestOf xs wd = (⟨0, 0, 0⟩, false) from by unfold vStrongestOf; rw [if_neg (by simp [h1'])])
    clear h1
    go_enter Try.func8, Try.ntmps8
    go_wp2_with fail
    generalize w.alloc (.cells #[.int .i64 0, .int .i64 0, .int .i64 0] 24) = wx at CR0 hbx ⊢
    refine (canVote_any (hr.below hbx hh) hl (by have := hbx.size; omega)).mono ?_
    rintro e w' ⟨rfl, rfl⟩
    rw [h1']
    obtain ⟨⟨r0, r1, r2⟩, f0, f1, f2⟩ := CR0
    go_wp2_with fail
    refine bodyPost_ret (v := .tuple #[.agg #[.int .i64 0, .int .i64 0, .int .i64 0], .bool false]) (by simp [results, Try.results8, go_sem, r0, r1, r2]) rfl ?_
    rw [HE.out]
    exact ⟨rfl, ((hbx.setCell (Nat.le_refl _) _).setCell (Nat.le_refl _) _).setCell (Nat.le_refl _) _⟩
  have HE := Lib.hid (show vStrongestOf xs wd = (bestH (hypV xs wd), true) from by unfold vStrongestOf; rw [if_pos h1])
  have H1 := Lib.hid h1
  go_enter Try.func8, Try.ntmps8
  go_wp2_with fail
  generalize w.alloc (.cells #[.int .i64 0, .int .i64 0, .int .i64 0] 24) = wx at CR0 hbx ⊢
  refine (canVote_any (hr.below hbx hh) hl (by have := hbx.size; omega)).mono ?_
  rintro e w' ⟨rfl, rfl⟩
  rw [h1]
  clear h1
  go_wp2_with fail
  refine (strongestOf_any (hr.below hbx hh) (by have := hbx.size; omega) H1.out).mono ?_
  rintro e w1 ⟨rfl, B1⟩
  have CR1 := CR0.below B1 CR0.lt
  have hb1 := hbx.trans (B1.mono hbx.size)
  obtain ⟨q, hq⟩ : ∃ q, q = bestH (hypV xs wd) := ⟨_, rfl⟩
  rw [← hq]
  have HQ := Lib.hid hq
  clear hq CR0
  obtain ⟨⟨r0, r1, r2⟩, f0, f1, f2⟩ := CR1
  go_wp2_with fail
  refine bodyPost_ret (v := .tuple #[.agg #[.int .i64 q.lw, .int .i64 q.hg, .int .i64 q.vt], .bool true]) (by simp [results, Try.results8, go_sem, r0, r1, r2]) rfl ?_
  rw [HE.out]
  exact ⟨by rw [HQ.out], ((hb1.setCell (Nat.le_refl _) _).setCell (Nat.le_refl _) _).setCell (Nat.le_refl _) _⟩

set_option maxHeartbeats 1000000 in
set_option maxRecDepth 100000 in
theorem sAmbiguityOf {A : Option Addr} {c lo hi : Nat} {xs : List Int} {wd : Int} {w : World} (hr : RdI w lo hi A xs) (hl : xs.length ≤ 4194304) (hh : hi ≤ w.heap.size) :
    Calls Try.prog 11 #[.slice A xs.length c, .int .i64 wd] w (RetIIB (vAmbiguityOf xs wd).1 (vAmbiguityOf xs wd).2.1 (vAmbiguityOf xs wd).2.2 w) := by
  by_cases h1 : canV xs wd = true
  rotate_left
  · have h1' : canV xs wd = false := by simpa using h1
    have HE := Lib.hid (show vAmbiguityOf xs wd = (0, 0, false) from by unfold vAmbiguityOf; rw [if_neg (by simp [h1'])])
    clear h1
    go_enter Try.func11, Try.ntmps11
    go_wp2_with fail
    refine (l13Asked_any hr hl hh).mono ?_
    rintro e w' ⟨rfl, rfl⟩
    rw [h1']
    go_wp2_with fail
    go_ret3
    rw [HE.out]
    exact ⟨rfl, Below.refl _ _⟩
  have HE := Lib.hid (show vAmbiguityOf xs wd = (redN ((xs.length : Int) - (bestH (hypV xs wd)).vt) xs.length, redD ((xs.length : Int) - (bestH (hypV xs wd)).vt) xs.length, true) from by unfold vAmbiguityOf; rw [if_pos h1])
  have H1 := Lib.hid h1
  have hvt := best_vt h1
  obtain ⟨_, hn1, hn20⟩ := isVts_all (canV_yes h1).1
  obtain ⟨q, hq⟩ : ∃ q, bestH (hypV xs wd) = q := ⟨_, rfl⟩
  rw [hq] at hvt
  have HQ := Lib.hid hq
  clear hq
  obtain ⟨d, hd⟩ : ∃ d : Int, (xs.length : Int) - q.vt = d := ⟨_, rfl⟩
  have hd1 : -20 ≤ d ∧ d ≤ 20 := by omega
  have HD := Lib.hid (show (xs.length : Int) - (bestH (hypV xs wd)).vt = d from by rw [HQ.out]; exact hd)
  have q1 : IntKind.i64.wrap ((xs.length : Int) - q.vt) = (xs.length : Int) - q.vt := wr64 (by omega) (by omega)
  have HD2 := Lib.hid hd
  clear hd
  go_enter Try.func11, Try.ntmps11
  go_wp2_with fail
  refine (l13Asked_any hr hl hh).mono ?_
  rintro e w' ⟨rfl, rfl⟩
  rw [h1]
  clear h1
  go_wp2_with fail
  refine (l13Best_any hr hh H1.out).mono ?_
  rintro e w1 ⟨rfl, B1⟩
  rw [HQ.out]
  have hfl : ∀ w', (Instr.field 24 (.agg #[.int .i64 q.lw, .int .i64 q.hg, .int .i64 q.vt]) 2).run Try.prog w' = .ok (.int .i64 q.vt) w' := fun _ => by kernel_rfl
  go_wp2_with fail
  rw [HD2.out]
  refine (l2Reduce_any d xs.length _ (by omega) (by omega) (by omega)).mono ?_
  rintro e w3 ⟨rfl, n, rfl⟩
  have hb3 := below_drewN B1 n
  go_wp2_with fail
  go_ret3
  rw [HE.out, HD.out]
  exact ⟨rfl, hb3⟩

set_option maxHeartbeats 1000000 in
theorem sStrongestOf {A : Option Addr} {c lo hi : Nat} {xs : List Int} {wd : Int} {w : World} (hr : RdI w lo hi A xs) (hl : xs.length ≤ 4194304) (hh : hi ≤ w.heap.size) :
    Calls Try.prog 6 #[.slice A xs.length c, .int .i64 wd] w (RetHypB (vStrongestOf xs wd).1 (vStrongestOf xs wd).2 w) := by
  have CR0 := Cells3.new w ⟨0, 0, 0⟩ 24
  have hbx := below_alloc1 w (.cells #[.int .i64 0, .int .i64 0, .int .i64 0] 24)
  by_cases h1 : canV xs wd = true
  rotate_left
  · have h1' : canV xs wd = false := by simpa using h1
    have HE := Lib.hid (show vStrongestOf xs wd = (⟨0, 0, 0⟩, false) from by unfold vStrongestOf; rw [if_neg (by simp [h1'])])
    clear h1
    go_enter Try.func6, Try.ntmps6
    go_wp2_with fail
    generalize w.alloc (.cells #[.int .i64 0, .int .i64 0, .int .i64 0] 24) = wx at CR0 hbx ⊢
    refine (l13Asked_any (hr.below hbx hh) hl (by have := hbx.size; omega)).mono ?_
    rintro e w' ⟨rfl, rfl⟩
    rw [h1']
    obtain ⟨⟨r0, r1, r2⟩, f0, f1, f2⟩ := CR0
    go_wp2_with fail
    refine bodyPost_ret (v := .tuple #[.agg #[.int .i64 0, .int .i64 0, .int .i64 0], .bool false]) (by simp [results, Try.results6, go_sem, r0, r1, r2]) rfl ?_
    rw [HE.out]
    exact ⟨rfl, ((hbx.setCell (Nat.le_refl _) _).setCell (Nat.le_refl _) _).setCell (Nat.le_refl _) _⟩
  have HE := Lib.hid (show vStrongestOf xs wd = (bestH (hypV xs wd), true) from by unfold vStrongestOf; rw [if_pos h1])
  have H1 := Lib.hid h1
  go_enter Try.func6, Try.ntmps6
  go_wp2_with fail
  generalize w.alloc (.cells #[.int .i64 0, .int .i64 0, .int .i64 0] 24) = wx at CR0 hbx ⊢
  refine (l13Asked_any (hr.below hbx hh) hl (by have := hbx.size; omega)).mono ?_
  rintro e w' ⟨rfl, rfl⟩
  rw [h1]
  clear h1
  go_wp2_with fail
  refine (l13Best_any (hr.below hbx hh) (by have := hbx.size; omega) H1.out).mono ?_
  rintro e w1 ⟨rfl, B1⟩
  have CR1 := CR0.below B1 CR0.lt
  have hb1 := hbx.trans (B1.mono hbx.size)
  obtain ⟨q, hq⟩ : ∃ q, q = bestH (hypV xs wd) := ⟨_, rfl⟩
  rw [← hq]
  have HQ := Lib.hid hq
  clear hq CR0
  obtain ⟨⟨r0, r1, r2⟩, f0, f1, f2⟩ := CR1
  go_wp2_with fail
  refine bodyPost_ret (v := .tuple #[.agg #[.int .i64 q.lw, .int .i64 q.hg, .int .i64 q.vt], .bool true]) (by simp [results, Try.results6, go_sem, r0, r1, r2]) rfl ?_
  rw [HE.out]
  exact ⟨by rw [HQ.out], ((hb1.setCell (Nat.le_refl _) _).setCell (Nat.le_refl _) _).setCell (Nat.le_refl _) _⟩

end Go.Proofs.Ytiaabojkimboiaa
