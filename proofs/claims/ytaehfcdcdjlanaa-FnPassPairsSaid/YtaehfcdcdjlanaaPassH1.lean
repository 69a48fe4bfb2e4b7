/-
  This file proves the contract of the function that draws one pass.
  Conditions: that the cursor lies in a block of the call's own, and has not been asked too often.
-/
import Derived.Test.YtaehfcdcdjlanaaTrackK
import Derived.Test.YtaehfcdcdjlanaaPutQ
import Derived.Test.YtaehfcdcdjlanaaPassE
import Derived.Deep.DeepCutAuto
namespace Go.Proofs.Ytaehfcdcdjlanaa
open Go.RowKit
set_option linter.unusedSimpArgs false
set_option linter.unusedVariables false

/-- The cells of a struct variable of the call's own, which may be written. -/
structure Cells6 (W : World) (g : Nat) (p : GPass) : Prop where
  c0 : W.cell? ⟨g, 0, none⟩ = some (.int .i64 p.ln)
  c1 : W.cell? ⟨g, 1, none⟩ = some (.int .i64 p.bg)
  c2 : W.cell? ⟨g, 2, none⟩ = some (.int .i64 p.en)
  c3 : W.cell? ⟨g, 3, none⟩ = some (.int .i64 p.pg)
  c4 : W.cell? ⟨g, 4, none⟩ = some (.int .i64 p.bd)
  c5 : W.cell? ⟨g, 5, none⟩ = some (.int .i64 p.cs)
  f0 : W.frozen? ⟨g, 0, none⟩ = false
  f1 : W.frozen? ⟨g, 1, none⟩ = false
  f2 : W.frozen? ⟨g, 2, none⟩ = false
  f3 : W.frozen? ⟨g, 3, none⟩ = false
  f4 : W.frozen? ⟨g, 4, none⟩ = false
  f5 : W.frozen? ⟨g, 5, none⟩ = false
theorem Cells6.lt {W : World} {g : Nat} {p : GPass} (c : Cells6 W g p) : g < W.heap.size := World.block_lt_of_cell? W _ c.c0
theorem Cells6.keep {W W' : World} {g : Nat} {p : GPass} (c : Cells6 W g p) (h : W'.heap[g]? = W.heap[g]?) : Cells6 W' g p :=
  ⟨(World.cell?_of_block (a := ⟨g, 0, none⟩) h).trans c.c0, (World.cell?_of_block (a := ⟨g, 1, none⟩) h).trans c.c1, (World.cell?_of_block (a := ⟨g, 2, none⟩) h).trans c.c2, (World.cell?_of_block (a := ⟨g, 3, none⟩) h).trans c.c3, (World.cell?_of_block (a := ⟨g, 4, none⟩) h).trans c.c4, (World.cell?_of_block (a := ⟨g, 5, none⟩) h).trans c.c5, (World.frozen?_of_block (a := ⟨g, 0, none⟩) h).trans c.f0, (World.frozen?_of_block (a := ⟨g, 1, none⟩) h).trans c.f1, (World.frozen?_of_block (a := ⟨g, 2, none⟩) h).trans c.f2, (World.frozen?_of_block (a := ⟨g, 3, none⟩) h).trans c.f3, (World.frozen?_of_block (a := ⟨g, 4, none⟩) h).trans c.f4, (World.frozen?_of_block (a := ⟨g, 5, none⟩) h).trans c.f5⟩
theorem Cells6.new (W : World) (p : GPass) (t : TypeId) : Cells6 (W.alloc (.cells #[.int .i64 p.ln, .int .i64 p.bg, .int .i64 p.en, .int .i64 p.pg, .int .i64 p.bd, .int .i64 p.cs] t)) W.heap.size p := by
  have e := heap_alloc_new W (.cells #[.int .i64 p.ln, .int .i64 p.bg, .int .i64 p.en, .int .i64 p.pg, .int .i64 p.bd, .int .i64 p.cs] t)
  have d := Holds6.new W p
  refine ⟨?_, ?_, ?_, ?_, ?_, ?_, ?_, ?_, ?_, ?_, ?_, ?_⟩
  all_goals first
    | (unfold World.frozen?; rw [e]; rfl)
    | (unfold World.cell?; rw [e]; rfl)
theorem Cells6.far {W : World} {g g' j : Nat} {u : Value} {p : GPass} (c : Cells6 W g p) (hg : g' ≠ g) : Cells6 (W.setCell ⟨g', j, none⟩ u) g p :=
  ⟨(World.cell?_setCell_far _ _ _ _ hg).trans c.c0, (World.cell?_setCell_far _ _ _ _ hg).trans c.c1, (World.cell?_setCell_far _ _ _ _ hg).trans c.c2, (World.cell?_setCell_far _ _ _ _ hg).trans c.c3, (World.cell?_setCell_far _ _ _ _ hg).trans c.c4, (World.cell?_setCell_far _ _ _ _ hg).trans c.c5, (World.frozen?_setCell _ _ _ _).trans c.f0, (World.frozen?_setCell _ _ _ _).trans c.f1, (World.frozen?_setCell _ _ _ _).trans c.f2, (World.frozen?_setCell _ _ _ _).trans c.f3, (World.frozen?_setCell _ _ _ _).trans c.f4, (World.frozen?_setCell _ _ _ _).trans c.f5⟩
theorem Cells6.set0 {W : World} {g : Nat} {x : Int} {p : GPass} (c : Cells6 W g p) : Cells6 (W.setCell ⟨g, 0, none⟩ (.int .i64 x)) g {p with ln := x} :=
  ⟨World.cell?_setCell_same _ _ _ c.c0, (World.cell?_setCell_other _ _ _ _ (by simp)).trans c.c1, (World.cell?_setCell_other _ _ _ _ (by simp)).trans c.c2, (World.cell?_setCell_other _ _ _ _ (by simp)).trans c.c3, (World.cell?_setCell_other _ _ _ _ (by simp)).trans c.c4, (World.cell?_setCell_other _ _ _ _ (by simp)).trans c.c5, (World.frozen?_setCell _ _ _ _).trans c.f0, (World.frozen?_setCell _ _ _ _).trans c.f1, (World.frozen?_setCell _ _ _ _).trans c.f2, (World.frozen?_setCell _ _ _ _).trans c.f3, (World.frozen?_setCell _ _ _ _).trans c.f4, (World.frozen?_setCell _ _ _ _).trans c.f5⟩
theorem Cells6.set1 {W : World} {g : Nat} {x : Int} {p : GPass} (c : Cells6 W g p) : Cells6 (W.setCell ⟨g, 1, none⟩ (.int .i64 x)) g {p with bg := x} :=
  ⟨(World.cell?_setCell_other _ _ _ _ (by simp)).trans c.c0, World.cell?_setCell_same _ _ _ c.c1, (World.cell?_setCell_other _ _ _ _ (by simp)).trans c.c2, (World.cell?_setCell_other _ _ _ _ (by simp)).trans c.c3, (World.cell?_setCell_other _ _ _ _ (by simp)).trans c.c4, (World.cell?_setCell_other _ _ _ _ (by simp)).trans c.c5, (World.frozen?_setCell _ _ _ _).trans c.f0, (World.frozen?_setCell _ _ _ _).trans c.f1, (World.frozen?_setCell _ _ _ _).trans c.f2, (World.frozen?_setCell _ _ _ _).trans c.f3, (World.frozen?_setCell _ _ _ _).trans c.f4, (World.frozen?_setCell _ _ _ _).trans c.f5⟩
theorem Cells6.set2 {W : World} {g : Nat} {x : Int} {p : GPass} (c : Cells6 W g p) : Cells6 (W.setCell ⟨g, 2, none⟩ (.int .i64 x)) g {p with en := x} :=
  ⟨(World.cell?_setCell_other _ _ _ _ (by simp)).trans c.c0, (World.cell?_setCell_other _ _ _ _ (by simp)).trans c.c1, World.cell?_setCell_same _ _ _ c.c2, (World.cell?_setCell_other _ _ _ _ (by simp)).trans c.c3, (World.cell?_setCell_other _ _ _ _ (by simp)).trans c.c4, (World.cell?_setCell_other _ _ _ _ (by simp)).trans c.c5, (World.frozen?_setCell _ _ _ _).trans c.f0, (World.frozen?_setCell _ _ _ _).trans c.f1, (World.frozen?_setCell _ _ _ _).trans c.f2, (World.frozen?_setCell _ _ _ _).trans c.f3, (World.frozen?_setCell _ _ _ _).trans c.f4, (World.frozen?_setCell _ _ _ _).trans c.f5⟩
theorem Cells6.set3 {W : World} {g : Nat} {x : Int} {p : GPass} (c : Cells6 W g p) : Cells6 (W.setCell ⟨g, 3, none⟩ (.int .i64 x)) g {p with pg := x} :=
  ⟨(World.cell?_setCell_other _ _ _ _ (by simp)).trans c.c0, (World.cell?_setCell_other _ _ _ _ (by simp)).trans c.c1, (World.cell?_setCell_other _ _ _ _ (by simp)).trans c.c2, World.cell?_setCell_same _ _ _ c.c3, (World.cell?_setCell_other _ _ _ _ (by simp)).trans c.c4, (World.cell?_setCell_other _ _ _ _ (by simp)).trans c.c5, (World.frozen?_setCell _ _ _ _).trans c.f0, (World.frozen?_setCell _ _ _ _).trans c.f1, (World.frozen?_setCell _ _ _ _).trans c.f2, (World.frozen?_setCell _ _ _ _).trans c.f3, (World.frozen?_setCell _ _ _ _).trans c.f4, (World.frozen?_setCell _ _ _ _).trans c.f5⟩
theorem Cells6.set4 {W : World} {g : Nat} {x : Int} {p : GPass} (c : Cells6 W g p) : Cells6 (W.setCell ⟨g, 4, none⟩ (.int .i64 x)) g {p with bd := x} :=
  ⟨(World.cell?_setCell_other _ _ _ _ (by simp)).trans c.c0, (World.cell?_setCell_other _ _ _ _ (by simp)).trans c.c1, (World.cell?_setCell_other _ _ _ _ (by simp)).trans c.c2, (World.cell?_setCell_other _ _ _ _ (by simp)).trans c.c3, World.cell?_setCell_same _ _ _ c.c4, (World.cell?_setCell_other _ _ _ _ (by simp)).trans c.c5, (World.frozen?_setCell _ _ _ _).trans c.f0, (World.frozen?_setCell _ _ _ _).trans c.f1, (World.frozen?_setCell _ _ _ _).trans c.f2, (World.frozen?_setCell _ _ _ _).trans c.f3, (World.frozen?_setCell _ _ _ _).trans c.f4, (World.frozen?_setCell _ _ _ _).trans c.f5⟩
theorem Cells6.set5 {W : World} {g : Nat} {x : Int} {p : GPass} (c : Cells6 W g p) : Cells6 (W.setCell ⟨g, 5, none⟩ (.int .i64 x)) g {p with cs := x} :=
  ⟨(World.cell?_setCell_other _ _ _ _ (by simp)).trans c.c0, (World.cell?_setCell_other _ _ _ _ (by simp)).trans c.c1, (World.cell?_setCell_other _ _ _ _ (by simp)).trans c.c2, (World.cell?_setCell_other _ _ _ _ (by simp)).trans c.c3, (World.cell?_setCell_other _ _ _ _ (by simp)).trans c.c4, World.cell?_setCell_same _ _ _ c.c5, (World.frozen?_setCell _ _ _ _).trans c.f0, (World.frozen?_setCell _ _ _ _).trans c.f1, (World.frozen?_setCell _ _ _ _).trans c.f2, (World.frozen?_setCell _ _ _ _).trans c.f3, (World.frozen?_setCell _ _ _ _).trans c.f4, (World.frozen?_setCell _ _ _ _).trans c.f5⟩
/-- A pass is being drawn: its cells lie in the block q, the result's in r. -/
structure PS (w wr : World) (g b r q : Nat) (p : GPass) : Prop where
  on : Only g (g + 1) w wr
  cur : Cur wr g b
  hg : g < w.heap.size
  hr : w.heap.size ≤ r
  hq : w.heap.size ≤ q
  hn : r < q
  cr : Cells6 wr r ⟨0, 0, 0, 0, 0, 0⟩
  cp : Cells6 wr q p
theorem PS.alloc {w wr : World} {g b r q : Nat} {p : GPass} (h : PS w wr g b r q p) (o : Obj) : PS w (wr.alloc o) g b r q p :=
  ⟨h.on.alloc o, h.cur.below (below_alloc1 wr o) h.cur.lt, h.hg, h.hr, h.hq, h.hn, h.cr.keep ((below_alloc1 wr o).block _ h.cr.lt), h.cp.keep ((below_alloc1 wr o).block _ h.cp.lt)⟩
theorem PS.step {w wr w' : World} {g b b' r q : Nat} {p : GPass} (h : PS w wr g b r q p) (on : Only g (g + 1) wr w') (hc : Cur w' g b') : PS w w' g b' r q p :=
  ⟨h.on.trans on, hc, h.hg, h.hr, h.hq, h.hn, h.cr.keep (on.block _ h.cr.lt (.inr (by have := h.hg; have := h.hr; omega))), h.cp.keep (on.block _ h.cp.lt (.inr (by have := h.hg; have := h.hq; omega)))⟩
theorem only_far {w wr : World} {g r j : Nat} {u : Value} (h : Only g (g + 1) w wr) (hr : w.heap.size ≤ r) : Only g (g + 1) w (wr.setCell ⟨r, j, none⟩ u) :=
  ⟨h.os, h.tape, h.output, by simpa [World.setCell] using h.size, fun k hk ho => (Below.heap_setCell _ _ _ _ (by show k ≠ r; omega)).trans (h.block k hk ho)⟩
theorem cur_far {wr : World} {g b r j : Nat} {u : Value} (h : Cur wr g b) (hn : g < r) : Cur (wr.setCell ⟨r, j, none⟩ u) g b :=
  h.below (N := r) ⟨rfl, rfl, rfl, by simp [World.setCell], fun k hk => Below.heap_setCell _ _ _ _ (by show k ≠ r; omega)⟩ hn

theorem PS.set0 {w wr : World} {g b r q : Nat} {p : GPass} {x : Int} (h : PS w wr g b r q p) : PS w (wr.setCell ⟨q, 0, none⟩ (.int .i64 x)) g b r q {p with ln := x} :=
  ⟨only_far h.on h.hq, cur_far h.cur (by have := h.hg; have := h.hq; omega), h.hg, h.hr, h.hq, h.hn, h.cr.far (by have := h.hn; omega), h.cp.set0⟩
theorem PS.set1 {w wr : World} {g b r q : Nat} {p : GPass} {x : Int} (h : PS w wr g b r q p) : PS w (wr.setCell ⟨q, 1, none⟩ (.int .i64 x)) g b r q {p with bg := x} :=
  ⟨only_far h.on h.hq, cur_far h.cur (by have := h.hg; have := h.hq; omega), h.hg, h.hr, h.hq, h.hn, h.cr.far (by have := h.hn; omega), h.cp.set1⟩
theorem PS.set2 {w wr : World} {g b r q : Nat} {p : GPass} {x : Int} (h : PS w wr g b r q p) : PS w (wr.setCell ⟨q, 2, none⟩ (.int .i64 x)) g b r q {p with en := x} :=
  ⟨only_far h.on h.hq, cur_far h.cur (by have := h.hg; have := h.hq; omega), h.hg, h.hr, h.hq, h.hn, h.cr.far (by have := h.hn; omega), h.cp.set2⟩
theorem PS.set3 {w wr : World} {g b r q : Nat} {p : GPass} {x : Int} (h : PS w wr g b r q p) : PS w (wr.setCell ⟨q, 3, none⟩ (.int .i64 x)) g b r q {p with pg := x} :=
  ⟨only_far h.on h.hq, cur_far h.cur (by have := h.hg; have := h.hq; omega), h.hg, h.hr, h.hq, h.hn, h.cr.far (by have := h.hn; omega), h.cp.set3⟩
theorem PS.set4 {w wr : World} {g b r q : Nat} {p : GPass} {x : Int} (h : PS w wr g b r q p) : PS w (wr.setCell ⟨q, 4, none⟩ (.int .i64 x)) g b r q {p with bd := x} :=
  ⟨only_far h.on h.hq, cur_far h.cur (by have := h.hg; have := h.hq; omega), h.hg, h.hr, h.hq, h.hn, h.cr.far (by have := h.hn; omega), h.cp.set4⟩
theorem PS.set5 {w wr : World} {g b r q : Nat} {p : GPass} {x : Int} (h : PS w wr g b r q p) : PS w (wr.setCell ⟨q, 5, none⟩ (.int .i64 x)) g b r q {p with cs := x} :=
  ⟨only_far h.on h.hq, cur_far h.cur (by have := h.hg; have := h.hq; omega), h.hg, h.hr, h.hq, h.hn, h.cr.far (by have := h.hn; omega), h.cp.set5⟩
theorem PS.base {w wr : World} {g b r q : Nat} {p : GPass} (h : PS w wr g b r q p) : g < wr.heap.size ∧ r < wr.heap.size ∧ q < wr.heap.size := ⟨h.cur.lt, h.cr.lt, h.cp.lt⟩
theorem six_far {w wr : World} {g b r : Nat} {x0 x1 x2 x3 x4 x5 : Value} (on : Only g (g + 1) w wr) (cu : Cur wr g b) (hr : w.heap.size ≤ r) (hg : g < w.heap.size) :
    Only g (g + 1) w ((((((wr.setCell ⟨r, 0, none⟩ x0).setCell ⟨r, 1, none⟩ x1).setCell ⟨r, 2, none⟩ x2).setCell ⟨r, 3, none⟩ x3).setCell ⟨r, 4, none⟩ x4).setCell ⟨r, 5, none⟩ x5) ∧
    Cur ((((((wr.setCell ⟨r, 0, none⟩ x0).setCell ⟨r, 1, none⟩ x1).setCell ⟨r, 2, none⟩ x2).setCell ⟨r, 3, none⟩ x3).setCell ⟨r, 4, none⟩ x4).setCell ⟨r, 5, none⟩ x5) g b :=
  ⟨only_far (only_far (only_far (only_far (only_far (only_far on hr) hr) hr) hr) hr) hr, cur_far (cur_far (cur_far (cur_far (cur_far (cur_far cu (by omega)) (by omega)) (by omega)) (by omega)) (by omega)) (by omega)⟩
def DrawnP1 (g b : Nat) (w : World) (e : Ending) (w' : World) : Prop := ∃ p : GPass, e = .returned p.val ∧ Only g (g + 1) w w' ∧ Cur w' g b

set_option maxHeartbeats 2000000 in
set_option maxRecDepth 100000 in
theorem pass_any {g b : Nat} {bg : Int} {w : World} (hc : Cur w g b) (hb : b ≤ 1000000) :
    Calls Try.prog 79 #[.pointer (some ⟨g, 0, none⟩), .int .i64 bg] w (DrawnP1 g (b + 20) w) := by
  have R0 : Cells6 (w.alloc (.cells #[.int .i64 0, .int .i64 0, .int .i64 0, .int .i64 0, .int .i64 0, .int .i64 0] 40)) w.heap.size ⟨0, 0, 0, 0, 0, 0⟩ := Cells6.new w ⟨0, 0, 0, 0, 0, 0⟩ 40
  have C0 := hc.below (below_alloc1 w (.cells #[.int .i64 0, .int .i64 0, .int .i64 0, .int .i64 0, .int .i64 0, .int .i64 0] 40)) hc.lt
  have O0 := (Only.refl g (g + 1) w).alloc (.cells #[.int .i64 0, .int .i64 0, .int .i64 0, .int .i64 0, .int .i64 0, .int .i64 0] 40)
  have hgw := hc.lt
  go_enter Try.func79, Try.ntmps79
  go_wp2_with fail
  have hs0 : w.heap.size + 1 = (w.alloc (.cells #[.int .i64 0, .int .i64 0, .int .i64 0, .int .i64 0, .int .i64 0, .int .i64 0] 40)).heap.size := by simp
  generalize w.alloc (.cells #[.int .i64 0, .int .i64 0, .int .i64 0, .int .i64 0, .int .i64 0, .int .i64 0] 40) = w0 at R0 C0 O0 hs0 ⊢
  have HS0 := Lib.hid hs0
  clear hs0
  have T0 := C0.below (below_alloc1 w0 (.cells #[.int .i64 1, .int .i64 2, .int .i64 2, .int .i64 3, .int .i64 999] 3)) C0.lt
  have I0 := rdI_newg w0 (w.heap.size + 1) 3 [1, 2, 2, 3, 999] #[.int .i64 1, .int .i64 2, .int .i64 2, .int .i64 3, .int .i64 999] rfl HS0.out
  skip
  refine (among_any T0 (by omega) I0 (.inr (by have := C0.lt; omega)) (by have := HS0.out; simp; omega) (by decide) (by decide)).mono ?_
  rintro e w1 ⟨lv, hm_lv, rfl, on0, C1, z0⟩
  have O1 := (O0.alloc (.cells #[.int .i64 1, .int .i64 2, .int .i64 2, .int .i64 3, .int .i64 999] 3)).trans on0
  have R1 := R0.keep ((((Only.refl g (g + 1) w0).alloc (.cells #[.int .i64 1, .int .i64 2, .int .i64 2, .int .i64 3, .int .i64 999] 3)).trans on0).block _ R0.lt (.inr hgw))
  have hr_lv : 1 ≤ lv ∧ lv ≤ 999 := by simp at hm_lv; omega
  clear T0 I0 z0 on0 hm_lv R0 O0 C0
  have T1 := C1.below (below_alloc1 w1 (.cells #[.int .i64 1, .int .i64 10, .int .i64 25] 3)) C1.lt
  have I1 := rdI_new w1 3 [1, 10, 25] #[.int .i64 1, .int .i64 10, .int .i64 25] rfl
  go_wp2_with fail
  refine (among_any T1 (by omega) I1 (.inr (by have := C1.lt; omega)) (by simp) (by decide) (by decide)).mono ?_
  rintro e w2 ⟨ev, hm_ev, rfl, on1, C2, z1⟩
  have O2 := (O1.alloc (.cells #[.int .i64 1, .int .i64 10, .int .i64 25] 3)).trans on1
  have R2 := R1.keep ((((Only.refl g (g + 1) w1).alloc (.cells #[.int .i64 1, .int .i64 10, .int .i64 25] 3)).trans on1).block _ R1.lt (.inr hgw))
  have hr_ev : 1 ≤ ev ∧ ev ≤ 25 := by simp at hm_ev; omega
  clear T1 I1 z1 on1 hm_ev R1 O1 C1
  obtain ⟨en, hen⟩ : ∃ en, IntKind.i64.wrap (bg + ev) = en := ⟨_, rfl⟩
  have T2 := C2.below (below_alloc1 w2 (.cells #[.int .i64 0, .int .i64 10, .int .i64 900, .int .i64 100000] 3)) C2.lt
  have I2 := rdI_new w2 3 [0, 10, 900, 100000] #[.int .i64 0, .int .i64 10, .int .i64 900, .int .i64 100000] rfl
  go_wp2_with fail
  refine (among_any T2 (by omega) I2 (.inr (by have := C2.lt; omega)) (by simp) (by decide) (by decide)).mono ?_
  rintro e w3 ⟨pv, hm_pv, rfl, on2, C3, z2⟩
  have O3 := (O2.alloc (.cells #[.int .i64 0, .int .i64 10, .int .i64 900, .int .i64 100000] 3)).trans on2
  have R3 := R2.keep ((((Only.refl g (g + 1) w2).alloc (.cells #[.int .i64 0, .int .i64 10, .int .i64 900, .int .i64 100000] 3)).trans on2).block _ R2.lt (.inr hgw))
  have hr_pv : 0 ≤ pv ∧ pv ≤ 100000 := by simp at hm_pv; omega
  clear T2 I2 z2 on2 hm_pv R2 O2 C2
  have T3 := C3.below (below_alloc1 w3 (.cells #[.int .i64 0, .int .i64 10, .int .i64 179, .int .i64 180, .int .i64 190, .int .i64 191, .int .i64 359] 3)) C3.lt
  have I3 := rdI_new w3 3 [0, 10, 179, 180, 190, 191, 359] #[.int .i64 0, .int .i64 10, .int .i64 179, .int .i64 180, .int .i64 190, .int .i64 191, .int .i64 359] rfl
  go_wp2_with fail
  refine (among_any T3 (by omega) I3 (.inr (by have := C3.lt; omega)) (by simp) (by decide) (by decide)).mono ?_
  rintro e w4 ⟨cv, hm_cv, rfl, on3, C4, z3⟩
  have O4 := (O3.alloc (.cells #[.int .i64 0, .int .i64 10, .int .i64 179, .int .i64 180, .int .i64 190, .int .i64 191, .int .i64 359] 3)).trans on3
  have R4 := R3.keep ((((Only.refl g (g + 1) w3).alloc (.cells #[.int .i64 0, .int .i64 10, .int .i64 179, .int .i64 180, .int .i64 190, .int .i64 191, .int .i64 359] 3)).trans on3).block _ R3.lt (.inr hgw))
  have hr_cv : 0 ≤ cv ∧ cv ≤ 359 := by simp at hm_cv; omega
  clear T3 I3 z3 on3 hm_cv R3 O3 C3
  have K0 : PS w (w4.alloc (.cells #[.int .i64 lv, .int .i64 bg, .int .i64 en, .int .i64 pv, .int .i64 0, .int .i64 cv] 40)) g (b + 8) w.heap.size w4.heap.size ⟨lv, bg, en, pv, 0, cv⟩ :=
    ⟨O4.alloc _, C4.below (below_alloc1 _ _) C4.lt, hgw, Nat.le_refl _, O4.size, R4.lt, R4.keep ((below_alloc1 w4 _).block _ R4.lt), Cells6.new w4 ⟨lv, bg, en, pv, 0, cv⟩ 40⟩
  clear O4 C4 R4
  have hne : w.heap.size ≠ w4.heap.size := by have := K0.hn; omega
  have hne2 : w4.heap.size ≠ w.heap.size := by omega
  go_wp2_with fail
  have hs5 : w4.heap.size + 1 = (w4.alloc (.cells #[.int .i64 lv, .int .i64 bg, .int .i64 en, .int .i64 pv, .int .i64 0, .int .i64 cv] 40)).heap.size := by simp
  generalize w4.alloc (.cells #[.int .i64 lv, .int .i64 bg, .int .i64 en, .int .i64 pv, .int .i64 0, .int .i64 cv] 40) = w5 at K0 hs5 ⊢
  have HS5 := Lib.hid hs5
  clear hs5
  generalize w4.heap.size = q at K0 hne hne2 HS5 ⊢
  have T5 := K0.alloc (.cells #[.int .i64 0, .int .i64 (pv / 10), .int .i64 (pv / 10 + 1), .int .i64 pv] 3)
  have I5 := rdI_newg w5 (q + 1) 3 [0, pv / 10, pv / 10 + 1, pv] #[.int .i64 0, .int .i64 (pv / 10), .int .i64 (pv / 10 + 1), .int .i64 pv] rfl HS5.out
  refine (among_any T5.cur (by omega) I5 (.inr (by have := K0.base; have := HS5.out; omega)) (by have := HS5.out; simp; omega) (by simp) (by simp)).mono ?_
  rintro e w6 ⟨bv, hm_bv, rfl, on5, cc5, z5⟩
  have K1 := T5.step on5 cc5
  clear T5 I5 z5 on5 cc5 hm_bv K0 HS5
  have K1' := Lib.hid K1
  obtain ⟨c0, c1, c2, c3, c4, c5, f0, f1, f2, f3, f4, f5⟩ := K1.cp
  clear K1
  go_wp2_with fail
  refine (passLeast_any _ _ _).mono ?_
  rintro e w' ⟨rfl, rfl⟩
  generalize leastI bv pv = mv
  go_wp2_with fail
  have K2 := (K1'.out.set4 (x := bv)).set4 (x := mv)
  clear c0 c1 c2 c3 c4 c5 f0 f1 f2 f3 f4 f5 K1'
  generalize World.setCell (World.setCell _ _ _) _ _ = w7 at K2 ⊢
  refine (pick_any K2.cur (by omega) (by omega) (by omega)).mono ?_
  rintro e w8 ⟨kv, rfl, h1_kv, h2_kv, on6, cc6, z6⟩
  have K3 : PS w w8 g (b + 8 + 2 + 2) w.heap.size q ⟨lv, bg, en, pv, mv, cv⟩ := K2.step on6 cc6
  clear K2 on6 cc6 z6
  by_cases hp0 : kv = 0
  · subst hp0
    obtain ⟨c0, c1, c2, c3, c4, c5, f0, f1, f2, f3, f4, f5⟩ := K3.cp
    have T9 := K3.alloc (.cells #[.int .i64 0, .int .i64 1000] 3)
    have I9 := rdI_new w8 3 [0, 1000] #[.int .i64 0, .int .i64 1000] rfl
    go_wp2_with fail
    refine (among_any T9.cur (by omega) I9 (.inr (by have := K3.base; omega)) (by simp) (by simp) (by simp)).mono ?_
    rintro e w9 ⟨xv, hm_xv, rfl, on9, cc9, z9⟩
    have K4 : PS w w9 g (b + 8 + 2 + 2 + 2) w.heap.size q ⟨lv, bg, en, pv, mv, cv⟩ := T9.step on9 cc9
    clear T9 I9 z9 on9 cc9 hm_xv K3 c0 c1 c2 c3 c4 c5 f0 f1 f2 f3 f4 f5
    obtain ⟨c0, c1, c2, c3, c4, c5, f0, f1, f2, f3, f4, f5⟩ := K4.cp
    obtain ⟨r0, r1, r2, r3, r4, r5, g0, g1, g2, g3, g4, g5⟩ := K4.cr
    have KF := Lib.hid (K4.set0 (x := xv))
    go_wp2_with fail
    refine bodyPost_ret (v := .agg #[.int .i64 (xv), .int .i64 (bg), .int .i64 (en), .int .i64 (pv), .int .i64 (mv), .int .i64 (cv)]) (by simp [results, Try.results79, go_sem, r0, r1, r2, r3, r4, r5, hne, hne2]) rfl ?_
    exact ⟨⟨xv, bg, en, pv, mv, cv⟩, rfl, six_far KF.out.on (KF.out.cur.more (by omega)) (Nat.le_refl _) hgw⟩
  by_cases hp1 : kv = 1
  · subst hp1
    obtain ⟨c0, c1, c2, c3, c4, c5, f0, f1, f2, f3, f4, f5⟩ := K3.cp
    have T9 := K3.alloc (.cells #[.int .i64 (-1), .int .i64 (en)] 3)
    have I9 := rdI_new w8 3 [-1, en] #[.int .i64 (-1), .int .i64 (en)] rfl
    go_wp2_with fail
    refine (among_any T9.cur (by omega) I9 (.inr (by have := K3.base; omega)) (by simp) (by simp) (by simp)).mono ?_
    rintro e w9 ⟨xv, hm_xv, rfl, on9, cc9, z9⟩
    have K4 : PS w w9 g (b + 8 + 2 + 2 + 2) w.heap.size q ⟨lv, bg, en, pv, mv, cv⟩ := T9.step on9 cc9
    clear T9 I9 z9 on9 cc9 hm_xv K3 c0 c1 c2 c3 c4 c5 f0 f1 f2 f3 f4 f5
    obtain ⟨c0, c1, c2, c3, c4, c5, f0, f1, f2, f3, f4, f5⟩ := K4.cp
    obtain ⟨r0, r1, r2, r3, r4, r5, g0, g1, g2, g3, g4, g5⟩ := K4.cr
    have KF := Lib.hid (K4.set1 (x := xv))
    go_wp2_with fail
    refine bodyPost_ret (v := .agg #[.int .i64 (lv), .int .i64 (xv), .int .i64 (en), .int .i64 (pv), .int .i64 (mv), .int .i64 (cv)]) (by simp [results, Try.results79, go_sem, r0, r1, r2, r3, r4, r5, hne, hne2]) rfl ?_
    exact ⟨⟨lv, xv, en, pv, mv, cv⟩, rfl, six_far KF.out.on (KF.out.cur.more (by omega)) (Nat.le_refl _) hgw⟩
  by_cases hp2 : kv = 2
  · subst hp2
    obtain ⟨c0, c1, c2, c3, c4, c5, f0, f1, f2, f3, f4, f5⟩ := K3.cp
    obtain ⟨r0, r1, r2, r3, r4, r5, g0, g1, g2, g3, g4, g5⟩ := K3.cr
    have KF := Lib.hid (K3.set2 (x := 10001))
    go_wp2_with fail
    refine bodyPost_ret (v := .agg #[.int .i64 (lv), .int .i64 (bg), .int .i64 (10001), .int .i64 (pv), .int .i64 (mv), .int .i64 (cv)]) (by simp [results, Try.results79, go_sem, r0, r1, r2, r3, r4, r5, hne, hne2]) rfl ?_
    exact ⟨⟨lv, bg, 10001, pv, mv, cv⟩, rfl, six_far KF.out.on (KF.out.cur.more (by omega)) (Nat.le_refl _) hgw⟩
  by_cases hp3 : kv = 3
  · subst hp3
    obtain ⟨c0, c1, c2, c3, c4, c5, f0, f1, f2, f3, f4, f5⟩ := K3.cp
    have T9 := K3.alloc (.cells #[.int .i64 (-1), .int .i64 100001] 3)
    have I9 := rdI_new w8 3 [-1, 100001] #[.int .i64 (-1), .int .i64 100001] rfl
    go_wp2_with fail
    refine (among_any T9.cur (by omega) I9 (.inr (by have := K3.base; omega)) (by simp) (by simp) (by simp)).mono ?_
    rintro e w9 ⟨xv, hm_xv, rfl, on9, cc9, z9⟩
    have K4 : PS w w9 g (b + 8 + 2 + 2 + 2) w.heap.size q ⟨lv, bg, en, pv, mv, cv⟩ := T9.step on9 cc9
    clear T9 I9 z9 on9 cc9 hm_xv K3 c0 c1 c2 c3 c4 c5 f0 f1 f2 f3 f4 f5
    obtain ⟨c0, c1, c2, c3, c4, c5, f0, f1, f2, f3, f4, f5⟩ := K4.cp
    obtain ⟨r0, r1, r2, r3, r4, r5, g0, g1, g2, g3, g4, g5⟩ := K4.cr
    have KF := Lib.hid (K4.set3 (x := xv))
    go_wp2_with fail
    refine bodyPost_ret (v := .agg #[.int .i64 (lv), .int .i64 (bg), .int .i64 (en), .int .i64 (xv), .int .i64 (mv), .int .i64 (cv)]) (by simp [results, Try.results79, go_sem, r0, r1, r2, r3, r4, r5, hne, hne2]) rfl ?_
    exact ⟨⟨lv, bg, en, xv, mv, cv⟩, rfl, six_far KF.out.on (KF.out.cur.more (by omega)) (Nat.le_refl _) hgw⟩
  by_cases hp4 : kv = 4
  · subst hp4
    obtain ⟨c0, c1, c2, c3, c4, c5, f0, f1, f2, f3, f4, f5⟩ := K3.cp
    have T9 := K3.alloc (.cells #[.int .i64 (-1), .int .i64 (pv + 1)] 3)
    have I9 := rdI_new w8 3 [-1, pv + 1] #[.int .i64 (-1), .int .i64 (pv + 1)] rfl
    go_wp2_with fail
    refine (among_any T9.cur (by omega) I9 (.inr (by have := K3.base; omega)) (by simp) (by simp) (by simp)).mono ?_
    rintro e w9 ⟨xv, hm_xv, rfl, on9, cc9, z9⟩
    have K4 : PS w w9 g (b + 8 + 2 + 2 + 2) w.heap.size q ⟨lv, bg, en, pv, mv, cv⟩ := T9.step on9 cc9
    clear T9 I9 z9 on9 cc9 hm_xv K3 c0 c1 c2 c3 c4 c5 f0 f1 f2 f3 f4 f5
    obtain ⟨c0, c1, c2, c3, c4, c5, f0, f1, f2, f3, f4, f5⟩ := K4.cp
    obtain ⟨r0, r1, r2, r3, r4, r5, g0, g1, g2, g3, g4, g5⟩ := K4.cr
    have KF := Lib.hid (K4.set4 (x := xv))
    go_wp2_with fail
    refine bodyPost_ret (v := .agg #[.int .i64 (lv), .int .i64 (bg), .int .i64 (en), .int .i64 (pv), .int .i64 (xv), .int .i64 (cv)]) (by simp [results, Try.results79, go_sem, r0, r1, r2, r3, r4, r5, hne, hne2]) rfl ?_
    exact ⟨⟨lv, bg, en, pv, xv, cv⟩, rfl, six_far KF.out.on (KF.out.cur.more (by omega)) (Nat.le_refl _) hgw⟩
  by_cases hp5 : kv = 5
  · subst hp5
    obtain ⟨c0, c1, c2, c3, c4, c5, f0, f1, f2, f3, f4, f5⟩ := K3.cp
    have T9 := K3.alloc (.cells #[.int .i64 (-1), .int .i64 360] 3)
    have I9 := rdI_new w8 3 [-1, 360] #[.int .i64 (-1), .int .i64 360] rfl
    go_wp2_with fail
    refine (among_any T9.cur (by omega) I9 (.inr (by have := K3.base; omega)) (by simp) (by simp) (by simp)).mono ?_
    rintro e w9 ⟨xv, hm_xv, rfl, on9, cc9, z9⟩
    have K4 : PS w w9 g (b + 8 + 2 + 2 + 2) w.heap.size q ⟨lv, bg, en, pv, mv, cv⟩ := T9.step on9 cc9
    clear T9 I9 z9 on9 cc9 hm_xv K3 c0 c1 c2 c3 c4 c5 f0 f1 f2 f3 f4 f5
    obtain ⟨c0, c1, c2, c3, c4, c5, f0, f1, f2, f3, f4, f5⟩ := K4.cp
    obtain ⟨r0, r1, r2, r3, r4, r5, g0, g1, g2, g3, g4, g5⟩ := K4.cr
    have KF := Lib.hid (K4.set5 (x := xv))
    go_wp2_with fail
    refine bodyPost_ret (v := .agg #[.int .i64 (lv), .int .i64 (bg), .int .i64 (en), .int .i64 (pv), .int .i64 (mv), .int .i64 (xv)]) (by simp [results, Try.results79, go_sem, r0, r1, r2, r3, r4, r5, hne, hne2]) rfl ?_
    exact ⟨⟨lv, bg, en, pv, mv, xv⟩, rfl, six_far KF.out.on (KF.out.cur.more (by omega)) (Nat.le_refl _) hgw⟩
  have n0 : (kv == 0) = false := by simpa using hp0
  have n1 : (kv == 1) = false := by simpa using hp1
  have n2 : (kv == 2) = false := by simpa using hp2
  have n3 : (kv == 3) = false := by simpa using hp3
  have n4 : (kv == 4) = false := by simpa using hp4
  have n5 : (kv == 5) = false := by simpa using hp5
  clear hp0 hp1 hp2 hp3 hp4 hp5
  obtain ⟨c0, c1, c2, c3, c4, c5, f0, f1, f2, f3, f4, f5⟩ := K3.cp
  obtain ⟨r0, r1, r2, r3, r4, r5, g0, g1, g2, g3, g4, g5⟩ := K3.cr
  have KF := Lib.hid (K3)
  go_wp2_with fail
  refine bodyPost_ret (v := .agg #[.int .i64 (lv), .int .i64 (bg), .int .i64 (en), .int .i64 (pv), .int .i64 (mv), .int .i64 (cv)]) (by simp [results, Try.results79, go_sem, r0, r1, r2, r3, r4, r5, hne, hne2]) rfl ?_
  exact ⟨⟨lv, bg, en, pv, mv, cv⟩, rfl, six_far KF.out.on (KF.out.cur.more (by omega)) (Nat.le_refl _) hgw⟩
end Go.Proofs.Ytaehfcdcdjlanaa
