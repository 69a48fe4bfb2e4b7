/-
  This file proves what the rows' frames over slices of passes share: such a slice that came in as an argument reads as a list of passes.
  Conditions: that the argument can be read as data.
-/
import Derived.Test.YtnljjocoloijfaaFramePass
import Derived.Test.YtnljjocoloijfaaPassB
import Derived.Deep.Slices
import Derived.Deep.Fields
import Derived.ChangeSame
namespace Go.Proofs.Ytnljjocoloijfaa
open Go.ChangeShapes Go.WideShapes Go.ChangeAt Go.RowKit Go.Joins Go.Deep
set_option linter.unusedVariables false
set_option linter.unusedSimpArgs false

section
variable {H : Type} {enc : TypeId × Value → H} {P : Program} {w : World} {base : Nat} {spare : Nat → Bool} {held : Bool}
theorem open_slice_fields {t e : TypeId} {fs : Array Field} {fuel : Nat} {cs : List Value} {x : DataW H × List MemPlace} (ht : P.underlying t = some (.slice e)) (he : P.underlying e = some (.struct fs))
    (hone : oneCellFields P fs = true) (hC : P.cellsOf e = fs.size) (h : DataW.trod enc P w base spare held fuel t cs = some x) :
    (cs = [.slice none 0 0] ∧ x = (.nil, [])) ∨
    ∃ (a : Addr) (len cap m : Nat) (D : Nat → DataW H) (Pl : Nat → List MemPlace), cs = [.slice (some a) len cap] ∧ base ≤ a.block ∧ len ≤ cap ∧ cap ≤ maxLen ∧ m = (if spare a.block then cap else len) ∧
      x = (.slice ((List.range len).map D) ((List.range (m - len)).map fun j => D (len + j)), MemPlace.row a (m * fs.size) ++ (List.range m).flatMap Pl) ∧
      ∀ i, i < m → ∃ (ys : List (DataW H × List MemPlace)) (n : Nat), D i = .agg (ys.map (·.1)) ∧ Pl i = ys.flatMap (·.2) ∧ ys.length = fs.size ∧
        ∀ (j : Nat) (f : Field), fs[j]? = some f → ∃ (v : Value) (y : DataW H × List MemPlace), w.cell? (a.add (i * fs.size + j)) = some v ∧ ys[j]? = some y ∧ DataW.trod enc P w base spare held n f.type [v] = some y := by
  rcases open_slice ht h with h0 | ⟨a, len, cap, m, n, D, Pl, hcs, hb, hl, hm, hmm, hx, hi⟩
  · exact .inl h0
  · refine .inr ⟨a, len, cap, m, D, Pl, hcs, hb, hl, hm, hmm, by rw [hC] at hx; exact hx, fun i him => ?_⟩
    obtain ⟨cs', hc, ht'⟩ := hi i him
    rw [hC] at hc
    obtain ⟨ys, n', hn', hy, hlen, hyl, hf⟩ := DataW.trod_struct he ht'
    obtain ⟨_, hcl, hat⟩ := World.cells?_some hc
    simp only [Prod.mk.injEq] at hy
    refine ⟨ys, n', hy.1, hy.2, hyl, fun j f hj => ?_⟩
    obtain ⟨ho, hk⟩ := hone_of hone j f hj
    have hjl : j < fs.size := (Array.getElem?_eq_some_iff.1 hj).1
    have hcell := hat j hjl
    have hv : cs'[j]? = some (cs'[j]'(by omega)) := List.getElem?_eq_getElem (by omega)
    have h1 := hf j f hj
    rw [ho, hk] at h1
    have hone' : (cs'.drop j).take 1 = [cs'[j]'(by omega)] := by
      rw [List.drop_eq_getElem_cons (by omega)]
      rfl
    rw [hone'] at h1
    have hys : ys[j]? = some (ys[j]'(by omega)) := List.getElem?_eq_getElem (by omega)
    refine ⟨_, _, ?_, hys, h1.trans hys⟩
    rw [← Go.Deep.add_add, hcell, hv]
end

/-- A pass that lies at element i. -/
def passAt (W : World) (a : Addr) (i : Nat) (p : GPass) : Prop := (W.cell? (a.add (i * 6 + 0)) = some (.int .i64 p.ln) ∧ W.cell? (a.add (i * 6 + 1)) = some (.int .i64 p.bg) ∧ W.cell? (a.add (i * 6 + 2)) = some (.int .i64 p.en) ∧ W.cell? (a.add (i * 6 + 3)) = some (.int .i64 p.pg) ∧ W.cell? (a.add (i * 6 + 4)) = some (.int .i64 p.bd) ∧ W.cell? (a.add (i * 6 + 5)) = some (.int .i64 p.cs)) ∧ p.wf
theorem rdP_of {W : World} {a : Addr} {len : Nat} {F : Nat → GPass} (h : ∀ i, i < len → passAt W a i (F i)) : RdP W 0 W.heap.size (some a) ((List.range len).map F) := by
  refine ⟨by rw [passCells_length], fun hn => ?_⟩
  have hn' : 0 < len := by simpa using hn
  have h0 := (h 0 hn').1.1
  obtain ⟨b, off, spot⟩ := a
  have hs : spot = none := by simpa [Addr.add] using World.cell?_spot h0
  subst hs
  have hlt := World.block_lt_of_cell? W _ h0
  refine ⟨b, off, rfl, Nat.zero_le _, by simpa [Addr.add] using hlt, fun j u hu => ?_⟩
  have hj : j < len * 6 := by have := (List.getElem?_eq_some_iff.1 hu).1; rw [passCells_length] at this; simpa using this
  obtain ⟨q, r, hjq, hr6⟩ : ∃ q r, j = q * 6 + r ∧ r < 6 := ⟨j / 6, j % 6, by omega, by omega⟩
  subst hjq
  have hq : q < len := by omega
  have hF : ((List.range len).map F)[q]? = some (F q) := by simp [hq]
  rw [passCells_get hF hr6] at hu
  obtain ⟨⟨k0, k1, k2, k3, k4, k5⟩, _⟩ := h q hq
  have hk : W.cell? ((⟨b, off, none⟩ : Addr).add (q * 6 + r)) = some u := by
    match r, hr6, hu with
    | 0, _, hu => rw [← hu]; exact k0
    | 1, _, hu => rw [← hu]; exact k1
    | 2, _, hu => rw [← hu]; exact k2
    | 3, _, hu => rw [← hu]; exact k3
    | 4, _, hu => rw [← hu]; exact k4
    | 5, _, hu => rw [← hu]; exact k5
  rwa [Addr.add_lit] at hk
set_option maxRecDepth 100000 in
theorem open_passes {H : Type} {enc : TypeId × Value → H} {W : World} {spare : Nat → Bool} {held : Bool} {base : Nat} {a : Option Addr} {len cap : Nat} {d : DataW H} {p : List MemPlace}
    (h : DataW.Trod enc Try.prog W base spare held 22 (.slice a len cap) d p) :
    ∃ ps : List GPass, len = ps.length ∧ RdP W 0 W.heap.size a ps ∧ ps.length ≤ 9223372036854775807 := by
  obtain ⟨fuel, hf⟩ := h
  rcases open_slice_fields Try.underlying22 Try.underlying48 (by kernel_rfl) (by kernel_rfl) hf with ⟨hcs, _⟩ | ⟨x, l, c, m, D, Pl, hcs, _, hl, hm, hmm, _, hi⟩
  · simp [Value.cells] at hcs
    obtain ⟨rfl, rfl, rfl⟩ := hcs
    exact ⟨[], rfl, Rd.nil_, by simp⟩
  · simp [Value.cells] at hcs
    obtain ⟨rfl, rfl, rfl⟩ := hcs
    have hle : len ≤ m := by rw [hmm]; split <;> omega
    have hex : ∀ i, ∃ g : GPass, i < len → passAt W x i g := by
      intro i
      by_cases hil : i < len
      · obtain ⟨ys, n, _, _, _, hfld⟩ := hi i (by omega)
        obtain ⟨v0, y0, hc0, _, ht0⟩ := hfld 0 _ rfl
        obtain ⟨x0, e0, _, f0⟩ := DataW.trod_int Try.underlying3 ht0
        simp at e0
        subst e0
        obtain ⟨v1, y1, hc1, _, ht1⟩ := hfld 1 _ rfl
        obtain ⟨x1, e1, _, f1⟩ := DataW.trod_int Try.underlying3 ht1
        simp at e1
        subst e1
        obtain ⟨v2, y2, hc2, _, ht2⟩ := hfld 2 _ rfl
        obtain ⟨x2, e2, _, f2⟩ := DataW.trod_int Try.underlying3 ht2
        simp at e2
        subst e2
        obtain ⟨v3, y3, hc3, _, ht3⟩ := hfld 3 _ rfl
        obtain ⟨x3, e3, _, f3⟩ := DataW.trod_int Try.underlying3 ht3
        simp at e3
        subst e3
        obtain ⟨v4, y4, hc4, _, ht4⟩ := hfld 4 _ rfl
        obtain ⟨x4, e4, _, f4⟩ := DataW.trod_int Try.underlying3 ht4
        simp at e4
        subst e4
        obtain ⟨v5, y5, hc5, _, ht5⟩ := hfld 5 _ rfl
        obtain ⟨x5, e5, _, f5⟩ := DataW.trod_int Try.underlying3 ht5
        simp at e5
        subst e5
        exact ⟨⟨x0, x1, x2, x3, x4, x5⟩, fun _ => ⟨⟨hc0, hc1, hc2, hc3, hc4, hc5⟩, f0, f1, f2, f3, f4, f5⟩⟩
      · exact ⟨⟨0, 0, 0, 0, 0, 0⟩, fun h => absurd h hil⟩
    obtain ⟨F, hF⟩ := Classical.axiomOfChoice hex
    refine ⟨(List.range len).map F, by simp, rdP_of hF, ?_⟩
    simp
    unfold maxLen at hm
    omega

end Go.Proofs.Ytnljjocoloijfaa
