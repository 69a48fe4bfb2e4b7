/-
  This file proves laws on memory for an insertion into a row of passes of the call's own: cells that are copied, a row that is lengthened within its room, a row made anew.
  Conditions: each law's own hypotheses.
-/
import Derived.Test.YtaehfcdcdjlanaaPassD
import Derived.Laws.IdiomCopy
import Derived.Laws.Externs
import Derived.Lib.Overlaps
import Derived.Lib.AppendZerosOnto
import Derived.Lib.AppendZeros
import Derived.Deep.RegionLaw
namespace Go.Proofs.Ytaehfcdcdjlanaa
open Go.RowKit
set_option linter.unusedSimpArgs false
set_option linter.unusedVariables false

/-- 'copy(d, s)' at elements of any number of cells: m elements go over. -/
theorem run_copyN {P : Program} (w : World) (dT sT ty elem : TypeId) (size m b o dLen dCap : Nat) (a : Addr) (sLen sCap : Nat) (cs : List Value)
    (hu : P.underlying dT = some (.slice elem)) (hs : (P.info? elem).map (·.size) = some size) (hm : m = Nat.min sLen dLen) (hn : cs.length = m * size)
    (hsrc : ∀ j v, cs[j]? = some v → w.cell? (a.add j) = some v) (hc : ∀ j, j < cs.length → (w.cell? ⟨b, o + j, none⟩).isSome = true) (hf : ∀ j, j < cs.length → w.frozen? ⟨b, o + j, none⟩ = false) (h1 : ∀ v ∈ cs, v.oneCell' = true) :
    (Builtin.copy_ #[dT, sT] ty #[.slice (some ⟨b, o, none⟩) dLen dCap, .slice (some a) sLen sCap]).run P w = .ok (goInt m) (w.setCells b o cs) := by
  have hl := run_loadCells_list (P := P) w a cs hsrc
  have hst := run_storeCells_cells (P := P) b o cs 0 w (by simpa using hc) (by simpa using hf) h1
  cases hq : P.info? elem with
  | none => simp [hq] at hs
  | some i =>
    have hi : i.size = size := by simpa [hq] using hs
    simp [Builtin.copy_, run_underlying hu, Builtin.lenOf, Builtin.firstCells, sizeOf, typeInfo, hq, hi, ← hm, ← hn, hl, hst]
theorem wp_copyN {P : Program} (w : World) {o : Oper} {a : Act} {K : Act → World → Prop} {Q : Exit → Act → World → Prop} (d s : Operand) (t t' : TypeId)
    (ho : o.op = .call { callee := .builtin .copy, args := #[d, s], argTypes := #[t, t'] }) (v u : Value) (hd : a.eval d = v) (hs : a.eval s = u) {v' : Value} {w' : World}
    (hr : (Builtin.copy_ #[t, t'] o.type #[v, u]).run P w = .ok v' w') (h : K (a.put o.dst v') w') : o.wp P a w K Q := by
  unfold Oper.wp execOp
  simp only [ho, resolve, invoke, builtin, Sem.run_bind, Sem.run_pure, Result.andThen_ok, List.map_toArray, List.map_cons, List.map_nil, hd, hs, hr]
  exact h
theorem wpList_copyN {P : Program} (w : World) {ops : Array Oper} {rest : List Oper} {o : Oper} {a : Act} {Q : Exit → Act → World → Prop} (hgd : o.guard = none) (d s : Operand) (t t' : TypeId)
    (ho : o.op = .call { callee := .builtin .copy, args := #[d, s], argTypes := #[t, t'] }) (v u : Value) (hd : a.eval d = v) (hs : a.eval s = u) {v' : Value} {w' : World}
    (hr : (Builtin.copy_ #[t, t'] o.type #[v, u]).run P w = .ok v' w') (h : wpList P ops Q rest (a.put o.dst v') w') : wpList P ops Q (o :: rest) a w :=
  wpList_plain hgd fun _ hK => wp_copyN w d s t t' ho v u hd hs hr (hK _ _ h)
theorem step_copyN {P : Program} {ops : Array Oper} {o : Oper} {a : Act} {w : World} {K : Act → World → Prop} {Q : Exit → Act → World → Prop} {E : Prop}
    (hg : o.guard = none) (d x : Operand) (dT sT : TypeId) (hop : o.op = Op.call { callee := Callee.builtin Builtin.copy, args := #[d, x], argTypes := #[dT, sT] })
    (v u : Value) (hd : a.eval d = v) (hx : a.eval x = u) {v' : Value} {w' : World} (hr : (Builtin.copy_ #[dT, sT] o.type #[v, u]).run P w = .ok v' w') (hK : K (a.put o.dst v') w') :
    if Region.wanted o (yielded ops a.tmps) = true then Oper.wp P o a w K Q else E := by
  have hw : Region.wanted o (yielded ops a.tmps) = true := by simp [Region.wanted, hg]
  rw [if_pos hw]
  exact wp_copyN w d x dT sT hop v u hd hx hr hK

/-- Cells from o on are written over. -/
def over (xs : List Value) (o : Nat) (vs : List Value) : List Value := xs.take o ++ vs ++ xs.drop (o + vs.length)
theorem over_nil (xs : List Value) (o : Nat) : over xs o [] = xs := by simp [over]
theorem over_cons (xs : List Value) (o : Nat) (v : Value) (r : List Value) (h : o < xs.length) : over (xs.set o v) (o + 1) r = over xs o (v :: r) := by
  unfold over
  have e1 : (xs.set o v).take (o + 1) = xs.take o ++ [v] := by
    rw [List.take_add_one, List.getElem?_set_self h, List.take_set_of_le (Nat.le_refl _)]
    rfl
  have e2 : (xs.set o v).drop (o + 1 + r.length) = xs.drop (o + (v :: r).length) := by
    rw [List.drop_set_of_lt (by omega), List.length_cons]
    congr 1
    omega
  rw [e1, e2]
  simp
theorem over_mid (X M D vs : List Value) (a : Nat) (ha : X.length = a) (h : vs.length = M.length) : over (X ++ M ++ D) a vs = X ++ vs ++ D := by
  subst ha
  unfold over
  rw [h, List.append_assoc X M D, List.take_left, ← List.append_assoc X M D, ← List.length_append, List.drop_left]
theorem over_length (xs : List Value) (o : Nat) (vs : List Value) (h : o + vs.length ≤ xs.length) : (over xs o vs).length = xs.length := by
  unfold over
  simp
  omega
section
variable {w : World} {e : TypeId} {lo hi size n c g : Nat}
theorem Own.stores : ∀ (vs : List Value) (o : Nat) (xs : List Value) (w : World), Own w e lo hi size (some ⟨g, 0, none⟩) n c xs → o + vs.length ≤ xs.length → Own (w.setCells g o vs) e lo hi size (some ⟨g, 0, none⟩) n c (over xs o vs)
  | [], o, xs, w, h, _ => by rw [over_nil]; exact h
  | v :: r, o, xs, w, h, hl => by
    rw [List.length_cons] at hl
    have := Own.stores r (o + 1) (xs.set o v) (w.setCell ⟨g, o, none⟩ v) (h.store o v) (by rw [List.length_set]; omega)
    rw [over_cons xs o v r (by omega)] at this
    exact this
theorem belowSetCells {B b : Nat} {a : World} (hb : B ≤ b) : ∀ (vs : List Value) (o : Nat) (w : World), Below B a w → Below B a (w.setCells b o vs)
  | [], _, _, h => h
  | v :: r, o, w, h => belowSetCells hb r (o + 1) _ (h.setCell (p := ⟨b, o, none⟩) hb v)
theorem Own.cellThere {xs : List Value} (h : Own w e lo hi size (some ⟨g, 0, none⟩) n c xs) {k : Nat} (hk : k < n * size) : (w.cell? ⟨g, k, none⟩).isSome = true := by
  rw [h.1.cellAt k hk, List.getElem?_eq_getElem (by rw [h.length]; exact hk)]
  rfl
/-- A row read as a longer one, within its room. -/
theorem Own.wider {xs : List Value} (h : Own w e lo hi size (some ⟨g, 0, none⟩) n c xs) {m : Nat} (hm : n ≤ m) (hc : m ≤ c) : ∃ R : List Value, R.length = (m - n) * size ∧ Own w e lo hi size (some ⟨g, 0, none⟩) m c (xs ++ R) := by
  rcases h.1.2 with ⟨hv, _⟩ | ⟨g', cap, cur, hv, hb, hh, h1, h2, h3, h4⟩
  · cases hv
  · injection hv with e1 e2 e3
    injection e1 with e1
    injection e1 with e1
    subst e1
    subst e3
    have hcl : cur.toList.length = c * size := by simpa using h3
    have hle : m * size ≤ c * size := Nat.mul_le_mul_right _ hc
    have hle2 : n * size ≤ m * size := Nat.mul_le_mul_right _ hm
    have hsub : (m - n) * size = m * size - n * size := Nat.sub_mul _ _ _
    have hsp : cur.toList.take (m * size) = xs ++ (cur.toList.drop (n * size)).take ((m - n) * size) := by
      rw [← h4, hsub, ← List.take_add]
      congr 1
      omega
    refine ⟨(cur.toList.drop (n * size)).take ((m - n) * size), by rw [List.length_take, List.length_drop, hcl]; omega, ⟨?_, .inr ⟨g, c, cur, rfl, hb, hh, hc, h2, h3, hsp⟩⟩, h.2⟩
    rw [← hsp, List.length_take, hcl]
    omega
/-- The cap of a row lies within a machine's lengths. -/
theorem Own.capmax {A : Option Addr} {xs : List Value} (h : Own w e lo hi size A n c xs) : c ≤ maxLen := by
  rcases h.1.2 with ⟨hv, _⟩ | ⟨g', cap, cur, hv, _, _, _, h2, _⟩
  · injection hv with e1 e2 e3
    unfold maxLen
    omega
  · injection hv with e1 e2 e3
    omega
/-- The block of a row. -/
theorem Own.shape {xs : List Value} (h : Own w e lo hi size (some ⟨g, 0, none⟩) n c xs) : w.shape? g = some (e, c * size) := by
  rcases h.1.2 with ⟨hv, _⟩ | ⟨g', cap, cur, hv, hb, hh, h1, h2, h3, h4⟩
  · cases hv
  · injection hv with e1 e2 e3
    injection e1 with e1
    injection e1 with e1
    subst e1
    subst e3
    rw [← h3]
    unfold World.shape?
    rw [hh]
end
/-- A pass is put at place j. -/
def putP (ps : List GPass) (j : Nat) (q : GPass) : List GPass := (ps.take j ++ [q]) ++ ps.drop j
theorem putP_length (ps : List GPass) {j : Nat} (h : j ≤ ps.length) (q : GPass) : (putP ps j q).length = ps.length + 1 := by simp [putP]; omega
theorem passCells_app (ps qs : List GPass) : passCells (ps ++ qs) = passCells ps ++ passCells qs := by simp [passCells]
theorem putP_cells (ps : List GPass) (j : Nat) (q : GPass) : passCells (putP ps j q) = passCells (ps.take j) ++ q.cells ++ passCells (ps.drop j) := by
  unfold putP
  rw [passCells_app, passCells_app]
  simp [passCells]
theorem passCells_split (ps : List GPass) (j : Nat) : passCells ps = passCells (ps.take j) ++ passCells (ps.drop j) := by rw [← passCells_app, List.take_append_drop]
theorem one_pass (q : GPass) : ∀ u ∈ q.cells, u.oneCell' = true := by
  intro u hu
  simp only [GPass.cells, List.mem_cons, List.not_mem_nil, or_false] at hu
  rcases hu with rfl | rfl | rfl | rfl | rfl | rfl <;> rfl
theorem one_passes (ps : List GPass) : ∀ u ∈ passCells ps, u.oneCell' = true := by
  intro u hu
  unfold passCells at hu
  rw [List.mem_flatMap] at hu
  obtain ⟨q, _, hq⟩ := hu
  exact one_pass q u hq
/-- In place: first the tail is moved, then the new pass is written. -/
theorem over_in (ps : List GPass) (R : List Value) {j n : Nat} (q : GPass) (hn : ps.length = n) (hj : j ≤ n) (hR : R.length = 6) :
    over (over (passCells ps ++ R) ((j + 1) * 6) (passCells (ps.drop j))) (j * 6) q.cells = passCells (putP ps j q) := by
  have ht : (passCells (ps.take j)).length = j * 6 := by rw [passCells_length, List.length_take]; congr 1; omega
  have hd : (passCells (ps.drop j)).length = (n - j) * 6 := by rw [passCells_length, List.length_drop, hn]
  obtain ⟨F, L, hFL, hF⟩ : ∃ F L : List Value, passCells (ps.drop j) ++ R = F ++ L ∧ F.length = 6 := ⟨_, _, (List.take_append_drop 6 _).symm, by rw [List.length_take, List.length_append]; omega⟩
  have hL : L.length = (n - j) * 6 := by
    have := congrArg List.length hFL
    rw [List.length_append, List.length_append] at this
    omega
  rw [passCells_split ps j, List.append_assoc, hFL, ← List.append_assoc]
  have e1 := over_mid (passCells (ps.take j) ++ F) L [] (passCells (ps.drop j)) ((j + 1) * 6) (by rw [List.length_append]; omega) (by omega)
  rw [List.append_nil, List.append_nil] at e1
  rw [e1, over_mid _ F _ q.cells (j * 6) ht (by rw [hF]; rfl), putP_cells]
/-- In a new row: first the new pass is written, then the tail. -/
theorem over_new (ps : List GPass) (Z : List Value) {j n : Nat} (q : GPass) (hn : ps.length = n) (hj : j ≤ n) (hZ : Z.length = (n + 1 - j) * 6) :
    over (over (passCells (ps.take j) ++ Z) (j * 6) q.cells) ((j + 1) * 6) (passCells (ps.drop j)) = passCells (putP ps j q) := by
  have ht : (passCells (ps.take j)).length = j * 6 := by rw [passCells_length, List.length_take]; congr 1; omega
  have hd : (passCells (ps.drop j)).length = (n - j) * 6 := by rw [passCells_length, List.length_drop, hn]
  obtain ⟨F, L, hFL, hF⟩ : ∃ F L : List Value, Z = F ++ L ∧ F.length = 6 := ⟨_, _, (List.take_append_drop 6 _).symm, by rw [List.length_take]; omega⟩
  have hL : L.length = (n - j) * 6 := by
    have := congrArg List.length hFL
    rw [List.length_append] at this
    omega
  rw [hFL, ← List.append_assoc, over_mid _ F _ q.cells (j * 6) ht (by rw [hF]; rfl)]
  have e1 := over_mid (passCells (ps.take j) ++ q.cells) L [] (passCells (ps.drop j)) ((j + 1) * 6) (by rw [List.length_append, ht]; show j * 6 + 6 = _; omega) (by omega)
  rw [List.append_nil, List.append_nil] at e1
  rw [e1, putP_cells]

end Go.Proofs.Ytaehfcdcdjlanaa
