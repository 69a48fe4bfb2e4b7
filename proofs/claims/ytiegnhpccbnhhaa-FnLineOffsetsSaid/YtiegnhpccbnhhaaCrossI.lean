/-
  This file proves contracts of the functions that gather a line's crossings and add up their differences, of the program and of the reference.
  Conditions: each contract's own hypotheses (that a slice reads as a list of crossings, that it is not too long).
-/
import Derived.Test.YtiegnhpccbnhhaaCrossF
import Derived.Test.YtiegnhpccbnhhaaRed
namespace Go.Proofs.Ytiegnhpccbnhhaa
open Go.RowKit
set_option linter.unusedSimpArgs false
set_option linter.unusedVariables false

/-- The sum of the differences. -/
def sumD : List GCrossing → Int
  | [] => 0
  | p :: ps => (p.ck - p.mn) + sumD ps
theorem sumD_snoc (ps : List GCrossing) (p : GCrossing) : sumD (ps ++ [p]) = sumD ps + (p.ck - p.mn) := by
  induction ps with
  | nil => simp [sumD]
  | cons q ps ih => rw [List.cons_append, sumD, sumD, ih]; omega
def allCx (ps : List GCrossing) : Prop := ∀ (k : Nat) (p : GCrossing), ps[k]? = some p → isCx p = true
theorem allCx_tail {q : GCrossing} {ps : List GCrossing} (h : allCx (q :: ps)) : allCx ps := fun k p hp => h (k + 1) p (by simpa using hp)
theorem allCx_take {ps : List GCrossing} {k : Nat} (h : allCx ps) : allCx (ps.take k) := fun j p hp => by
  rw [List.getElem?_take] at hp
  split at hp
  · exact h j p hp
  · cases hp
theorem sumD_bound : ∀ {ps : List GCrossing}, allCx ps → -(21000 * (ps.length : Int)) ≤ sumD ps ∧ sumD ps ≤ 21000 * (ps.length : Int)
  | [], _ => by simp [sumD]
  | q :: ps, h => by
    have h1 := sumD_bound (allCx_tail h)
    have h2 := isCx_bound (h 0 q rfl)
    rw [sumD, List.length_cons]
    push_cast
    omega
/-- The crossings of a line. -/
def ownL (ps : List GCrossing) (l : Int) : List GCrossing := ps.filter fun p => decide (p.ln = l)
theorem ownL_yes {ps : List GCrossing} {l : Int} {k : Nat} {p : GCrossing} (hp : ps[k]? = some p) (h : p.ln = l) : ownL (ps.take (k + 1)) l = ownL (ps.take k) l ++ [p] := by
  rw [List.take_add_one, hp]
  simp [ownL, h]
theorem ownL_no {ps : List GCrossing} {l : Int} {k : Nat} {p : GCrossing} (hp : ps[k]? = some p) (h : ¬ p.ln = l) : ownL (ps.take (k + 1)) l = ownL (ps.take k) l := by
  rw [List.take_add_one, hp]
  simp [ownL, h]
theorem ownL_le (ps : List GCrossing) (l : Int) : (ownL ps l).length ≤ ps.length := List.length_filter_le _ _
theorem ownL_take_le {ps : List GCrossing} {l : Int} {k : Nat} : (ownL (ps.take k) l).length ≤ k := Nat.le_trans (ownL_le _ _) (List.length_take_le _ _)
theorem allCx_own {ps : List GCrossing} {l : Int} (h : allCx ps) : allCx (ownL ps l) := fun k p hp => by
  have hm : p ∈ ps := (List.mem_filter.1 (List.mem_of_getElem? hp)).1
  obtain ⟨j, hj⟩ := List.getElem?_of_mem hm
  exact h j p hj
theorem allCx_of {ps : List GCrossing} (h : isCL ps = true) : allCx ps := fun k p hp => isCL_get h hp
theorem one_cells (p : GCrossing) : ∀ u ∈ ([.int .i64 p.ln, .int .i64 p.cr, .int .i64 p.mn, .int .i64 p.ck] : List Value), u.oneCell' = true := by
  intro u hu
  simp at hu
  rcases hu with rfl | rfl | rfl | rfl <;> rfl
theorem push_relC {w : World} {base : Nat} {e : TypeId} {v : Value} {F F' : List GCrossing} {p : GCrossing} (he : F' = F ++ [p]) (h : w.ownsRow base e 4 v (F.length + 1) (cellsCrossing F ++ [.int .i64 p.ln, .int .i64 p.cr, .int .i64 p.mn, .int .i64 p.ck])) : w.ownsRow base e 4 v F'.length (cellsCrossing F') := by
  subst he
  have e1 : (F ++ [p]).length = F.length + 1 := by simp
  have e2 : cellsCrossing (F ++ [p]) = cellsCrossing F ++ [.int .i64 p.ln, .int .i64 p.cr, .int .i64 p.mn, .int .i64 p.ck] := by simp [cellsCrossing, GCrossing.cells]
  rw [e1, e2]
  exact h
theorem retCrossingS_of {ps : List GCrossing} {w w' : World} {v : Value} (h : w'.ownsRow w.heap.size 59 4 v ps.length (cellsCrossing ps)) (hb : Below w.heap.size w w') : RetCrossingS ps w (.returned v) w' := by
  obtain ⟨A, c, rfl, ho⟩ := Own.of_row h
  exact ⟨A, c, rfl, ho, hb⟩
theorem retCrossingSB_of {ps : List GCrossing} {b : Bool} {w w' : World} {v : Value} (h : w'.ownsRow w.heap.size 59 4 v ps.length (cellsCrossing ps)) (hb : Below w.heap.size w w') : RetCrossingSB ps b w (.returned (.tuple #[v, .bool b])) w' := by
  obtain ⟨A, c, rfl, ho⟩ := Own.of_row h
  exact ⟨A, c, rfl, ho, hb⟩
theorem retCrossingSB_nil (b : Bool) (w w' : World) (hb : Below w.heap.size w w') : RetCrossingSB [] b w (.returned (.tuple #[.slice none 0 0, .bool b])) w' :=
  ⟨none, 0, rfl, ⟨World.ownsRow_nil _ _ _ _, fun a ha => by cases ha⟩, hb⟩
/-- 'out = append(out, x)', the new block's number spelled otherwise. -/
theorem wpList_push_at {P : Program} (wr : World) {ops : Array Oper} {rest : List Oper} {o : Oper} {a : Act} {Q : Exit → Act → World → Prop} (hgd : o.guard = none) (s x : Operand) (t : TypeId)
    (ho : o.op = .call { callee := .builtin .append, args := #[s, x], argTypes := #[t, t] })
    (base : Nat) (e : TypeId) (i : TypeInfo) (z : Value) (size bytes : Nat) (ht : P.underlying t = some (.slice e)) (hi : P.info? e = some i) (hz : i.zero = some z)
    (hsize : i.size = size) (hby : i.bytes = bytes) (hzs : z.cells.size = size) (hsz : 0 < size)
    (v : Value) (n : Nat) (xs : List Value) (hs : a.eval s = v) (hown : wr.ownsRow base e size v n xs)
    (cs : List Value) (hcs : cs.length = size) (h1 : ∀ u ∈ cs, u.oneCell' = true) (g : Nat) (hx : a.eval x = .slice (some ⟨g, 0, none⟩) 1 1) (hg : g = wr.heap.size)
    (hn : n ≤ 1099511627776) (hb : bytes ≤ 64) (hbase : base ≤ wr.heap.size)
    (h : ∀ v' w', w'.ownsRow base e size v' (n + 1) (xs ++ cs) → (∀ w0, Below base w0 wr → Below base w0 w') → wr.heap.size ≤ w'.heap.size →
      (v'.ownBlock = v.ownBlock ∨ ∃ g, v'.ownBlock = some g ∧ wr.heap.size ≤ g) → (∀ b, b < wr.heap.size → v.ownBlock ≠ some b → w'.heap[b]? = wr.heap[b]?) →
      wpList P ops Q rest (a.put o.dst v') w') :
    wpList P ops Q (o :: rest) a (wr.alloc (.cells cs.toArray e)) := by
  subst hg
  exact wpList_push wr hgd s x t ho base e i z size bytes ht hi hz hsize hby hzs hsz v n xs hs hown cs hcs h1 hx hn hb hbase h

set_option maxHeartbeats 2000000 in
set_option maxRecDepth 100000 in
theorem ofLine_any {A : Option Addr} {c lo hi : Nat} {ps : List GCrossing} {l : Int} {w : World} (hr : RdC w lo hi A ps) (hl : ps.length ≤ 2097152) (hh : hi ≤ w.heap.size) :
    Calls Try.prog 65 #[.slice A ps.length c, .int .i64 l] w (RetCrossingS (ownL ps l) w) := by
  obtain ⟨i0, hi0, hz0, hz1, hz2⟩ := info_parts info_Crossing
  go_enter Try.func65, Try.ntmps65
  go_wp2_with fail
  go_loopw [5, 11] (fun v i wr => ∃ k : Nat, k ≤ ps.length ∧ i = .int .i64 k ∧ wr.ownsRow w.heap.size 59 4 v (ownL (ps.take k) l).length (cellsCrossing (ownL (ps.take k) l)) ∧ Below w.heap.size w wr) (fun _ i _ => ps.length - (intOf i).toNat)
  case atStart => exact ⟨0, Nat.zero_le _, rfl, by simpa [ownL, cellsCrossing] using row_empty _ _ _, below_alloc1 _ _⟩
  case round =>
    obtain ⟨k, hk, rfl, hown, hb⟩ := hrel
    have hgl := ownL_take_le (ps := ps) (l := l) (k := k)
    by_cases hlt : k < ps.length
    rotate_left
    · have HTA := Lib.hid (show ps.take k = ps from List.take_of_length_le (by omega))
      go_wp2_with fail
      go_ret
      rw [HTA.out] at hown
      exact retCrossingS_of hown hb
    obtain ⟨b, off, p, rfl, hblo, hbhi, hp, c0, c1, c2, c3⟩ := (hr.below hb hh).getCrossing hlt
    have HP := Lib.hid hp
    have q1 : (k : Int) < (ps.length : Int) := by omega
    clear hp
    obtain ⟨A5, c5, rfl, O5⟩ := Own.of_row hown
    clear hown
    have hbx : Below w.heap.size w (wr.alloc (.cells #[.int .i64 p.ln, .int .i64 p.cr, .int .i64 p.mn, .int .i64 p.ck] 59)) := hb.trans ((below_alloc1 _ _).mono hb.size)
    have O6 := O5.below (below_alloc1 wr (.cells #[.int .i64 p.ln, .int .i64 p.cr, .int .i64 p.mn, .int .i64 p.ck] 59)) (Nat.le_refl _)
    have D := Crossing_cells p wr 59
    clear O5
    by_cases hln : p.ln = l
    · have HG := Lib.hid (ownL_yes HP.out hln)
      have s1 : (p.ln == l) = true := by simpa using hln
      clear hln
      generalize ownL (ps.take k) l = F at hgl HG O6 ⊢
      go_wp2_with (at_builtin; refine wpList_push_at _ rfl _ _ 26 rfl w.heap.size 59 i0 (.agg #[.int .i64 0, .int .i64 0, .int .i64 0, .int .i64 0]) 4 32 Try.underlying26 hi0 hz0 hz1 hz2 rfl (by decide) _ _ _ rfl O6.1 [.int .i64 p.ln, .int .i64 p.cr, .int .i64 p.mn, .int .i64 p.ck] rfl (one_cells p) _ rfl (by simp) (by omega) (by decide) hbx.size ?_; intro v7 w7 hown7 hb7 hs7 _ _)
      have hown8 := push_relC HG.out hown7
      have hb8 := hb7 _ hbx
      go_wp2_with fail
      go_roundw
      case rel => exact ⟨k + 1, by omega, by go_num, hown8, hb8⟩
      case measure => simp [intOf]; omega
    · have HG := Lib.hid (ownL_no HP.out hln)
      have s1 : (p.ln == l) = false := by simpa using hln
      clear hln
      go_wp2_with fail
      go_roundw
      case rel => exact ⟨k + 1, by omega, by go_num, by rw [HG.out]; exact O6.1, hbx⟩
      case measure => simp [intOf]; omega

end Go.Proofs.Ytiegnhpccbnhhaa
