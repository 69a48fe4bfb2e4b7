/-
  This file proves the law of 'append(s, l...)' at a step of a region that draws its order.
  Conditions: that s is a row of the call's own, that l reads as a list.
-/
import Derived.Test.YtiaabojkimboiaaBase
import Derived.Deep.AppendLies
namespace Go.Proofs.Ytiaabojkimboiaa
open Go.RowKit
set_option linter.unusedSimpArgs false
set_option linter.unusedVariables false
variable {P : Program}

theorem run_cat (w : World) (t ty : TypeId) (base : Nat) (e : TypeId) (i : TypeInfo) (z : Value) (size bytes : Nat) (ht : P.underlying t = some (.slice e)) (hi : P.info? e = some i) (hz : i.zero = some z)
    (hsize : i.size = size) (hby : i.bytes = bytes) (hzs : z.cells.size = size) (hsz : 0 < size)
    (v : Value) (n : Nat) (xs : List Value) (hown : w.ownsRow base e size v n xs)
    (lo hi' : Nat) (A : Option Addr) (m c : Nat) (news : List Value) (hr : Rd w lo hi' size A m news) (h1 : ∀ u ∈ news, u.oneCell' = true)
    (hn : n + m ≤ 1099511627776) (hb : bytes ≤ 64) (hbase : base ≤ w.heap.size) :
    ∃ v' w', (Builtin.append_ #[t, t] ty #[v, .slice A m c]).run P w = .ok v' w' ∧ w'.ownsRow base e size v' (n + m) (xs ++ news) ∧ w.grownBy w' v.ownBlock ∧ (v'.ownBlock = v.ownBlock ∨ v'.ownBlock = some w.heap.size) := by
  have hnil : m = 0 → news = [] := fun h0 => List.eq_nil_of_length_eq_zero (by rw [hr.1, h0, Nat.zero_mul])
  rcases A with _ | ad
  · have hm : m = 0 := by
      rcases Nat.eq_zero_or_pos m with h0 | h0
      · exact h0
      · obtain ⟨b, off, e0, _⟩ := hr.2 h0
        cases e0
    have hn0 := hnil hm
    subst hm
    subst hn0
    exact ⟨v, w, run_append_of_nil (P := P) w base t ty e i size ht hi v n xs hown c, by simpa using hown, World.grownBy.refl _ _, .inl rfl⟩
  · obtain ⟨v', w', hr', h2, h3, _, h5⟩ := run_append_own_at (P := P) w base t ty e i z size bytes ht hi hz hsize hby hzs hsz v n xs hown ad m c news hr.1 (by
      intro j u hu
      rcases Nat.eq_zero_or_pos m with h0 | h0
      · rw [hnil h0] at hu
        simp at hu
      · obtain ⟨b, off, e0, _, _, hc⟩ := hr.2 h0
        injection e0 with e0
        subst e0
        rw [Addr.add_lit]
        exact hc j u hu) h1 (by unfold maxLen; omega) (Nat.le_trans (Nat.mul_le_mul_left (n + m) hb) (by omega)) hbase
    exact ⟨v', w', hr', h2, h3, h5⟩

/-- At a step of a region that draws its order: 'append(s, l...)'. -/
theorem step_cat (w : World) {ops : Array Oper} {o : Oper} {a : Act} {K : Act → World → Prop} {Q : Exit → Act → World → Prop} {E : Prop} (hgd : o.guard = none) (s x : Operand) (t : TypeId)
    (ho : o.op = .call { callee := .builtin .append, args := #[s, x], argTypes := #[t, t] })
    (base : Nat) (e : TypeId) (i : TypeInfo) (z : Value) (size bytes : Nat) (ht : P.underlying t = some (.slice e)) (hi : P.info? e = some i) (hz : i.zero = some z)
    (hsize : i.size = size) (hby : i.bytes = bytes) (hzs : z.cells.size = size) (hsz : 0 < size)
    (B : Option Addr) (n c0 : Nat) (xs : List Value) (hs : a.eval s = .slice B n c0) (hi0 : Nat) (hown : Own w e base hi0 size B n c0 xs)
    (lo hi' : Nat) (A : Option Addr) (m c : Nat) (news : List Value) (hx : a.eval x = .slice A m c) (hr : Rd w lo hi' size A m news) (h1 : ∀ u ∈ news, u.oneCell' = true)
    (hn : n + m ≤ 1099511627776) (hb : bytes ≤ 64) (hbase : base ≤ w.heap.size)
    (h : ∀ B' c' w', Own w' e base w'.heap.size size B' (n + m) c' (xs ++ news) → (∀ w0, Below base w0 w → Below base w0 w') → w.heap.size ≤ w'.heap.size →
      (∀ b, b < w.heap.size → B.map Addr.block ≠ some b → w'.heap[b]? = w.heap[b]?) → K (a.put o.dst (.slice B' (n + m) c')) w') :
    if Region.wanted o (yielded ops a.tmps) = true then Oper.wp P o a w K Q else E := by
  have hw : Region.wanted o (yielded ops a.tmps) = true := by simp [Region.wanted, hgd]
  rw [if_pos hw]
  obtain ⟨v', w', hr', h2, h3, h5⟩ := run_cat (P := P) w t o.type base e i z size bytes ht hi hz hsize hby hzs hsz _ n xs hown.1 lo hi' A m c news hr h1 hn hb hbase
  obtain ⟨B', c', rfl, ho'⟩ := Own.of_row h2
  have hlt := hown.1.lt
  unfold Oper.wp execOp
  simp only [ho, resolve, invoke, builtin, Sem.run_bind, Sem.run_pure, Result.andThen_ok, List.map_toArray, List.map_cons, List.map_nil, hs, hx, hr']
  refine h B' c' w' ho' (fun w0 hw0 => hw0.grown h3 hbase (fun k hk => (hlt k hk).1)) h3.size ?_
  intro b hb1 hb2
  refine h3.block b hb1 fun e0 => hb2 ?_
  rcases B with _ | ad
  · simp [Value.ownBlock] at e0
  · simpa [Value.ownBlock] using e0.symm

end Go.Proofs.Ytiaabojkimboiaa
