/-
  This file proves the law of 'append(s, l...)' at a step of a region that draws its order, telling where the new slice lies.
  Conditions: that s is a row of the call's own, that l reads as a list.
-/
import Derived.Test.YtaehfcdcdjlanaaCat
namespace Go.Proofs.Ytaehfcdcdjlanaa
open Go.RowKit
set_option linter.unusedSimpArgs false
set_option linter.unusedVariables false

/-- At a step of a region that draws its order: 'append(s, l...)', telling where the new slice lies. -/
theorem step_cat_at {P : Program} (w : World) {ops : Array Oper} {o : Oper} {a : Act} {K : Act → World → Prop} {Q : Exit → Act → World → Prop} {E : Prop} (hgd : o.guard = none) (s x : Operand) (t : TypeId)
    (ho : o.op = .call { callee := .builtin .append, args := #[s, x], argTypes := #[t, t] })
    (base : Nat) (e : TypeId) (i : TypeInfo) (z : Value) (size bytes : Nat) (ht : P.underlying t = some (.slice e)) (hi : P.info? e = some i) (hz : i.zero = some z)
    (hsize : i.size = size) (hby : i.bytes = bytes) (hzs : z.cells.size = size) (hsz : 0 < size)
    (B : Option Addr) (n c0 : Nat) (xs : List Value) (hs : a.eval s = .slice B n c0) (hi0 : Nat) (hown : Own w e base hi0 size B n c0 xs)
    (lo hi' : Nat) (A : Option Addr) (m c : Nat) (news : List Value) (hx : a.eval x = .slice A m c) (hr : Rd w lo hi' size A m news) (h1 : ∀ u ∈ news, u.oneCell' = true)
    (hn : n + m ≤ 1099511627776) (hb : bytes ≤ 64) (hbase : base ≤ w.heap.size)
    (h : ∀ B' c' w', Own w' e base w'.heap.size size B' (n + m) c' (xs ++ news) → (∀ w0, Below base w0 w → Below base w0 w') → w.heap.size ≤ w'.heap.size →
      (∀ b, b < w.heap.size → (Value.slice B n c0).ownBlock ≠ some b → w'.heap[b]? = w.heap[b]?) →
      (∀ b, b < w.heap.size → (Value.slice B n c0).ownBlock ≠ some b → (Value.slice B' (n + m) c').ownBlock ≠ some b) → K (a.put o.dst (.slice B' (n + m) c')) w') :
    if Region.wanted o (yielded ops a.tmps) = true then Oper.wp P o a w K Q else E := by
  have hw : Region.wanted o (yielded ops a.tmps) = true := by simp [Region.wanted, hgd]
  rw [if_pos hw]
  obtain ⟨v', w', hr', h2, h3, h5⟩ := run_cat (P := P) w t o.type base e i z size bytes ht hi hz hsize hby hzs hsz _ n xs hown.1 lo hi' A m c news hr h1 hn hb hbase
  obtain ⟨B', c', rfl, ho'⟩ := Own.of_row h2
  have hlt := hown.1.lt
  unfold Oper.wp execOp
  simp only [ho, resolve, invoke, builtin, Sem.run_bind, Sem.run_pure, Result.andThen_ok, List.map_toArray, List.map_cons, List.map_nil, hs, hx, hr']
  refine h B' c' w' ho' (fun w0 hw0 => hw0.grown h3 hbase (fun k hk => (hlt k hk).1)) h3.size (fun b hb1 hb2 => h3.block b hb1 fun e0 => hb2 e0.symm) (fun b hb1 hb2 e0 => ?_)
  rcases h5 with h5 | h5
  · exact hb2 (h5.symm.trans e0)
  · rw [h5] at e0
    injection e0 with e0
    omega

end Go.Proofs.Ytaehfcdcdjlanaa
