/-
  This file proves plain lemmas on memory: what stays as it was when a call only makes new blocks or writes inside a range of blocks, and when a slice value reads as a list of cells.
  Conditions: none beyond each lemma's own hypotheses. No program is in sight.
-/
import Derived.Test.YtnljjocoloijfaaRows
import Derived.WalkKit
import Derived.ProofKit
import Derived.OpenShut
import Derived.Lib.Hide
import Derived.Deep.Draws
import Derived.Deep.QuietTactic
import Derived.BigQuiet
import Derived.Maps.AppendAt
namespace Go.Proofs.Ytnljjocoloijfaa
open Go.RowKit
set_option linter.unusedSimpArgs false
set_option linter.unusedVariables false

/-- A number that lies well within 64 bits is not wrapped. -/
theorem wr64 {n : Int} (h1 : -4611686018427387904 ≤ n) (h2 : n ≤ 4611686018427387904) : IntKind.i64.wrap n = n := IntWalk.i64_in _ ⟨by omega, by omega⟩

/-! ### What a call may have turned -/

/-- Outside of the blocks from lo to hi, and outside of what is new, nothing has turned. -/
structure Only (lo hi : Nat) (w w' : World) : Prop where
  os : w'.os = w.os
  tape : w'.tape = w.tape
  output : w'.output = w.output
  size : w.heap.size ≤ w'.heap.size
  block : ∀ k, k < w.heap.size → (k < lo ∨ hi ≤ k) → w'.heap[k]? = w.heap[k]?

theorem Only.below {lo hi : Nat} {w w' : World} (h : Only lo hi w w') (hl : lo ≤ w.heap.size) : Below lo w w' :=
  ⟨h.os, h.tape, h.output, h.size, fun k hk => h.block k (by omega) (.inl hk)⟩
theorem Only.refl (lo hi : Nat) (w : World) : Only lo hi w w := ⟨rfl, rfl, rfl, Nat.le_refl _, fun _ _ _ => rfl⟩
theorem Only.trans {lo hi : Nat} {a b c : World} (h : Only lo hi a b) (k : Only lo hi b c) : Only lo hi a c :=
  ⟨k.os.trans h.os, k.tape.trans h.tape, k.output.trans h.output, Nat.le_trans h.size k.size, fun i hi' ho => (k.block i (Nat.lt_of_lt_of_le hi' h.size) ho).trans (h.block i hi' ho)⟩
theorem Only.setCell {lo hi : Nat} {a w : World} (h : Only lo hi a w) {p : Addr} (h1 : lo ≤ p.block) (h2 : p.block < hi) (u : Value) : Only lo hi a (w.setCell p u) :=
  h.trans ⟨rfl, rfl, rfl, by simp [World.setCell], fun k _ ho => Below.heap_setCell _ _ _ _ (by omega)⟩
theorem Only.drewN {lo hi : Nat} {a w : World} (h : Only lo hi a w) (n : Nat) : Only lo hi a (w.drewN n) := ⟨h.os, h.tape, h.output, h.size, h.block⟩

theorem below_drewN {B : Nat} {a w : World} (h : Below B a w) (n : Nat) : Below B a (w.drewN n) := ⟨h.os, h.tape, h.output, h.size, h.block⟩
theorem below_of_quiet {w w' : World} {n B : Nat} (h : w.drewN n = w') : Below B w w' := by subst h; exact below_drewN (Below.refl _ _) n
theorem own_eq {w wx : World} {n : Nat} {base : Nat} {e : TypeId} {size : Nat} {v : Value} {m : Nat} {xs : List Value} (h : w.drewN n = wx) (ho : w.ownsRow base e size v m xs) : wx.ownsRow base e size v m xs := by subst h; exact ho
theorem below_drew {w wx a : World} {B : Nat} (h : w.drew = wx) (hb : Below B a w) : Below B a wx := by subst h; exact hb.drew
theorem below_eq {w wx a : World} {n B : Nat} (h : w.drewN n = wx) (hb : Below B a w) : Below B a wx := by subst h; exact below_drewN hb n
/-- A contract that leaves the world alone, offered inside a region that draws its order. -/
theorem quiet_left {P : Program} {f : FuncId} {args : Array Value} {w : World} {n : Nat} {v : Value}
    (h : Calls P f args (w.drewN n) fun e w' => e = .returned v ∧ w.drewN n = w') : Calls P f args (w.drewN n) fun e w'' => e = .returned v ∧ ∃ m, w'' = w.drewN m :=
  h.mono fun _ _ ⟨he, hm⟩ => ⟨he, n, hm.symm⟩
theorem heap_drewN (w : World) (n : Nat) : (w.drewN n).heap = w.heap := rfl
theorem size_quiet {w w' : World} {n : Nat} (h : w.drewN n = w') : w'.heap.size = w.heap.size := by subst h; rfl

/-! ### A slice that reads as a list of cells, nil and empty ones let in -/

/-- The slice value '.slice A n c' with n elements of 'size' cells reads as the cells xs, in a block from lo on and below hi. -/
def Rd (w : World) (lo hi size : Nat) (A : Option Addr) (n : Nat) (xs : List Value) : Prop :=
  xs.length = n * size ∧ (0 < n → ∃ b off, A = some ⟨b, off, none⟩ ∧ lo ≤ b ∧ b < hi ∧ ∀ j u, xs[j]? = some u → w.cell? ⟨b, off + j, none⟩ = some u)

/-- The cells of a list of integers. -/
abbrev ints (xs : List Int) : List Value := xs.map (Value.int .i64)

/-- A slice of integers: it reads as the list xs. -/
abbrev RdI (w : World) (lo hi : Nat) (A : Option Addr) (xs : List Int) : Prop := Rd w lo hi 1 A xs.length (ints xs)

section
variable {w w' : World} {lo hi lo' hi' size n : Nat} {A : Option Addr} {xs : List Value}

theorem Rd.nil_ : Rd w lo hi size A 0 [] := ⟨by simp, fun h => absurd h (by omega)⟩
theorem Rd.keep (h : Rd w lo hi size A n xs) (hk : ∀ b off, lo ≤ b → b < hi → w'.cell? ⟨b, off, none⟩ = w.cell? ⟨b, off, none⟩) : Rd w' lo hi size A n xs :=
  ⟨h.1, fun hn => by
    obtain ⟨b, off, e, h1, h2, hc⟩ := h.2 hn
    exact ⟨b, off, e, h1, h2, fun j u hu => (hk _ _ h1 h2).trans (hc j u hu)⟩⟩
theorem Rd.more (h : Rd w lo hi size A n xs) (h1 : lo' ≤ lo) (h2 : hi ≤ hi') : Rd w lo' hi' size A n xs :=
  ⟨h.1, fun hn => by
    obtain ⟨b, off, e, g1, g2, hc⟩ := h.2 hn
    exact ⟨b, off, e, by omega, by omega, hc⟩⟩
theorem Rd.below {B : Nat} (h : Rd w lo hi size A n xs) (hb : Below B w w') (hB : hi ≤ B) : Rd w' lo hi size A n xs :=
  h.keep fun b off _ h2 => hb.cell (p := ⟨b, off, none⟩) (show b < B from by omega)
theorem Rd.only (h : Rd w lo hi size A n xs) (hb : Only lo' hi' w w') (hd : hi ≤ lo' ∨ hi' ≤ lo) (hs : hi ≤ w.heap.size) : Rd w' lo hi size A n xs :=
  h.keep fun b off h1 h2 => World.cell?_of_block (hb.block b (by omega) (by omega))
theorem Rd.drewN (h : Rd w lo hi size A n xs) (k : Nat) : Rd (w.drewN k) lo hi size A n xs := h
end

section
variable {w w' : World} {lo hi lo' hi' c : Nat} {A : Option Addr} {xs : List Int}

theorem RdI.nil_ : RdI w lo hi A [] := Rd.nil_
/-- The cell of element k. -/
theorem Rd.ati {k : Nat} (h : RdI w lo hi A xs) (hk : k < xs.length) :
    ∃ b off, A = some ⟨b, off, none⟩ ∧ lo ≤ b ∧ b < hi ∧ ∀ j, j < xs.length → w.cell? ⟨b, off + j, none⟩ = some (.int .i64 (xs.getD j 0)) := by
  obtain ⟨b, off, e, h1, h2, hc⟩ := h.2 (by omega)
  exact ⟨b, off, e, h1, h2, fun j hj => hc j _ (by simp [ints, List.getD, hj])⟩
/-- The row of a list that is not empty. -/
theorem Rd.row {n : Nat} {ys : List Value} (h : Rd w lo hi 1 A n ys) (hk : 0 < n) :
    ∃ b off, A = some ⟨b, off, none⟩ ∧ b < hi ∧ ∀ j u, ys[j]? = some u → w.cell? ⟨b, off + j, none⟩ = some u := by
  obtain ⟨b, off, e, h1, h2, hc⟩ := h.2 hk
  exact ⟨b, off, e, h2, hc⟩
theorem Rd.rowi (h : RdI w lo hi A xs) (hk : 0 < xs.length) :
    ∃ b off, A = some ⟨b, off, none⟩ ∧ b < hi ∧ ∀ j x, xs[j]? = some x → w.cell? ⟨b, off + j, none⟩ = some (.int .i64 x) := by
  obtain ⟨b, off, e, h1, h2, hc⟩ := h.2 hk
  exact ⟨b, off, e, h2, fun j x hx => hc j _ (by rw [ints, List.getElem?_map, hx]; rfl)⟩
/-- Element k and its cell. -/
theorem Rd.geti {k : Nat} (h : RdI w lo hi A xs) (hk : k < xs.length) :
    ∃ b off x, A = some ⟨b, off, none⟩ ∧ xs[k]? = some x ∧ w.cell? ⟨b, off + k, none⟩ = some (.int .i64 x) := by
  obtain ⟨b, off, e, h1, h2, hc⟩ := h.2 (by omega)
  exact ⟨b, off, xs[k], e, List.getElem?_eq_getElem hk, hc k _ (by simp [ints, hk])⟩
end

/-! ### A slice of the call's own, at the head of a block -/

/-- The slice value '.slice A n c' owns the cells xs: at the head of a block from lo on and below hi, of element type e. -/
def Own (w : World) (e : TypeId) (lo hi size : Nat) (A : Option Addr) (n c : Nat) (xs : List Value) : Prop :=
  w.ownsRow lo e size (.slice A n c) n xs ∧ ∀ a, A = some a → a.block < hi

abbrev OwnI (w : World) (e : TypeId) (lo hi : Nat) (A : Option Addr) (c : Nat) (xs : List Int) : Prop := Own w e lo hi 1 A xs.length c (ints xs)

section
variable {w w' : World} {e : TypeId} {lo hi lo' hi' size n c : Nat} {A : Option Addr} {xs : List Value}

theorem Own.head (h : Own w e lo hi size A n c xs) : (A = none ∧ n = 0 ∧ c = 0) ∨ ∃ g, A = some ⟨g, 0, none⟩ ∧ lo ≤ g ∧ g < hi := by
  rcases h.1.2 with ⟨hv, hn⟩ | ⟨g, cap, cur, hv, hg, _⟩
  · injection hv with h1 h2 h3
    exact .inl ⟨h1, hn, h3⟩
  · injection hv with h1
    exact .inr ⟨g, h1, hg, h.2 _ h1⟩
theorem Own.length (h : Own w e lo hi size A n c xs) : xs.length = n * size := h.1.1
theorem Own.rd (h : Own w e lo hi size A n c xs) : Rd w lo hi size A n xs := by
  refine ⟨h.1.1, fun hn => ?_⟩
  rcases h.head with ⟨_, h0, _⟩ | ⟨g, rfl, h1, h2⟩
  · omega
  · refine ⟨g, 0, rfl, h1, h2, fun j u hu => ?_⟩
    have := h.1.cells (g := g) rfl j u hu
    rw [Addr.add_lit, Nat.zero_add] at this
    rw [Nat.zero_add]
    exact this
theorem Own.keep (h : Own w e lo hi size A n c xs) (hk : ∀ b, lo ≤ b → b < hi → w'.heap[b]? = w.heap[b]?) : Own w' e lo hi size A n c xs := by
  refine ⟨⟨h.1.1, ?_⟩, h.2⟩
  rcases h.1.2 with h0 | ⟨g, cap, cur, hv, hg, hh, r⟩
  · exact .inl h0
  · injection hv with h1 h2 h3
    exact .inr ⟨g, cap, cur, by rw [h1, h3], hg, by rw [hk g hg (h.2 _ h1)]; exact hh, r⟩
theorem Own.below {B : Nat} (h : Own w e lo hi size A n c xs) (hb : Below B w w') (hB : hi ≤ B) : Own w' e lo hi size A n c xs :=
  h.keep fun b _ h2 => hb.block b (by omega)
theorem Own.only (h : Own w e lo hi size A n c xs) (hb : Only lo' hi' w w') (hd : hi ≤ lo' ∨ hi' ≤ lo) (hs : hi ≤ w.heap.size) : Own w' e lo hi size A n c xs :=
  h.keep fun b h1 h2 => hb.block b (by omega) (by omega)
theorem Own.drewN (h : Own w e lo hi size A n c xs) (k : Nat) : Own (w.drewN k) e lo hi size A n c xs := h
theorem Own.more (h : Own w e lo hi size A n c xs) (h1 : lo' ≤ lo) (h2 : hi ≤ hi') : Own w e lo' hi' size A n c xs := by
  refine ⟨⟨h.1.1, ?_⟩, fun a ha => by have := h.2 a ha; omega⟩
  rcases h.1.2 with h0 | ⟨g, cap, cur, hv, hg, r⟩
  · exact .inl h0
  · exact .inr ⟨g, cap, cur, hv, by omega, r⟩
/-- What the base's laws leave: an owned row; it lies below the heap's end. -/
theorem Own.of_row {v : Value} (h : w.ownsRow lo e size v n xs) : ∃ A c, v = .slice A n c ∧ Own w e lo w.heap.size size A n c xs := by
  have hlt := h.lt
  rcases h.2 with ⟨rfl, h0⟩ | ⟨g, cap, cur, rfl, hg, r⟩
  · subst h0
    exact ⟨none, 0, rfl, h, fun a ha => by cases ha⟩
  · exact ⟨_, _, rfl, h, fun a ha => by injection ha with ha; subst ha; exact (hlt g rfl).2⟩
theorem Own.cap (h : Own w e lo hi size A n c xs) : n ≤ c := by
  rcases h.1.2 with ⟨hv, hn⟩ | ⟨g, cap, cur, hv, _, _, hc, _⟩
  · omega
  · injection hv with h1 h2 h3
    omega
theorem Own.row (h : Own w e lo hi size A n c xs) : w.ownsRow lo e size (.slice A n c) n xs := h.1
/-- A store into the row. -/
theorem Own.store {g : Nat} (h : Own w e lo hi size (some ⟨g, 0, none⟩) n c xs) (j : Nat) (u : Value) :
    Own (w.setCell ⟨g, j, none⟩ u) e lo hi size (some ⟨g, 0, none⟩) n c (xs.set j u) := ⟨(h.1.stored j u).1, h.2⟩
theorem Own.frozen {g : Nat} (h : Own w e lo hi size (some ⟨g, 0, none⟩) n c xs) (j : Nat) : w.frozen? ⟨g, j, none⟩ = false := h.1.frozenAt j
end

theorem own_drew {w wx : World} {e : TypeId} {lo hi size n c : Nat} {A : Option Addr} {xs : List Value} (h : w.drew = wx) (ho : Own w e lo hi size A n c xs) : Own wx e lo hi size A n c xs := by subst h; exact ho
theorem Own.length_pos {w : World} {e : TypeId} {lo hi size n c : Nat} {A : Option Addr} {xs : List Value} (h : Own w e lo hi size A n c xs) (hn : 0 < n) : ∃ g, A = some ⟨g, 0, none⟩ ∧ lo ≤ g ∧ g < hi := by
  rcases h.head with ⟨_, h0, _⟩ | hg
  · omega
  · exact hg

/-! ### append of one new element, of a whole list -/

section
variable {P : Program}

theorem cells_new (wr : World) (cs : List Value) (e : TypeId) : ∀ j u, cs[j]? = some u → (wr.alloc (.cells cs.toArray e)).cell? ((⟨wr.heap.size, 0, none⟩ : Addr).add j) = some u := by
  intro j u hu
  rw [Addr.add_lit, Nat.zero_add, cell_of_row _ _ j cs.toArray e (0, 0) (heap_alloc_new wr _)]
  simpa using hu

/-- 'out = append(out, x)': x has just been laid in a block of its own. -/
theorem wpList_push (wr : World) {ops : Array Oper} {rest : List Oper} {o : Oper} {a : Act} {Q : Exit → Act → World → Prop} (hgd : o.guard = none) (s x : Operand) (t : TypeId)
    (ho : o.op = .call { callee := .builtin .append, args := #[s, x], argTypes := #[t, t] })
    (base : Nat) (e : TypeId) (i : TypeInfo) (z : Value) (size bytes : Nat) (ht : P.underlying t = some (.slice e)) (hi : P.info? e = some i) (hz : i.zero = some z)
    (hsize : i.size = size) (hby : i.bytes = bytes) (hzs : z.cells.size = size) (hsz : 0 < size)
    (v : Value) (n : Nat) (xs : List Value) (hs : a.eval s = v) (hown : wr.ownsRow base e size v n xs)
    (cs : List Value) (hcs : cs.length = size) (h1 : ∀ u ∈ cs, u.oneCell' = true) (hx : a.eval x = .slice (some ⟨wr.heap.size, 0, none⟩) 1 1)
    (hn : n ≤ 1099511627776) (hb : bytes ≤ 64) (hbase : base ≤ wr.heap.size)
    (h : ∀ v' w', w'.ownsRow base e size v' (n + 1) (xs ++ cs) → (∀ w0, Below base w0 wr → Below base w0 w') → wr.heap.size ≤ w'.heap.size →
      (v'.ownBlock = v.ownBlock ∨ ∃ g, v'.ownBlock = some g ∧ wr.heap.size ≤ g) → (∀ b, b < wr.heap.size → v.ownBlock ≠ some b → w'.heap[b]? = wr.heap[b]?) →
      wpList P ops Q rest (a.put o.dst v') w') :
    wpList P ops Q (o :: rest) a (wr.alloc (.cells cs.toArray e)) := by
  have hsz1 : (wr.alloc (.cells cs.toArray e)).heap.size = wr.heap.size + 1 := by simp
  have hlt := hown.lt
  refine wpList_append_own_at (P := P) _ hgd s x t ho base e i z size bytes ht hi hz hsize hby hzs hsz v n xs hs (hown.alloc _) ⟨wr.heap.size, 0, none⟩ 1 1 cs hx (by rw [hcs, Nat.one_mul])
    (cells_new wr cs e) h1 (by unfold maxLen; omega) (Nat.le_trans (Nat.mul_le_mul_left (n + 1) hb) (by omega)) (by omega) ?_
  intro v' w' ho' hg _ hat
  have hb0 : Below base wr (wr.alloc (.cells cs.toArray e)) := (Below.refl _ _).alloc hbase _
  refine h v' w' ho' (fun w0 hw0 => (hw0.trans hb0).grown hg (by omega) (fun k hk => (hlt k hk).1)) (by have := hg.size; omega) ?_ ?_
  · rcases hat with h0 | h0
    · exact .inl h0
    · exact .inr ⟨_, h0, by omega⟩
  · intro b hb1 hb2
    rw [hg.block b (by omega) (fun e => hb2 e.symm), Below.heap_alloc _ _ _ hb1]

theorem run_append_of_nil (w : World) (base : Nat) (t ty e : TypeId) (i : TypeInfo) (size : Nat) (ht : P.underlying t = some (.slice e)) (hi : P.info? e = some i)
    (v : Value) (n : Nat) (xs : List Value) (hown : w.ownsRow base e size v n xs) (c : Nat) : (Builtin.append_ #[t, t] ty #[v, .slice none 0 c]).run P w = .ok v w := by
  rcases hown.2 with ⟨rfl, rfl⟩ | ⟨g, cap, cur, rfl, _, _, hnc, _⟩
  · simp [Builtin.append_, run_underlying ht, sizeOf, typeInfo, hi, Builtin.lenOf, Builtin.firstCells]
  · simp [Builtin.append_, run_underlying ht, sizeOf, typeInfo, hi, Builtin.lenOf, Builtin.firstCells, hnc, storeCells]

/-- 'out = append(out, l...)': l is nil, empty or not, in whatever memory. -/
theorem wpList_cat (w : World) {ops : Array Oper} {rest : List Oper} {o : Oper} {a : Act} {Q : Exit → Act → World → Prop} (hgd : o.guard = none) (s x : Operand) (t : TypeId)
    (ho : o.op = .call { callee := .builtin .append, args := #[s, x], argTypes := #[t, t] })
    (base : Nat) (e : TypeId) (i : TypeInfo) (z : Value) (size bytes : Nat) (ht : P.underlying t = some (.slice e)) (hi : P.info? e = some i) (hz : i.zero = some z)
    (hsize : i.size = size) (hby : i.bytes = bytes) (hzs : z.cells.size = size) (hsz : 0 < size)
    (v : Value) (n : Nat) (xs : List Value) (hs : a.eval s = v) (hown : w.ownsRow base e size v n xs)
    (lo hi' : Nat) (A : Option Addr) (m c : Nat) (news : List Value) (hx : a.eval x = .slice A m c) (hr : Rd w lo hi' size A m news) (h1 : ∀ u ∈ news, u.oneCell' = true)
    (hn : n + m ≤ 1099511627776) (hb : bytes ≤ 64) (hbase : base ≤ w.heap.size)
    (h : ∀ v' w', w'.ownsRow base e size v' (n + m) (xs ++ news) → (∀ w0, Below base w0 w → Below base w0 w') → w.heap.size ≤ w'.heap.size →
      (v'.ownBlock = v.ownBlock ∨ ∃ g, v'.ownBlock = some g ∧ w.heap.size ≤ g) → (∀ b, b < w.heap.size → v.ownBlock ≠ some b → w'.heap[b]? = w.heap[b]?) →
      wpList P ops Q rest (a.put o.dst v') w') :
    wpList P ops Q (o :: rest) a w := by
  have hlt := hown.lt
  have hnil : m = 0 → news = [] := fun h0 => List.eq_nil_of_length_eq_zero (by rw [hr.1, h0, Nat.zero_mul])
  rcases A with _ | ad
  · have hm : m = 0 := by
      rcases Nat.eq_zero_or_pos m with h0 | h0
      · exact h0
      · obtain ⟨b, off, e0, _⟩ := hr.2 h0
        cases e0
    have hn0 := hnil hm
    subst hm
    subst hn0
    refine wpList_plain hgd fun K hK => ?_
    have hrun := run_append_of_nil (P := P) w base t o.type e i size ht hi v n xs hown c
    unfold Oper.wp execOp
    simp only [ho, resolve, invoke, builtin, Sem.run_bind, Sem.run_pure, Result.andThen_ok, List.map_toArray, List.map_cons, List.map_nil, hs, hx, hrun]
    exact hK _ _ (h v w (by simpa using hown) (fun _ h0 => h0) (Nat.le_refl _) (.inl rfl) (fun _ _ _ => rfl))
  · refine wpList_append_own_at (P := P) w hgd s x t ho base e i z size bytes ht hi hz hsize hby hzs hsz v n xs hs hown ad m c news hx hr.1 ?_ h1 (by unfold maxLen; omega)
      (Nat.le_trans (Nat.mul_le_mul_left (n + m) hb) (by omega)) hbase ?_
    · intro j u hu
      rcases Nat.eq_zero_or_pos m with h0 | h0
      · rw [hnil h0] at hu
        simp at hu
      · obtain ⟨b, off, e0, _, _, hc⟩ := hr.2 h0
        injection e0 with e0
        subst e0
        rw [Addr.add_lit]
        exact hc j u hu
    · intro v' w' ho' hg _ hat
      refine h v' w' ho' (fun w0 hw0 => hw0.grown hg hbase (fun k hk => (hlt k hk).1)) hg.size ?_ ?_
      · rcases hat with h0 | h0
        · exact .inl h0
        · exact .inr ⟨_, h0, Nat.le_refl _⟩
      · intro b hb1 hb2
        exact hg.block b hb1 (fun e => hb2 e.symm)
end

end Go.Proofs.Ytnljjocoloijfaa
