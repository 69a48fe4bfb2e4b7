/-
  This file proves contracts of the small functions that draw numbers from bytes: next, pick, one, among.
  Conditions: that the cursor lies in a block of the call's own, above the bytes that it reads, and has not been asked too often.
-/
import Derived.Test.YtiegnhpccbnhhaaBase
import Derived.WalkSmall
import Derived.Handy
namespace Go.Proofs.Ytiegnhpccbnhhaa
open Go.RowKit
set_option linter.unusedSimpArgs false
set_option linter.unusedVariables false

abbrev bytesV (xs : List Int) : List Value := xs.map (Value.int .u8)
/-- The cursor at block g: at most b bytes have been asked for. -/
structure Cur (w : World) (g b : Nat) : Prop where
  ex : ∃ (A : Option Addr) (c : Nat) (xs : List Int) (pos : Nat) (sd : Int), w.cell? ⟨g, 0, none⟩ = some (.slice A xs.length c) ∧ w.cell? ⟨g, 1, none⟩ = some (.int .i64 pos) ∧ w.cell? ⟨g, 2, none⟩ = some (.int .u64 sd) ∧
    pos ≤ b ∧ 0 ≤ sd ∧ sd ≤ 18446744073709551615 ∧ Rd w 0 g 1 A xs.length (bytesV xs) ∧ (∀ x ∈ xs, 0 ≤ x ∧ x ≤ 255) ∧ xs.length ≤ 65536
  f1 : w.frozen? ⟨g, 1, none⟩ = false
  f2 : w.frozen? ⟨g, 2, none⟩ = false
theorem Cur.more {w : World} {g b b' : Nat} (h : Cur w g b) (hb : b ≤ b') : Cur w g b' := by
  obtain ⟨⟨A, c, xs, pos, sd, h1, h2, h3, h4, h5⟩, f1, f2⟩ := h
  exact ⟨⟨A, c, xs, pos, sd, h1, h2, h3, by omega, h5⟩, f1, f2⟩
theorem Cur.lt {w : World} {g b : Nat} (h : Cur w g b) : g < w.heap.size := by
  obtain ⟨A, c, xs, pos, sd, h1, _⟩ := h.ex
  exact World.block_lt_of_cell? w _ h1
/-- The cursor's block and all below it as they were: the cursor is as it was. -/
theorem Cur.below {w w' : World} {g b N : Nat} (h : Cur w g b) (hb : Below N w w') (hg : g < N) : Cur w' g b := by
  obtain ⟨⟨A, c, xs, pos, sd, h1, h2, h3, h4, h5, h6, h7, h8, h9⟩, f1, f2⟩ := h
  refine ⟨⟨A, c, xs, pos, sd, ?_, ?_, ?_, h4, h5, h6, h7.below hb (by omega), h8, h9⟩, ?_, ?_⟩
  · exact (hb.cell (p := ⟨g, 0, none⟩) hg).trans h1
  · exact (hb.cell (p := ⟨g, 1, none⟩) hg).trans h2
  · exact (hb.cell (p := ⟨g, 2, none⟩) hg).trans h3
  · exact (hb.frozen (p := ⟨g, 1, none⟩) hg).trans f1
  · exact (hb.frozen (p := ⟨g, 2, none⟩) hg).trans f2
theorem Cur.drewN {w : World} {g b : Nat} (h : Cur w g b) (n : Nat) : Cur (w.drewN n) g b := ⟨h.ex, h.f1, h.f2⟩
theorem Only.alloc {lo hi : Nat} {a w : World} (h : Only lo hi a w) (o : Obj) : Only lo hi a (w.alloc o) :=
  h.trans ⟨rfl, rfl, rfl, by simp, fun k hk _ => Below.heap_alloc _ _ _ hk⟩
theorem Only.of_below {lo hi : Nat} {w w' : World} (h : Below w.heap.size w w') : Only lo hi w w' := ⟨h.os, h.tape, h.output, h.size, fun k hk _ => h.block k hk⟩

/-- A number that a draw gives, the cursor moved on by n bytes at most. -/
def Drawn (lo hi : Int) (g b : Nat) (w : World) (e : Ending) (w' : World) : Prop := ∃ v : Int, e = .returned (.int .i64 v) ∧ lo ≤ v ∧ v ≤ hi ∧ Only g (g + 1) w w' ∧ Cur w' g b ∧ w'.heap.size = w.heap.size

theorem and255 (E : Int) (h0 : 0 ≤ E) (h1 : E ≤ 18446744073709551615) : bits BinOp.and IntKind.u64 E 255 = E % 256 := by
  have h := bits_and_u64_nat E.toNat 255 (by omega) (by omega)
  rw [show (255 : Nat) = 2 ^ 8 - 1 from rfl, Nat.and_two_pow_sub_one_eq_mod, Int.toNat_of_nonneg h0] at h
  have h2 : ((E.toNat % 2 ^ 8 : Nat) : Int) = E % 256 := by omega
  exact h.trans h2

theorem u64_wrap (x : Int) : 0 ≤ IntKind.u64.wrap x ∧ IntKind.u64.wrap x ≤ 18446744073709551615 := by
  unfold IntKind.wrap
  simp [IntKind.bits, IntKind.signed]
  omega
/-- The cursor behind one byte. -/
structure Moved (w W : World) (g pos n c : Nat) (A : Option Addr) (s : Int) : Prop where
  c0 : W.cell? ⟨g, 0, none⟩ = some (.slice A n c)
  c1 : W.cell? ⟨g, 1, none⟩ = some (.int .i64 ((pos : Int) + 1))
  c2 : W.cell? ⟨g, 2, none⟩ = some (.int .u64 s)
  f1 : W.frozen? ⟨g, 1, none⟩ = false
  f2 : W.frozen? ⟨g, 2, none⟩ = false
  on : Only g (g + 1) w W
  sz : W.heap.size = w.heap.size
  s0 : 0 ≤ s ∧ s ≤ 18446744073709551615
theorem moved_mk {w : World} {g pos n c : Nat} {A : Option Addr} {u v : Value} (h0 : w.cell? ⟨g, 0, none⟩ = some (.slice A n c)) (h1 : w.cell? ⟨g, 1, none⟩ = some u) (h2 : w.cell? ⟨g, 2, none⟩ = some v)
    (f1 : w.frozen? ⟨g, 1, none⟩ = false) (f2 : w.frozen? ⟨g, 2, none⟩ = false) (k : Nat) (x : Int) :
    Moved w (((w.drewN k).setCell ⟨g, 1, none⟩ (.int .i64 ((pos : Int) + 1))).setCell ⟨g, 2, none⟩ (.int .u64 (IntKind.u64.wrap x))) g pos n c A (IntKind.u64.wrap x) := by
  refine ⟨?_, ?_, ?_, ?_, ?_, ?_, by simp [World.setCell, World.drewN], u64_wrap x⟩
  · rw [World.cell?_setCell_other _ _ _ _ (by simp), World.cell?_setCell_other _ _ _ _ (by simp)]; exact h0
  · rw [World.cell?_setCell_other _ _ _ _ (by simp)]; exact World.cell?_setCell_same (w.drewN k) _ _ h1
  · exact World.cell?_setCell_same _ _ _ ((World.cell?_setCell_other (w.drewN k) _ _ _ (by simp)).trans h2)
  · exact (World.frozen?_setCell _ _ _ _).trans ((World.frozen?_setCell _ _ _ _).trans f1)
  · exact (World.frozen?_setCell _ _ _ _).trans ((World.frozen?_setCell _ _ _ _).trans f2)
  · exact (((Only.refl g (g + 1) w).drewN k).setCell (p := ⟨g, 1, none⟩) (Nat.le_refl g) (Nat.lt_succ_self g) _).setCell (p := ⟨g, 2, none⟩) (Nat.le_refl g) (Nat.lt_succ_self g) _
theorem Moved.drawn {w W : World} {g pos n c b k : Nat} {A : Option Addr} {s v : Int} {xs : List Int} (h : Moved w W g pos n c A s) (hn : n = xs.length) (hp : pos ≤ b) (hg : g < w.heap.size) (hr : Rd w 0 g 1 A xs.length (bytesV xs)) (hx : ∀ x ∈ xs, 0 ≤ x ∧ x ≤ 255) (hl : xs.length ≤ 65536) (hv : 0 ≤ v ∧ v ≤ 255) :
    Drawn 0 255 g (b + 1) w (.returned (.int .i64 v)) (W.drewN k) := by
  subst hn
  refine ⟨v, rfl, hv.1, hv.2, h.on.drewN k, ⟨⟨A, c, xs, pos + 1, s, h.c0, ?_, h.c2, by omega, h.s0.1, h.s0.2, ?_, hx, hl⟩, h.f1, h.f2⟩, h.sz⟩
  · have := h.c1
    push_cast
    exact this
  · exact (hr.only h.on (.inl (Nat.le_refl _)) (Nat.le_of_lt hg)).drewN k
theorem shr40 {s : Int} (h : 0 ≤ s ∧ s ≤ 18446744073709551615) : 0 ≤ s / 1099511627776 ∧ s / 1099511627776 ≤ 18446744073709551615 := by omega

set_option maxHeartbeats 1000000 in
set_option maxRecDepth 100000 in
theorem next_any {g b : Nat} {w : World} (hc : Cur w g b) (hb : b ≤ 1099511627776) :
    Calls Try.prog 83 #[.pointer (some ⟨g, 0, none⟩)] w (Drawn 0 255 g (b + 1) w) := by
  have hgl := hc.lt
  obtain ⟨⟨A, c, xs, pos, sd, h1, h2, h3, h4, h5, h6, h7, h8, h9⟩, f1, f2⟩ := hc
  have HM := Lib.hid (fun (k : Nat) (x : Int) => moved_mk (pos := pos) h1 h2 h3 f1 f2 k x)
  by_cases hlt : pos < xs.length
  · obtain ⟨b0, off, e0, _, hbl, hcs⟩ := h7.2 (by omega)
    subst e0
    have hx : xs[pos]? = some xs[pos] := List.getElem?_eq_getElem hlt
    have hxb := h8 _ (List.getElem_mem hlt)
    generalize xs[pos] = x at hx hxb
    have hcell : w.cell? ⟨b0, off + pos, none⟩ = some (.int .u8 x) := hcs pos _ (by rw [bytesV, List.getElem?_map, hx]; rfl)
    have H8 := Lib.hid h8
    have q1 : (pos : Int) < (xs.length : Int) := by omega
    have q2 : ((pos : Int) + 1) ≤ (xs.length : Int) := by omega
    have q3 : IntKind.i64.wrap ((pos : Int) + 1) = (pos : Int) + 1 := wr64 (by omega) (by omega)
    clear hcs hx h8
    go_enter Try.func83, Try.ntmps83
    go_wp2_with fail
    go_quiet (fail)
    go_wp2_with fail
    go_quiet (fail)
    go_wp2_with fail
    generalize hW : World.setCell (World.setCell _ _ _) _ _ = W6
    obtain ⟨s, M⟩ : ∃ s, Moved w W6 g pos xs.length c (some ⟨b0, off, none⟩) s := ⟨_, by rw [← hW]; exact HM.out _ _⟩
    have HW := Lib.hid hW
    clear hW h1 h2 h3 f1 f2 hcell
    obtain ⟨c0, c1, c2, f1, f2, on, sz, s0⟩ := M
    have SZ := Lib.hid sz
    clear sz
    go_quiet (fail)
    go_wp2_with fail
    go_ret
    exact (Moved.mk c0 c1 c2 f1 f2 on SZ.out s0).drawn rfl h4 hgl h7 H8.out h9 hxb
  · have H8 := Lib.hid h8
    have q1 : ¬ (pos : Int) < (xs.length : Int) := by omega
    have q2 : ¬ ((pos : Int) + 1) ≤ (xs.length : Int) := by omega
    have q3 : IntKind.i64.wrap ((pos : Int) + 1) = (pos : Int) + 1 := wr64 (by omega) (by omega)
    clear h8
    go_enter Try.func83, Try.ntmps83
    go_wp2_with fail
    go_quiet (fail)
    go_wp2_with fail
    generalize hW : World.setCell (World.setCell _ _ _) _ _ = W6
    obtain ⟨s, M⟩ : ∃ s, Moved w W6 g pos xs.length c A s := ⟨_, by rw [← hW]; exact HM.out _ _⟩
    have HW := Lib.hid hW
    clear hW h1 h2 h3 f1 f2
    obtain ⟨c0, c1, c2, f1, f2, on, sz, s0⟩ := M
    have SZ := Lib.hid sz
    clear sz
    go_quiet (fail)
    go_wp2_with fail
    go_ret
    refine (Moved.mk c0 c1 c2 f1 f2 on SZ.out s0).drawn rfl h4 hgl h7 H8.out h9 ?_
    have h := shr40 s0
    rw [and255 _ h.1 h.2, IntWalk.wrap64_in _ ⟨by omega, by omega⟩]
    omega

theorem Drawn.more {lo hi lo' hi' : Int} {g b b' : Nat} {w w' : World} {e : Ending} (h : Drawn lo hi g b w e w') (h1 : lo' ≤ lo) (h2 : hi ≤ hi') (h3 : b ≤ b') : Drawn lo' hi' g b' w e w' := by
  obtain ⟨v, he, a1, a2, a3, a4, a5⟩ := h
  exact ⟨v, he, by omega, by omega, a3, a4.more h3, a5⟩

set_option maxHeartbeats 1000000 in
theorem pick_any {g b : Nat} {n : Int} {w : World} (hc : Cur w g b) (hb : b ≤ 1099511627770) (hn : 1 ≤ n) (hn2 : n ≤ 1000000) :
    Calls Try.prog 80 #[.pointer (some ⟨g, 0, none⟩), .int .i64 n] w (Drawn 0 (n - 1) g (b + 2) w) := by
  by_cases h1 : n ≤ 1
  · go_enter Try.func80, Try.ntmps80
    go_wp2_with fail
    go_ret
    exact ⟨0, rfl, by omega, by omega, Only.refl _ _ _, hc.more (by omega), rfl⟩
  by_cases h2 : 200 < n
  · go_enter Try.func80, Try.ntmps80
    go_wp2_with fail
    refine (next_any hc (by omega)).mono ?_
    rintro e w1 ⟨v, rfl, v1, v2, on1, hc1, z1⟩
    have Z1 := Lib.hid z1
    clear z1
    have q1 : IntKind.i64.wrap (v * 256) = v * 256 := wr64 (by omega) (by omega)
    go_wp2_with fail
    refine (next_any hc1 (by omega)).mono ?_
    rintro e w2 ⟨u, rfl, u1, u2, on2, hc2, z2⟩
    have Z2 := Lib.hid z2
    clear z2
    have q2 : IntKind.i64.wrap (v * 256 + u) = v * 256 + u := wr64 (by omega) (by omega)
    have q3 : ¬ (n = 0) := by omega
    go_wp2_with fail
    go_ret
    have m1 := Int.emod_nonneg (v * 256 + u) q3
    have m2 := Int.emod_lt_of_pos (v * 256 + u) (show 0 < n by omega)
    exact ⟨_, rfl, by first | exact m1 | (rw [Int.tmod_eq_emod_of_nonneg (by omega)]; exact m1), by first | omega | (rw [Int.tmod_eq_emod_of_nonneg (by omega)]; omega), on1.trans on2, hc2.more (by omega), Z2.out.trans Z1.out⟩
  · go_enter Try.func80, Try.ntmps80
    go_wp2_with fail
    refine (next_any hc (by omega)).mono ?_
    rintro e w1 ⟨v, rfl, v1, v2, on1, hc1, z1⟩
    have Z1 := Lib.hid z1
    clear z1
    have q3 : ¬ (n = 0) := by omega
    go_wp2_with fail
    go_ret
    have m1 := Int.emod_nonneg v q3
    have m2 := Int.emod_lt_of_pos v (show 0 < n by omega)
    exact ⟨_, rfl, by first | exact m1 | (rw [Int.tmod_eq_emod_of_nonneg (by omega)]; exact m1), by first | omega | (rw [Int.tmod_eq_emod_of_nonneg (by omega)]; omega), on1, hc1.more (by omega), Z1.out⟩

/-- A bool that a draw gives. -/
def DrawnB (g b : Nat) (w : World) (e : Ending) (w' : World) : Prop := ∃ v : Bool, e = .returned (.bool v) ∧ Only g (g + 1) w w' ∧ Cur w' g b ∧ w'.heap.size = w.heap.size
theorem one_any {g b : Nat} {n : Int} {w : World} (hc : Cur w g b) (hb : b ≤ 1099511627770) (hn : 1 ≤ n) (hn2 : n ≤ 1000000) :
    Calls Try.prog 79 #[.pointer (some ⟨g, 0, none⟩), .int .i64 n] w (DrawnB g (b + 2) w) := by
  go_enter Try.func79, Try.ntmps79
  go_wp2_with fail
  refine (pick_any hc hb hn hn2).mono ?_
  rintro e w1 ⟨v, rfl, v1, v2, on1, hc1, z1⟩
  have Z1 := Lib.hid z1
  clear z1
  go_wp2_with fail
  go_ret
  exact ⟨_, rfl, on1, hc1, Z1.out⟩

/-- One of some numbers, which lie in a block other than the cursor's. -/
theorem among_any {g b lo hi c : Nat} {A : Option Addr} {xs : List Int} {w : World} (hc : Cur w g b) (hb : b ≤ 1099511627770) (hr : RdI w lo hi A xs) (hd : hi ≤ g ∨ g + 1 ≤ lo) (hh : hi ≤ w.heap.size) (hn : 1 ≤ xs.length) (hn2 : xs.length ≤ 1000000) :
    Calls Try.prog 71 #[.pointer (some ⟨g, 0, none⟩), .slice A xs.length c] w fun e w' => ∃ v ∈ xs, e = .returned (.int .i64 v) ∧ Only g (g + 1) w w' ∧ Cur w' g (b + 2) ∧ w'.heap.size = w.heap.size := by
  go_enter Try.func71, Try.ntmps71
  go_wp2_with fail
  refine (pick_any hc hb (by omega) (by omega)).mono ?_
  rintro e w1 ⟨v, rfl, v1, v2, on1, hc1, z1⟩
  have Z1 := Lib.hid z1
  clear z1
  obtain ⟨j, rfl⟩ : ∃ j : Nat, v = (j : Int) := ⟨v.toNat, by omega⟩
  have hj : j < xs.length := by omega
  obtain ⟨b0, off, x, rfl, hx, hcell⟩ := (hr.only on1 (by omega) hh).geti hj
  have HX := Lib.hid (List.mem_of_getElem? hx)
  have q1 : (j : Int) < (xs.length : Int) := by omega
  clear hx
  go_wp2_with fail
  go_ret
  exact ⟨x, HX.out, rfl, on1, hc1, Z1.out⟩

/-! ### A list that is being drawn -/

/-- Between the world w, in which the drawing began, and wr: the list so far is a row of the draw's own; apart from the cursor nothing that was there has turned. -/
structure St (w wr : World) (g b : Nat) (e : TypeId) (size : Nat) (A : Option Addr) (n c : Nat) (cs : List Value) : Prop where
  own : Own wr e w.heap.size wr.heap.size size A n c cs
  on : Only g (g + 1) w wr
  cur : Cur wr g b
  hg : g < w.heap.size
theorem St.alloc {w wr : World} {g b : Nat} {e : TypeId} {size : Nat} {A : Option Addr} {n c : Nat} {cs : List Value} (h : St w wr g b e size A n c cs) (o : Obj) : St w (wr.alloc o) g b e size A n c cs :=
  ⟨(h.own.below (below_alloc1 wr o) (Nat.le_refl _)).more (Nat.le_refl _) (by simp), h.on.alloc o, h.cur.below (below_alloc1 wr o) h.cur.lt, h.hg⟩
theorem St.step {w wr w' : World} {g b b' : Nat} {e : TypeId} {size : Nat} {A : Option Addr} {n c : Nat} {cs : List Value} (h : St w wr g b e size A n c cs) (on : Only g (g + 1) wr w') (hc : Cur w' g b') : St w w' g b' e size A n c cs :=
  ⟨(h.own.only on (.inr h.hg) (Nat.le_refl _)).more (Nat.le_refl _) on.size, h.on.trans on, hc, h.hg⟩
theorem St.drewN {w wr : World} {g b : Nat} {e : TypeId} {size : Nat} {A : Option Addr} {n c : Nat} {cs : List Value} (h : St w wr g b e size A n c cs) (k : Nat) : St w (wr.drewN k) g b e size A n c cs :=
  ⟨h.own, h.on.drewN k, h.cur.drewN k, h.hg⟩
theorem St.more {w wr : World} {g b b' : Nat} {e : TypeId} {size : Nat} {A : Option Addr} {n c : Nat} {cs : List Value} (h : St w wr g b e size A n c cs) (hb : b ≤ b') : St w wr g b' e size A n c cs := ⟨h.own, h.on, h.cur.more hb, h.hg⟩
theorem St.base {w wr : World} {g b : Nat} {e : TypeId} {size : Nat} {A : Option Addr} {n c : Nat} {cs : List Value} (h : St w wr g b e size A n c cs) : w.heap.size ≤ wr.heap.size := h.on.size
/-- Behind 'list = append(list, x)'. -/
theorem St.push {w wr w7 : World} {v7 : Value} {g b : Nat} {e : TypeId} {size : Nat} {A : Option Addr} {n m c : Nat} {cs xs : List Value} (h : St w wr g b e size A n c cs)
    (hown : w7.ownsRow w.heap.size e size v7 m xs) (hb : ∀ w0, Below w.heap.size w0 wr → Below w.heap.size w0 w7) : ∃ A' c', v7 = .slice A' m c' ∧ St w w7 g b e size A' m c' xs := by
  obtain ⟨A', c', hv, ho⟩ := Own.of_row hown
  have hbw := hb wr (Below.refl _ _)
  exact ⟨A', c', hv, ho, ⟨hbw.os.trans h.on.os, hbw.tape.trans h.on.tape, hbw.output.trans h.on.output, Nat.le_trans h.on.size hbw.size, fun k hk hk2 => (hbw.block k hk).trans (h.on.block k hk hk2)⟩, h.cur.below hbw h.hg, h.hg⟩
/-- The empty list, just made. -/
theorem St.nil {w : World} {g b : Nat} (e : TypeId) (size : Nat) (hc : Cur w g b) : St w (w.alloc (.cells #[] e)) g b e size (some ⟨w.heap.size, 0, none⟩) 0 0 [] :=
  ⟨⟨row_empty w e size, fun a ha => by cases ha; simp⟩, (Only.refl _ _ _).alloc _, hc.below (below_alloc1 _ _) hc.lt, hc.lt⟩
theorem rdI_new (w : World) (e : TypeId) (xs : List Int) (cs : Array Value) (h : cs = (ints xs).toArray) : RdI (w.alloc (.cells cs e)) w.heap.size (w.heap.size + 1) (some ⟨w.heap.size, 0, none⟩) xs := by
  subst h
  refine ⟨by simp [ints], fun _ => ⟨w.heap.size, 0, rfl, Nat.le_refl _, Nat.lt_succ_self _, fun j u hu => ?_⟩⟩
  have := cells_new w (ints xs) e j u hu
  rwa [Addr.add_lit] at this

end Go.Proofs.Ytiegnhpccbnhhaa
