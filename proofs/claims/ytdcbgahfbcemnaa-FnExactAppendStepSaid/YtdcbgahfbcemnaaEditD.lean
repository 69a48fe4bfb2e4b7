/-
  This file proves the contract of the program's function that makes the state behind some live steps.
  Conditions: that the steps and the live indices read as lists, that the live steps have the form of steps, that there are 20 at most.
-/
import Derived.Test.YtdcbgahfbcemnaaEditC
import Derived.StillTailTactics
import Derived.RegionTactic
import Derived.Deep.RegionLaw
import Derived.Deep.RegionHeld
import Derived.Deep.DeepCutAuto
import Derived.Deep.OwnRows
namespace Go.Proofs.Ytdcbgahfbcemnaa
open Go.RowKit
set_option linter.unusedSimpArgs false
set_option linter.unusedVariables false

/-- At a step of a region that draws its order: 'make([]T, n)'. -/
theorem step_make {P : Program} (w : World) {ops : Array Oper} {o : Oper} {a : Act} {K : Act → World → Prop} {Q : Exit → Act → World → Prop} {E : Prop} (hgd : o.guard = none) (l c : Operand) (t : TypeId) (hop : o.op = Op.makeSlice t l c)
    (e : TypeId) (i : TypeInfo) (z : Value) (ht : P.underlying t = some (.slice e)) (hi : P.info? e = some i) (hz : i.zero = some z) (hsize : i.size = 1) (hz1 : z.cells = #[z])
    (n : Nat) (hl : a.eval l = .int .i64 (n : Int)) (hc : a.eval c = .int .i64 (n : Int)) (hbytes : i.bytes * n ≤ 281474976710656) (h63 : n ≤ 9223372036854775807)
    (hK : K (a.put o.dst (.slice (some ⟨w.heap.size, 0, none⟩) n n)) (w.alloc (.cells (madeCells #[z] n) e))) :
    if Region.wanted o (yielded ops a.tmps) = true then Oper.wp P o a w K Q else E := by
  have hw : Region.wanted o (yielded ops a.tmps) = true := by simp [Region.wanted, hgd]
  rw [if_pos hw]
  have hrun := run_make_row (P := P) t e i z ht hi hz hsize hz1 .i64 .i64 n hbytes h63 w
  unfold Oper.wp execOp
  simp only [hop, Sem.run_bind, Sem.run_pure, Result.andThen_ok, hl, hc, hrun]
  exact hK

abbrev bls (bs : List Bool) : List Value := bs.map Value.bool
def rejL (ps : List GEditStep) (m : Nat) (l : List Nat) : List Bool := (List.range m).map fun (j : Nat) => !accE ps (j : Int) l
def shL (ps : List GEditStep) (m : Nat) (l : List Nat) : List Int := (List.range m).map fun (j : Nat) => shiftE ps (j : Int) l
theorem rejL_length (ps : List GEditStep) (m : Nat) (l : List Nat) : (rejL ps m l).length = m := by simp [rejL]
theorem shL_length (ps : List GEditStep) (m : Nat) (l : List Nat) : (shL ps m l).length = m := by simp [shL]
theorem shL_get {ps : List GEditStep} {m : Nat} {l : List Nat} {j : Nat} (h : j < m) : (ints (shL ps m l))[j]? = some (.int .i64 (shiftE ps (j : Int) l)) := by simp [ints, shL, h]
section
variable {ps : List GEditStep} {m j0 i : Nat} {l : List Nat} {kd sh : Int} {rs : ByteArray}
theorem rejL_set {b : Bool} (hg : gE ps i = ⟨kd, (j0 : Int), sh, rs⟩) (hk : kd ≠ 2) (hb : decide (kd = 1) = !b) : (bls (rejL ps m l)).set j0 (.bool b) = bls (rejL ps m (l ++ [i])) := by
  apply List.ext_getElem?
  intro k
  rw [List.getElem?_set]
  by_cases hkm : k < m
  · by_cases hj : j0 = k
    · subst hj
      simp [bls, rejL, hkm, accE_snoc, hg, hk, hb]
    · simp [bls, rejL, hkm, accE_snoc, hg, hj, show ¬ ((j0 : Int) = (k : Int)) by omega]
  · simp [bls, rejL, hkm]
    omega
theorem rejL_same (hg : gE ps i = ⟨kd, (j0 : Int), sh, rs⟩) (hk : kd = 2) : rejL ps m (l ++ [i]) = rejL ps m l := by
  unfold rejL
  congr 1
  funext j
  rw [accE_snoc, hg, if_neg (by simp [hk])]
theorem shL_set (hg : gE ps i = ⟨kd, (j0 : Int), sh, rs⟩) (hk : kd = 2) : (ints (shL ps m l)).set j0 (.int .i64 (shiftE ps (j0 : Int) l + sh)) = ints (shL ps m (l ++ [i])) := by
  apply List.ext_getElem?
  intro k
  rw [List.getElem?_set]
  by_cases hkm : k < m
  · by_cases hj : j0 = k
    · subst hj
      simp [ints, shL, hkm, shiftE_snoc, hg, hk]
    · simp [ints, shL, hkm, shiftE_snoc, hg, hj, show ¬ ((j0 : Int) = (k : Int)) by omega]
  · simp [ints, shL, hkm]
    omega
theorem shL_same (hg : gE ps i = ⟨kd, (j0 : Int), sh, rs⟩) (hk : kd ≠ 2) : shL ps m (l ++ [i]) = shL ps m l := by
  unfold shL
  congr 1
  funext j
  rw [shiftE_snoc, hg, if_neg (by simp [hk])]
end

/-- A state in memory: its block g, its two rows r and s, its live list. -/
structure StO (w : World) (m : Nat) (ps : List GEditStep) (l : List Nat) (B : Option Addr) (n c r s g : Nat) : Prop where
  n1 : r ≠ s
  n2 : g ≠ r
  n3 : g ≠ s
  o1 : Own w 4 r (r + 1) 1 (some ⟨r, 0, none⟩) m m (bls (rejL ps m l))
  o2 : Own w 3 s (s + 1) 1 (some ⟨s, 0, none⟩) m m (ints (shL ps m l))
  c0 : w.cell? ⟨g, 0, none⟩ = some (.slice (some ⟨r, 0, none⟩) m m)
  c1 : w.cell? ⟨g, 1, none⟩ = some (.slice (some ⟨s, 0, none⟩) m m)
  c2 : w.cell? ⟨g, 2, none⟩ = some (.slice B n c)
section
variable {w w' : World} {m : Nat} {ps : List GEditStep} {l l' : List Nat} {B : Option Addr} {n c r s g N : Nat}
theorem StO.below (h : StO w m ps l B n c r s g) (hb : Below N w w') (h1 : r < N) (h2 : s < N) (h3 : g < N) : StO w' m ps l B n c r s g :=
  ⟨h.n1, h.n2, h.n3, h.o1.below hb (by omega), h.o2.below hb (by omega), (hb.cell (p := ⟨g, 0, none⟩) h3).trans h.c0, (hb.cell (p := ⟨g, 1, none⟩) h3).trans h.c1, (hb.cell (p := ⟨g, 2, none⟩) h3).trans h.c2⟩
theorem StO.lt (h : StO w m ps l B n c r s g) : r < w.heap.size ∧ s < w.heap.size ∧ g < w.heap.size :=
  ⟨(h.o1.1.lt r rfl).2, (h.o2.1.lt s rfl).2, World.block_lt_of_cell? w _ h.c0⟩
theorem StO.alloc (h : StO w m ps l B n c r s g) (o : Obj) : StO (w.alloc o) m ps l B n c r s g :=
  h.below (below_alloc1 w o) h.lt.1 h.lt.2.1 h.lt.2.2
theorem StO.drew (h : StO w m ps l B n c r s g) : StO w.drew m ps l B n c r s g := ⟨h.n1, h.n2, h.n3, h.o1, h.o2, h.c0, h.c1, h.c2⟩
theorem StO.set1 (h : StO w m ps l B n c r s g) {j : Nat} {u : Value} (hs : (bls (rejL ps m l)).set j u = bls (rejL ps m l')) (h2 : shL ps m l' = shL ps m l) : StO (w.setCell ⟨r, j, none⟩ u) m ps l' B n c r s g := by
  have h1 := h.o1.store j u
  rw [hs] at h1
  refine ⟨h.n1, h.n2, h.n3, h1, ?_, (World.cell?_setCell_far _ _ _ _ (Ne.symm h.n2)).trans h.c0, (World.cell?_setCell_far _ _ _ _ (Ne.symm h.n2)).trans h.c1, (World.cell?_setCell_far _ _ _ _ (Ne.symm h.n2)).trans h.c2⟩
  rw [h2]
  exact h.o2.keep fun b hb1 hb2 => Below.heap_setCell _ _ _ _ (by have := h.n1; show b ≠ r; omega)
theorem StO.set2 (h : StO w m ps l B n c r s g) {j : Nat} {u : Value} (hs : (ints (shL ps m l)).set j u = ints (shL ps m l')) (h2 : rejL ps m l' = rejL ps m l) : StO (w.setCell ⟨s, j, none⟩ u) m ps l' B n c r s g := by
  have h1 := h.o2.store j u
  rw [hs] at h1
  refine ⟨h.n1, h.n2, h.n3, ?_, h1, (World.cell?_setCell_far _ _ _ _ (Ne.symm h.n3)).trans h.c0, (World.cell?_setCell_far _ _ _ _ (Ne.symm h.n3)).trans h.c1, (World.cell?_setCell_far _ _ _ _ (Ne.symm h.n3)).trans h.c2⟩
  rw [h2]
  exact h.o1.keep fun b hb1 hb2 => Below.heap_setCell _ _ _ _ (by have := h.n1; show b ≠ s; omega)
end
theorem bool_info : (Try.prog.info? 4).map (fun i => (i.zero, i.size, i.bytes)) = some (some (.bool false), 1, 1) := by kernel_rfl
theorem own_make {w : World} (e : TypeId) (cs : Array Value) (n : Nat) (hn : n ≤ 1000) (hc : cs.size = n) : Own (w.alloc (.cells cs e)) e w.heap.size (w.heap.size + 1) 1 (some ⟨w.heap.size, 0, none⟩) n n cs.toList := by
  refine ⟨?_, fun a ha => by cases ha; exact Nat.lt_succ_self _⟩
  refine ⟨by simp [hc], .inr ⟨w.heap.size, n, cs, rfl, Nat.le_refl _, heap_alloc_new w _, Nat.le_refl _, by unfold maxLen; omega, by omega, ?_⟩⟩
  rw [List.take_of_length_le (by simp [hc])]
theorem madeB (n : Nat) : (madeCells #[Value.bool false] n).toList = bls (List.replicate n false) := by
  rw [toList_madeCells_one, bls, List.map_replicate]
theorem rej0 (ps : List GEditStep) (m : Nat) : rejL ps m [] = List.replicate m false := by
  apply List.ext_getElem? ; intro k; by_cases hk : k < m <;> simp [rejL, accE, hk]
theorem sh0 (ps : List GEditStep) (m : Nat) : shL ps m [] = List.replicate m 0 := by
  apply List.ext_getElem? ; intro k; by_cases hk : k < m <;> simp [shL, shiftE, hk]
theorem size_made (z : Value) (n : Nat) : (madeCells #[z] n).size = n := by
  have := congrArg List.length (toList_madeCells_one z n)
  simpa using this
theorem three_cells (w : World) (x y z : Value) (t : TypeId) (h1 : x.oneCell' = true) (h2 : y.oneCell' = true) (h3 : z.oneCell' = true) : (w.alloc (.cells #[x, y, z] t)).cell? ⟨w.heap.size, 0, none⟩ = some x ∧ (w.alloc (.cells #[x, y, z] t)).cell? ⟨w.heap.size, 1, none⟩ = some y ∧ (w.alloc (.cells #[x, y, z] t)).cell? ⟨w.heap.size, 2, none⟩ = some z := by
  have h := heap_alloc_new w (.cells #[x, y, z] t)
  refine ⟨?_, ?_, ?_⟩ <;> rw [cell_of_row _ _ _ _ _ (0, 0) h] <;> rfl

/-- The state is made: in whichever order its two rows are. -/
theorem StO.made1 (w : World) (ps : List GEditStep) (m n c : Nat) (B : Option Addr) (t : TypeId) (hm : m ≤ 15) :
    StO (((w.alloc (.cells (madeCells #[.bool false] m) 4)).alloc (.cells (madeCells #[.int .i64 0] m) 3)).alloc (.cells #[.slice (some ⟨w.heap.size, 0, none⟩) m m, .slice (some ⟨w.heap.size + 1, 0, none⟩) m m, .slice B n c] t)) m ps [] B n c w.heap.size (w.heap.size + 1) (w.heap.size + 2) := by
  have z1 : (w.alloc (.cells (madeCells #[.bool false] m) 4)).heap.size = w.heap.size + 1 := by simp
  have z2 : ((w.alloc (.cells (madeCells #[.bool false] m) 4)).alloc (.cells (madeCells #[.int .i64 0] m) 3)).heap.size = w.heap.size + 2 := by simp
  have h1 := own_make (w := w) 4 (madeCells #[.bool false] m) m (by omega) (size_made _ _)
  have h2 := own_make (w := w.alloc (.cells (madeCells #[.bool false] m) 4)) 3 (madeCells #[.int .i64 0] m) m (by omega) (size_made _ _)
  have h3 := three_cells ((w.alloc (.cells (madeCells #[.bool false] m) 4)).alloc (.cells (madeCells #[.int .i64 0] m) 3)) (.slice (some ⟨w.heap.size, 0, none⟩) m m) (.slice (some ⟨w.heap.size + 1, 0, none⟩) m m) (.slice B n c) t rfl rfl rfl
  rw [madeB] at h1
  rw [madeInts, z1] at h2
  rw [z2] at h3
  refine ⟨by omega, by omega, by omega, ?_, ?_, h3.1, h3.2.1, h3.2.2⟩
  · rw [rej0]
    exact (h1.below (below_alloc1 _ _) (by omega)).below (below_alloc1 _ _) (by omega)
  · rw [sh0]
    exact h2.below (below_alloc1 _ _) (by omega)
theorem StO.made2 (w : World) (ps : List GEditStep) (m n c : Nat) (B : Option Addr) (t : TypeId) (hm : m ≤ 15) :
    StO (((w.alloc (.cells (madeCells #[.int .i64 0] m) 3)).alloc (.cells (madeCells #[.bool false] m) 4)).alloc (.cells #[.slice (some ⟨w.heap.size + 1, 0, none⟩) m m, .slice (some ⟨w.heap.size, 0, none⟩) m m, .slice B n c] t)) m ps [] B n c (w.heap.size + 1) w.heap.size (w.heap.size + 2) := by
  have z1 : (w.alloc (.cells (madeCells #[.int .i64 0] m) 3)).heap.size = w.heap.size + 1 := by simp
  have z2 : ((w.alloc (.cells (madeCells #[.int .i64 0] m) 3)).alloc (.cells (madeCells #[.bool false] m) 4)).heap.size = w.heap.size + 2 := by simp
  have h1 := own_make (w := w) 3 (madeCells #[.int .i64 0] m) m (by omega) (size_made _ _)
  have h2 := own_make (w := w.alloc (.cells (madeCells #[.int .i64 0] m) 3)) 4 (madeCells #[.bool false] m) m (by omega) (size_made _ _)
  have h3 := three_cells ((w.alloc (.cells (madeCells #[.int .i64 0] m) 3)).alloc (.cells (madeCells #[.bool false] m) 4)) (.slice (some ⟨w.heap.size + 1, 0, none⟩) m m) (.slice (some ⟨w.heap.size, 0, none⟩) m m) (.slice B n c) t rfl rfl rfl
  rw [madeInts] at h1
  rw [madeB, z1] at h2
  rw [z2] at h3
  refine ⟨by omega, by omega, by omega, ?_, ?_, h3.1, h3.2.1, h3.2.2⟩
  · rw [rej0]
    exact h2.below (below_alloc1 _ _) (by omega)
  · rw [sh0]
    exact (h1.below (below_alloc1 _ _) (by omega)).below (below_alloc1 _ _) (by omega)

set_option maxHeartbeats 4000000 in
set_option maxRecDepth 100000 in
theorem stateOf_any {A B : Option Addr} {c c' lo hi lo' hi' : Nat} {m : Nat} {ps : List GEditStep} {l : List Nat} {w : World} (hr : RdE w lo hi A ps) (hh : hi ≤ w.heap.size) (hv : RdI w lo' hi' B (natL l)) (hh' : hi' ≤ w.heap.size)
    (hm : 1 ≤ m ∧ m ≤ 15) (hl : ps.length ≤ 2097152) (hll : l.length ≤ 20) (hi0 : ∀ i ∈ l, i < ps.length) (hf : ∀ i ∈ l, formB m (gE ps i) = true) (hnd : ∀ i ∈ l, (gE ps i).kd ≠ 3) :
    Calls Try.prog 58 #[.int .i64 (m : Int), .slice A ps.length c, .slice B l.length c'] w fun e w' => ∃ r s g, e = .returned (.pointer (some ⟨g, 0, none⟩)) ∧ StO w' m ps l B l.length c' r s g ∧ w.heap.size ≤ r ∧ w.heap.size ≤ s ∧ w.heap.size ≤ g ∧ Below w.heap.size w w' := by
  obtain ⟨ib, hib, hbz0, hbz1, hbz2⟩ := info_parts bool_info
  obtain ⟨ii, hii, hiz0, hiz1, hiz2⟩ := info_parts int_info
  have HI0 := Lib.hid hi0
  have HF := Lib.hid hf
  have HND := Lib.hid hnd
  have M1 := Lib.hid (fun W => StO.made1 W ps m l.length c' B 63 hm.2)
  have M2 := Lib.hid (fun W => StO.made2 W ps m l.length c' B 63 hm.2)
  clear hi0 hf hnd
  have hnl := natL_len l
  have HNL := Lib.hid hnl
  clear hnl
  go_enter Try.func58, Try.ntmps58
  go_upto_region 1 with fail
  go_cut [7] (fun s7 wx => ∃ r s g, s7 = .pointer (some ⟨g, 0, none⟩) ∧ StO wx m ps [] B l.length c' r s g ∧ w.heap.size ≤ r ∧ w.heap.size ≤ s ∧ w.heap.size ≤ g ∧ Below w.heap.size w wx)
  case first => as_aux_lemma =>
    have r1 : ∀ W : World, Sem.run Try.prog (Instr.makeSlice 52 (.int .i64 (m : Int)) (.int .i64 (m : Int))) W = .ok (.slice (some ⟨W.heap.size, 0, none⟩) m m) (W.alloc (.cells (madeCells #[.bool false] m) 4)) := fun W => run_make_row _ _ ib _ Try.underlying52 hib hbz0 hbz1 rfl .i64 .i64 m (by rw [hbz2]; omega) (by omega) W
    have r2 : ∀ W : World, Sem.run Try.prog (Instr.makeSlice 31 (.int .i64 (m : Int)) (.int .i64 (m : Int))) W = .ok (.slice (some ⟨W.heap.size, 0, none⟩) m m) (W.alloc (.cells (madeCells #[.int .i64 0] m) 3)) := fun W => run_make_row _ _ ii _ Try.underlying31 hii hiz0 hiz1 rfl .i64 .i64 m (by rw [hiz2]; omega) (by omega) W
    go_region
    all_goals
      go_wp2_with fail
      go_meet
      first
        | exact ⟨_, _, _, rfl, (M1.out w).drew, by omega, by omega, by omega, ((((Below.refl _ _).alloc (Nat.le_refl _) _).alloc (by simp) _).alloc (by simp; omega) _).drew⟩
        | exact ⟨_, _, _, rfl, (M2.out w).drew, by omega, by omega, by omega, ((((Below.refl _ _).alloc (Nat.le_refl _) _).alloc (by simp) _).alloc (by simp; omega) _).drew⟩
  case rest => as_aux_lemma =>
    obtain ⟨r, s, g, rfl, ST0, gr, gs, gg, hb0⟩ := hcut
    go_wp2_with fail
    go_loopw [20] (fun i wr => ∃ j : Nat, j ≤ l.length ∧ i = .int .i64 j ∧ StO wr m ps (l.take j) B l.length c' r s g ∧ Below w.heap.size w wr) (fun i _ => l.length - (intOf i).toNat)
    case atStart => exact ⟨0, Nat.zero_le _, rfl, by simpa using ST0, hb0⟩
    case round => as_aux_lemma =>
      clear ST0 hb0
      obtain ⟨j, hj, rfl, ST, hb⟩ := hrel
      by_cases hlt : j < l.length
      rotate_left
      · have e : l.take j = l := List.take_of_length_le (by omega)
        rw [e] at ST
        go_wp2_with fail
        go_ret
        exact ⟨r, s, g, rfl, ST, gr, gs, gg, hb⟩
      obtain ⟨b', off', x, rfl, hx, hcell⟩ := (hv.below hb hh').geti (k := j) (by rw [HNL.out]; exact hlt)
      obtain ⟨i, rfl, hi⟩ := natL_get hx
      have him := List.mem_of_getElem? hi
      have hik := HI0.out i him
      obtain ⟨b, off, q, rfl, _, hbl, hq, c0, c1, c2, c3⟩ := (hr.below hb hh).getEditStep hik
      have hgi := gE_of hq
      have hfm := HF.out i him
      rw [hgi] at hfm
      have hmr := form_mk hfm
      have hsh := kind_sh (form_kind hfm)
      have HTK := Lib.hid (take_nat hi)
      have HIX := Lib.hid hi
      have hk3 := kind_kd (form_kind hfm)
      obtain ⟨kd, mr, sh, rs⟩ := q
      simp only at c0 c1 c2 c3 hmr hsh hk3
      obtain ⟨j0, rfl⟩ : ∃ j0 : Nat, mr = (j0 : Int) := ⟨mr.toNat, by omega⟩
      have HG := Lib.hid hgi
      have hj0 : j0 < m := by omega
      have q1 : (i : Int) < (ps.length : Int) := by omega
      have q2 : (j : Int) < (l.length : Int) := by omega
      have q3 : (j0 : Int) < (m : Int) := by omega
      have ST' := ST.alloc (.cells #[.int .i64 kd, .int .i64 (j0 : Int), .int .i64 sh, .string rs] 42)
      have hb' := hb.trans ((below_alloc1 wr (.cells #[.int .i64 kd, .int .i64 (j0 : Int), .int .i64 sh, .string rs] 42)).mono hb.size)
      obtain ⟨k0, k1, k2, k3⟩ := Holds4.new wr ⟨kd, (j0 : Int), sh, rs⟩ 42
      simp only at k0 k1 k2 k3
      have hst0 := ST'.c0
      have hst1 := ST'.c1
      clear hgi hq hx hi him hfm hmr ST hb
      have hkd : kd = 0 ∨ kd = 1 ∨ kd = 2 ∨ kd = 3 := hk3
      clear hk3
      by_cases h2 : kd = 2
      · subst h2
        obtain ⟨S, hS⟩ : ∃ S, shiftE ps (j0 : Int) (l.take j) = S := ⟨_, rfl⟩
        have hSb := shiftE_bound (ps := ps) (mark := (j0 : Int)) (l.take j) (fun x hx => kind_sh (form_kind (HF.out x (List.mem_of_mem_take hx))))
        rw [hS] at hSb
        have htl : (l.take j).length ≤ 20 := Nat.le_trans (List.length_take_le _ _) (by omega)
        have hu := (ST'.o2.1.cellAt j0 (by omega)).trans (shL_get hj0)
        rw [hS] at hu
        have hfr : (wr.alloc (.cells #[.int .i64 2, .int .i64 (j0 : Int), .int .i64 sh, .string rs] 42)).frozen? ⟨s, j0, none⟩ = false := ST'.o2.frozen j0
        have HSET := Lib.hid (shL_set (ps := ps) (m := m) (l := l.take j) HG.out rfl)
        rw [hS] at HSET
        have HSAME := Lib.hid (rejL_same (ps := ps) (m := m) (l := l.take j) HG.out rfl)
        clear hS
        go_wp2_with fail
        generalize wr.alloc (.cells #[.int .i64 2, .int .i64 (j0 : Int), .int .i64 sh, .string rs] 42) = wr' at ST' hb' k0 k1 k2 k3 hst0 hst1 hu hfr ⊢
        have hu0 := hu
        have q4 : IntKind.i64.wrap (S + sh) = S + sh := wr64 (by omega) (by omega)
        refine wp_region_still_tail 12 (by kernel_rfl) (by kernel_rfl) ?_
        simp only [List.take_succ_cons, List.take_zero, List.drop_succ_cons, List.drop_zero]
        repeat still_step
        refine wpStill_nil ?_
        change wpList _ _ _ _ _ wr'.drew
        generalize hwx : wr'.drew = wx
        have SX := ST'.drew
        rw [hwx] at SX
        have bx : Below w.heap.size w wx := by rw [← hwx]; exact hb'.drew
        have hux : wx.cell? ⟨s, j0, none⟩ = some (.int .i64 S) := by rw [← hwx]; exact hu
        have hfx : wx.frozen? ⟨s, j0, none⟩ = false := by rw [← hwx]; exact hfr
        clear hwx hu hu0 hfr ST' hb' hst0 hst1 k0 k1 k2 k3 q4
        go_wp2_with fail
        go_roundw
        case rel => exact ⟨j + 1, by omega, by go_num, by rw [HTK.out]; exact SX.set2 HSET.out HSAME.out, bx.setCell gs _⟩
        case measure => simp [intOf]; omega
      obtain ⟨u, hu⟩ : ∃ u, (wr.alloc (.cells #[.int .i64 kd, .int .i64 (j0 : Int), .int .i64 sh, .string rs] 42)).cell? ⟨r, j0, none⟩ = some u :=
        ⟨_, (ST'.o1.1.cellAt j0 (by omega)).trans (List.getElem?_eq_getElem (show j0 < (bls (rejL ps m (l.take j))).length by simp [rejL_length]; omega))⟩
      have hfr : (wr.alloc (.cells #[.int .i64 kd, .int .i64 (j0 : Int), .int .i64 sh, .string rs] 42)).frozen? ⟨r, j0, none⟩ = false := ST'.o1.frozen j0
      have HSAME := Lib.hid (shL_same (ps := ps) (m := m) (l := l.take j) HG.out h2)
      by_cases h0 : kd = 0
      · subst h0
        have HSET := Lib.hid (rejL_set (ps := ps) (m := m) (l := l.take j) (b := true) HG.out h2 rfl)
        clear h2 hkd
        go_wp2_with fail
        generalize wr.alloc (.cells #[.int .i64 0, .int .i64 (j0 : Int), .int .i64 sh, .string rs] 42) = wr' at ST' hb' k0 k1 k2 k3 hst0 hst1 hu hfr ⊢
        refine wp_region_still_tail 7 (by kernel_rfl) (by kernel_rfl) ?_
        simp only [List.take_succ_cons, List.take_zero, List.drop_succ_cons, List.drop_zero]
        repeat still_step
        refine wpStill_nil ?_
        change wpList _ _ _ _ _ wr'.drew
        generalize hwx : wr'.drew = wx
        have SX := ST'.drew
        rw [hwx] at SX
        have bx : Below w.heap.size w wx := by rw [← hwx]; exact hb'.drew
        have hux : wx.cell? ⟨r, j0, none⟩ = some u := by rw [← hwx]; exact hu
        have hfx : wx.frozen? ⟨r, j0, none⟩ = false := by rw [← hwx]; exact hfr
        clear hwx hu hfr ST' hb' hst0 hst1 k0 k1 k2 k3
        go_wp2_with fail
        go_roundw
        case rel => exact ⟨j + 1, by omega, by go_num, by rw [HTK.out]; exact SX.set1 HSET.out HSAME.out, bx.setCell gr _⟩
        case measure => simp [intOf]; omega
      by_cases h1 : kd = 1
      · subst h1
        have HSET := Lib.hid (rejL_set (ps := ps) (m := m) (l := l.take j) (b := false) HG.out h2 rfl)
        clear h2 h0 hkd
        go_wp2_with fail
        generalize wr.alloc (.cells #[.int .i64 1, .int .i64 (j0 : Int), .int .i64 sh, .string rs] 42) = wr' at ST' hb' k0 k1 k2 k3 hst0 hst1 hu hfr ⊢
        refine wp_region_still_tail 7 (by kernel_rfl) (by kernel_rfl) ?_
        simp only [List.take_succ_cons, List.take_zero, List.drop_succ_cons, List.drop_zero]
        repeat still_step
        refine wpStill_nil ?_
        change wpList _ _ _ _ _ wr'.drew
        generalize hwx : wr'.drew = wx
        have SX := ST'.drew
        rw [hwx] at SX
        have bx : Below w.heap.size w wx := by rw [← hwx]; exact hb'.drew
        have hux : wx.cell? ⟨r, j0, none⟩ = some u := by rw [← hwx]; exact hu
        have hfx : wx.frozen? ⟨r, j0, none⟩ = false := by rw [← hwx]; exact hfr
        clear hwx hu hfr ST' hb' hst0 hst1 k0 k1 k2 k3
        go_wp2_with fail
        go_roundw
        case rel => exact ⟨j + 1, by omega, by go_num, by rw [HTK.out]; exact SX.set1 HSET.out HSAME.out, bx.setCell gr _⟩
        case measure => simp [intOf]; omega
      · exact absurd (HND.out i (List.mem_of_getElem? HIX.out)) (by rw [HG.out]; simp; omega)

end Go.Proofs.Ytdcbgahfbcemnaa
