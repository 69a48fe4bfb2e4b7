/-
  This file proves contracts of small functions of the program and of the reference: range tests, copies of integer lists, the comparison and the marking of integer lists.
  Conditions: each contract's own hypotheses (that a slice reads as a list; that it is short enough for its counter).
-/
import Derived.Test.YtnljjocoloijfaaMem
namespace Go.Proofs.Ytnljjocoloijfaa
open Go.RowKit
set_option linter.unusedSimpArgs false
set_option linter.unusedVariables false

/-- 'a lies between lo and hi', as Go's test has it. -/
def inR (n lo hi : Int) : Bool := decide (lo ≤ n) && decide (n ≤ hi)
theorem inR_true {n lo hi : Int} : inR n lo hi = true ↔ lo ≤ n ∧ n ≤ hi := by simp [inR]
theorem inR_false {n lo hi : Int} : inR n lo hi = false ↔ ¬ (lo ≤ n ∧ n ≤ hi) := by rw [← Bool.not_eq_true, inR_true]

theorem ret_bool {a b : Bool} (h : a = b) : Ending.returned (.bool a) = .returned (.bool b) := by rw [h]
theorem ret_int {a b : Int} (h : a = b) : Ending.returned (.int .i64 a) = .returned (.int .i64 b) := by rw [h]

theorem inside_any (n lo hi : Int) (w : World) : Calls Try.prog 49 #[.int .i64 n, .int .i64 lo, .int .i64 hi] w fun e w' => e = .returned (.bool (inR n lo hi)) ∧ w = w' := by
  by_cases h1 : lo ≤ n
  · go_enter Try.func49, Try.ntmps49
    go_wp2
    go_ret
    exact ⟨ret_bool (by simp [inR, h1]), rfl⟩
  · go_enter Try.func49, Try.ntmps49
    go_wp2
    go_ret
    exact ⟨ret_bool (by simp [inR]; omega), rfl⟩

theorem l1In_any (n lo hi : Int) (w : World) : Calls Try.prog 36 #[.int .i64 n, .int .i64 lo, .int .i64 hi] w fun e w' => e = .returned (.bool (inR n lo hi)) ∧ w = w' := by
  by_cases h1 : lo ≤ n
  · go_enter Try.func36, Try.ntmps36
    go_wp2
    go_ret
    exact ⟨ret_bool (by simp [inR, h1]), rfl⟩
  · go_enter Try.func36, Try.ntmps36
    go_wp2
    go_ret
    exact ⟨ret_bool (by simp [inR]; omega), rfl⟩

/-- All elements are depths. -/
def allDepth (xs : List Int) : Bool := xs.all fun x => inR x (-1000) 20000

theorem take_snoc {xs : List Int} {k : Nat} {x : Int} (h : xs[k]? = some x) : xs.take (k + 1) = xs.take k ++ [x] := by rw [List.take_add_one, h]; rfl
theorem take_all {xs : List Int} {k : Nat} (hk : ¬ k < xs.length) : xs.take k = xs := List.take_of_length_le (by omega)

theorem allDepth_step {xs : List Int} {k : Nat} {x : Int} (hx : xs[k]? = some x) (h : allDepth (xs.take k) = true) (hd : inR x (-1000) 20000 = true) : allDepth (xs.take (k + 1)) = true := by
  rw [take_snoc hx]
  unfold allDepth at h ⊢
  rw [List.all_append, h]
  simpa using hd
theorem allDepth_bad {xs : List Int} {k : Nat} {x : Int} (hx : xs[k]? = some x) (hd : inR x (-1000) 20000 = false) : allDepth xs = false := by
  unfold allDepth
  rw [List.all_eq_false]
  exact ⟨x, List.mem_of_getElem? hx, by rw [hd]; simp⟩

theorem int_info : (Try.prog.info? 3).map (fun i => (i.zero, i.size, i.bytes)) = some (some (.int .i64 0), 1, 8) := by kernel_rfl

/-- What the exported functions leave: their results; new lists lie in new memory; nothing that was there has turned. -/
def RetB (b : Bool) (w : World) (e : Ending) (w' : World) : Prop := e = .returned (.bool b) ∧ Below w.heap.size w w'
def RetIB (n : Int) (b : Bool) (w : World) (e : Ending) (w' : World) : Prop := e = .returned (.tuple #[.int .i64 n, .bool b]) ∧ Below w.heap.size w w'
def RetIIB (n m : Int) (b : Bool) (w : World) (e : Ending) (w' : World) : Prop := e = .returned (.tuple #[.int .i64 n, .int .i64 m, .bool b]) ∧ Below w.heap.size w w'
def RetLB (xs : List Int) (b : Bool) (w : World) (e : Ending) (w' : World) : Prop :=
  ∃ A c, e = .returned (.tuple #[.slice A xs.length c, .bool b]) ∧ OwnI w' 3 w.heap.size w'.heap.size A c xs ∧ Below w.heap.size w w'
def RetLIB (xs : List Int) (n : Int) (b : Bool) (w : World) (e : Ending) (w' : World) : Prop :=
  ∃ A c, e = .returned (.tuple #[.slice A xs.length c, .int .i64 n, .bool b]) ∧ OwnI w' 3 w.heap.size w'.heap.size A c xs ∧ Below w.heap.size w w'
def RetLL (xs ys : List Int) (w : World) (e : Ending) (w' : World) : Prop :=
  ∃ A c B d l1 h1 l2 h2, e = .returned (.tuple #[.slice A xs.length c, .slice B ys.length d]) ∧ OwnI w' 3 l1 h1 A c xs ∧ OwnI w' 3 l2 h2 B d ys ∧
    w.heap.size ≤ l1 ∧ l1 ≤ h1 ∧ h1 ≤ w'.heap.size ∧ w.heap.size ≤ l2 ∧ l2 ≤ h2 ∧ h2 ≤ w'.heap.size ∧ (h1 ≤ l2 ∨ h2 ≤ l1) ∧ Below w.heap.size w w'
def RetLLB (xs ys : List Int) (b : Bool) (w : World) (e : Ending) (w' : World) : Prop :=
  ∃ A c B d l1 h1 l2 h2, e = .returned (.tuple #[.slice A xs.length c, .slice B ys.length d, .bool b]) ∧ OwnI w' 3 l1 h1 A c xs ∧ OwnI w' 3 l2 h2 B d ys ∧
    w.heap.size ≤ l1 ∧ l1 ≤ h1 ∧ h1 ≤ w'.heap.size ∧ w.heap.size ≤ l2 ∧ l2 ≤ h2 ∧ h2 ≤ w'.heap.size ∧ (h1 ≤ l2 ∨ h2 ≤ l1) ∧ Below w.heap.size w w'

theorem own_nil (w : World) (e : TypeId) (lo hi : Nat) : OwnI w e lo hi none 0 [] := ⟨World.ownsRow_nil w lo e 1, fun a ha => by cases ha⟩
theorem ints_nil : ints [] = [] := rfl
theorem row_empty (w : World) (e : TypeId) (size : Nat) : (w.alloc (.cells #[] e)).ownsRow w.heap.size e size (.slice (some ⟨w.heap.size, 0, none⟩) 0 0) 0 [] :=
  World.ownsRow_made w #[] 0 (Nat.le_refl _) (by unfold maxLen; omega) (by simp)
theorem row_empty_at {base : Nat} (w : World) (e : TypeId) (size : Nat) (h : base ≤ w.heap.size) : (w.alloc (.cells #[] e)).ownsRow base e size (.slice (some ⟨w.heap.size, 0, none⟩) 0 0) 0 [] :=
  World.ownsRow_made w #[] 0 h (by unfold maxLen; omega) (by simp)
theorem below_alloc1 (w : World) (o : Obj) : Below w.heap.size w (w.alloc o) := (Below.refl _ _).alloc (Nat.le_refl _) _
theorem retLB_nil (b : Bool) (w w' : World) (hb : Below w.heap.size w w') : RetLB [] b w (.returned (.tuple #[.slice none 0 0, .bool b])) w' := ⟨none, 0, rfl, own_nil _ _ _ _, hb⟩
theorem retLB_of {xs : List Int} {b : Bool} {w w' : World} {v : Value} (h : w'.ownsRow w.heap.size 3 1 v xs.length (ints xs)) (hb : Below w.heap.size w w') : RetLB xs b w (.returned (.tuple #[v, .bool b])) w' := by
  obtain ⟨A, c, rfl, ho⟩ := Own.of_row h
  exact ⟨A, c, rfl, ho, hb⟩
theorem retLIB_of {xs : List Int} {n : Int} {b : Bool} {w w' : World} {v : Value} (h : w'.ownsRow w.heap.size 3 1 v xs.length (ints xs)) (hb : Below w.heap.size w w') : RetLIB xs n b w (.returned (.tuple #[v, .int .i64 n, .bool b])) w' := by
  obtain ⟨A, c, rfl, ho⟩ := Own.of_row h
  exact ⟨A, c, rfl, ho, hb⟩
theorem retInts_of {xs : List Int} {w w' : World} {v : Value} (h : w'.ownsRow w.heap.size 3 1 v xs.length (ints xs)) (hb : Below w.heap.size w w') :
    ∃ A c, Ending.returned v = .returned (.slice A xs.length c) ∧ OwnI w' 3 w.heap.size w'.heap.size A c xs ∧ Below w.heap.size w w' := by
  obtain ⟨A, c, rfl, ho⟩ := Own.of_row h
  exact ⟨A, c, rfl, ho, hb⟩

theorem one_int (x : Int) : ∀ u ∈ [Value.int .i64 x], u.oneCell' = true := by
  intro u hu
  simp at hu
  subst hu
  rfl
theorem ints_one (xs : List Int) : ∀ u ∈ ints xs, u.oneCell' = true := ints_oneCell _ _
theorem push_rel {w : World} {base : Nat} {e : TypeId} {v : Value} {F F' : List Int} {x : Int} (he : F' = F ++ [x]) (h : w.ownsRow base e 1 v (F.length + 1) (ints F ++ [.int .i64 x])) : w.ownsRow base e 1 v F'.length (ints F') := by
  subst he
  have e1 : (F ++ [x]).length = F.length + 1 := by simp
  have e2 : ints (F ++ [x]) = ints F ++ [.int .i64 x] := by simp [ints]
  rw [e1, e2]
  exact h

/-- What a loop gathers: of the first k indices those that pass, each by its value. -/
def gath (p : Nat → Bool) (f : Nat → Int) (k : Nat) : List Int := ((List.range k).filter p).map f
theorem gath_zero (p : Nat → Bool) (f : Nat → Int) : gath p f 0 = [] := rfl
theorem gath_yes {p : Nat → Bool} {f : Nat → Int} {k : Nat} {x : Int} (h : p k = true) (hx : f k = x) : gath p f (k + 1) = gath p f k ++ [x] := by
  unfold gath
  rw [List.range_succ, List.filter_append]
  simp [h, hx]
theorem gath_no {p : Nat → Bool} {f : Nat → Int} {k : Nat} (h : p k = false) : gath p f (k + 1) = gath p f k := by
  unfold gath
  rw [List.range_succ, List.filter_append]
  simp [h]
theorem gath_le (p : Nat → Bool) (f : Nat → Int) (k : Nat) : (gath p f k).length ≤ k := by
  unfold gath
  have h1 := List.length_filter_le p (List.range k)
  rw [List.length_range] at h1
  rw [List.length_map]
  exact h1
theorem getD_of {xs : List Int} {k : Nat} {x : Int} (h : xs[k]? = some x) : xs.getD k 0 = x := by simp [List.getD, h]

theorem allDepth_get {xs : List Int} {k : Nat} {x : Int} (h : allDepth xs = true) (hx : xs[k]? = some x) : -1000 ≤ x ∧ x ≤ 20000 := by
  unfold allDepth at h
  rw [List.all_eq_true] at h
  exact inR_true.1 (h x (List.mem_of_getElem? hx))

/-- The size of a number. -/
def absI (n : Int) : Int := if n < 0 then -n else n
theorem absI_nonneg (n : Int) : 0 ≤ absI n := by unfold absI; split <;> omega
theorem absI_le {n b : Int} (h1 : -b ≤ n) (h2 : n ≤ b) : absI n ≤ b := by unfold absI; split <;> omega

/-- A new list of integers is returned; nothing that was there has turned. -/
def RetInts (xs : List Int) (w : World) (e : Ending) (w' : World) : Prop :=
  ∃ A c, e = .returned (.slice A xs.length c) ∧ OwnI w' 3 w.heap.size w'.heap.size A c xs ∧ Below w.heap.size w w'

theorem set_step {xs zs : List Int} {k n : Nat} {x : Int} (hx : xs[k]? = some x) (hz : zs.length = n - k) (hk : k < n) :
    ∃ zs' : List Int, (ints (xs.take k ++ zs)).set k (.int .i64 x) = ints (xs.take (k + 1) ++ zs') ∧ zs'.length = n - (k + 1) := by
  have hkx : k < xs.length := (List.getElem?_eq_some_iff.1 hx).1
  match zs, hz with
  | [], hz => simp at hz; omega
  | z :: zs', hz =>
    refine ⟨zs', ?_, by simp at hz; omega⟩
    have hl : (ints (xs.take k)).length = k := by simp [ints]; omega
    rw [take_snoc hx, ints, List.map_append, List.set_append_right _ _ (by rw [hl]; exact Nat.le_refl _), hl]
    simp [ints]

theorem madeInts (n : Nat) : (madeCells #[Value.int .i64 0] n).toList = ints (List.replicate n 0) := by
  rw [toList_madeCells_one, ints, List.map_replicate]

set_option maxHeartbeats 400000 in
theorem toIntS_any (A : Option Addr) (c lo hi : Nat) (xs : List Int) (w : World) (hr : RdI w lo hi A xs) (hh : hi ≤ w.heap.size) (hl : xs.length ≤ 4194304) :
    Calls Try.prog 23 #[.slice A xs.length c] w (RetInts xs w) := by
  obtain ⟨i0, hi0, hz0, hz1, hz2⟩ := info_parts int_info
  obtain ⟨N, hN⟩ : ∃ N, N = w.heap.size := ⟨_, rfl⟩
  have HN := Lib.hid hN
  clear hN
  go_enter Try.func23, Try.ntmps23
  go_wp2_with (at_make; refine wpList_make_full _ rfl _ _ 37 rfl w.heap.size 3 i0 (.int .i64 0) 1 Try.underlying37 hi0 hz0 hz1 _ _ _ _ xs.length rfl rfl rfl rfl ?b2 ?b3 (Nat.le_refl _) ?_)
  case b2 => rw [hz2]; omega
  case b3 => unfold maxLen; omega
  intro w1 hown1 hg1
  rw [madeInts] at hown1
  have hb1 : Below w.heap.size w w1 := (Below.refl _ _).grown hg1 (Nat.le_refl _) (fun k h => by cases h)
  rw [← HN.out] at hown1 hb1 ⊢
  have hlt1 : N < w1.heap.size := (hown1.lt N rfl).2
  clear hg1
  go_wp2_with fail
  go_loopw [4] (fun i wr => ∃ (k : Nat) (zs : List Int), k ≤ xs.length ∧ i = .int .i64 k ∧ zs.length = xs.length - k ∧ wr.ownsRow N 3 1 (.slice (some ⟨N, 0, none⟩) xs.length xs.length) xs.length (ints (xs.take k ++ zs)) ∧ Below N w wr ∧ N < wr.heap.size) (fun i _ => xs.length - (intOf i).toNat)
  case atStart => exact ⟨0, List.replicate xs.length 0, Nat.zero_le _, rfl, by simp, by simpa using hown1, hb1, hlt1⟩
  case round =>
    obtain ⟨k, zs, hk, rfl, hz, hown, hb, hlt'⟩ := hrel
    have HZ := Lib.hid hz
    clear hz
    by_cases hlt : k < xs.length
    · obtain ⟨b, off, x, rfl, hx, hcell⟩ := (hr.below hb (by have := HN.out; omega)).geti hlt
      have hfr : wr.frozen? ⟨N, k, none⟩ = false := hown.frozenAt k
      obtain ⟨u, hu⟩ : ∃ u, wr.cell? ⟨N, k, none⟩ = some u := by
        have h1 := hown.cellAt k (by omega)
        have h2 : k < (ints (xs.take k ++ zs)).length := by rw [hown.1]; omega
        exact ⟨_, h1.trans (List.getElem?_eq_getElem h2)⟩
      obtain ⟨zs', hs, hz'⟩ := set_step hx HZ.out hlt
      have hown' := (hown.stored k (.int .i64 x)).1
      rw [hs] at hown'
      have HX := Lib.hid hx
      have HS := Lib.hid hs
      have HZ' := Lib.hid hz'
      clear hx hs hz'
      go_wp2
      go_roundw
      case rel => exact ⟨k + 1, zs', by omega, by go_num, HZ'.out, hown', hb.setCell (Nat.le_refl _) _, by simpa [World.setCell] using hlt'⟩
      case measure => simp [intOf]; omega
    · go_wp2
      go_ret
      have e : xs.take k ++ zs = xs := by
        have hz0 : zs = [] := List.eq_nil_of_length_eq_zero (by rw [HZ.out]; omega)
        rw [take_all hlt, hz0, List.append_nil]
      rw [e] at hown
      have hN' := HN.out
      exact ⟨some ⟨N, 0, none⟩, xs.length, rfl, ⟨by rw [← hN']; exact hown, fun a ha => by cases ha; exact hlt'⟩, by rw [← hN']; exact hb⟩

/-- The marks that the laws write: k, k + 1, .. -/
def marks (k : Int) : Nat → List Int
  | 0 => []
  | n + 1 => marks k n ++ [k + n]
theorem marks_length (k : Int) (n : Nat) : (marks k n).length = n := by
  induction n with
  | zero => rfl
  | succ n ih => simp [marks, ih]
theorem marks_get (k : Int) (n j : Nat) (hj : j < n) : (marks k n)[j]? = some (k + j) := by
  induction n with
  | zero => omega
  | succ n ih =>
    rw [marks]
    rcases Nat.lt_or_ge j n with h | h
    · rw [List.getElem?_append_left (by rw [marks_length]; exact h)]
      exact ih h
    · have : j = n := by omega
      subst this
      rw [List.getElem?_append_right (by rw [marks_length]; exact Nat.le_refl _), marks_length]
      simp
theorem mark_step {xs : List Int} {k : Int} {j : Nat} (hj : j < xs.length) :
    (ints (marks k j ++ xs.drop j)).set j (.int .i64 (k + j)) = ints (marks k (j + 1) ++ xs.drop (j + 1)) := by
  have hl : (ints (marks k j)).length = j := by simp [ints, marks_length]
  have hd : xs.drop j = xs[j] :: xs.drop (j + 1) := List.drop_eq_getElem_cons hj
  have e : ints (marks k j ++ xs.drop j) = ints (marks k j) ++ (Value.int .i64 xs[j] :: ints (xs.drop (j + 1))) := by rw [hd]; simp only [ints, List.map_append, List.map_cons]
  rw [e, List.set_append_right _ _ (by rw [hl]; exact Nat.le_refl _), hl, Nat.sub_self, List.set_cons_zero]
  simp only [ints, marks, List.map_append, List.map_cons, List.map_nil, List.append_assoc, List.cons_append, List.nil_append]

/-- A list is marked in place: the result is the next mark. -/
def RetMark (e1 : TypeId) (k : Int) (lo hi : Nat) (A : Option Addr) (c n : Nat) (w : World) (e : Ending) (w' : World) : Prop :=
  e = .returned (.int .i64 (k + n)) ∧ Own w' e1 lo hi 1 A n c (ints (marks k n)) ∧ Only lo hi w w' ∧ w'.heap.size ≤ w.heap.size

set_option maxHeartbeats 400000 in
theorem markIntS_any (A : Option Addr) (c lo hi : Nat) (xs : List Int) (k : Int) (w : World) (ho : OwnI w 3 lo hi A c xs) (h0 : 0 ≤ k) (h1 : k ≤ 1000000000000) (hl : xs.length ≤ 1099511627776) :
    Calls Try.prog 27 #[.slice A xs.length c, .int .i64 k] w (RetMark 3 k lo hi A c xs.length w) := by
  go_enter Try.func27, Try.ntmps27
  go_wp2_with fail
  go_loopw [1, 5] (fun t i wr => ∃ j : Nat, j ≤ xs.length ∧ i = .int .i64 j ∧ t = .int .i64 (k + j) ∧ Own wr 3 lo hi 1 A xs.length c (ints (marks k j ++ xs.drop j)) ∧ Only lo hi w wr ∧ wr.heap.size = w.heap.size) (fun _ i _ => xs.length - (intOf i).toNat)
  case atStart => exact ⟨0, Nat.zero_le _, rfl, by simp, by simpa [marks] using ho, Only.refl _ _ _, rfl⟩
  case round =>
    obtain ⟨j, hj, rfl, rfl, hown, honly, hsz⟩ := hrel
    have HZ := Lib.hid hsz
    clear hsz
    by_cases hlt : j < xs.length
    · obtain ⟨g, rfl, hg1, hg2⟩ := hown.length_pos (by omega)
      have hfr : wr.frozen? ⟨g, j, none⟩ = false := hown.frozen j
      obtain ⟨u, hu⟩ : ∃ u, wr.cell? ⟨g, j, none⟩ = some u := by
        have e1 := hown.1.cellAt j (by omega)
        have e2 : j < (ints (marks k j ++ xs.drop j)).length := by rw [hown.length]; omega
        exact ⟨_, e1.trans (List.getElem?_eq_getElem e2)⟩
      have hown' := hown.store j (.int .i64 (k + j))
      rw [mark_step hlt] at hown'
      go_wp2
      go_roundw
      case rel => exact ⟨j + 1, by omega, by go_num, by go_num, hown', honly.setCell hg1 hg2 _, by simpa [World.setCell] using HZ.out⟩
      case measure => simp [intOf]; omega
    · obtain rfl : j = xs.length := by omega
      go_wp2
      go_ret
      exact ⟨rfl, by simpa using hown, honly, Nat.le_of_eq HZ.out⟩

set_option maxHeartbeats 400000 in
theorem heldIntS_any (A : Option Addr) (c lo hi n : Nat) (k : Int) (w : World) (hr : Rd w lo hi 1 A n (ints (marks k n))) (h0 : 0 ≤ k) (h1 : k ≤ 1000000000000) (hl : n ≤ 1099511627776) :
    Calls Try.prog 28 #[.slice A n c, .int .i64 k] w fun e w' => e = .returned (.int .i64 (k + n)) ∧ w = w' := by
  go_enter Try.func28, Try.ntmps28
  go_wp2_with fail
  go_loop [1, 5] (fun t i => ∃ j : Nat, j ≤ n ∧ i = .int .i64 j ∧ t = .int .i64 (k + j)) (fun _ i => n - (intOf i).toNat)
  case atStart => exact ⟨0, Nat.zero_le _, rfl, by simp⟩
  case round =>
    obtain ⟨j, hj, rfl, rfl⟩ := hrel
    by_cases hlt : j < n
    · obtain ⟨b, off, rfl, _, _, hc⟩ := hr.2 (by omega)
      have hcell : w.cell? ⟨b, off + j, none⟩ = some (.int .i64 (k + j)) := hc j _ (by rw [ints, List.getElem?_map, marks_get k n j hlt]; rfl)
      clear hc
      go_wp2
      go_round
      case rel => exact ⟨j + 1, by omega, by go_num, by go_num⟩
      case measure => simp [intOf]; omega
    · obtain rfl : j = n := by omega
      go_wp2
      go_ret
      exact ⟨rfl, rfl⟩

set_option maxHeartbeats 400000 in
theorem eqIntS_same (A B : Option Addr) (c d lo hi lo' hi' : Nat) (xs : List Int) (w : World) (ha : RdI w lo hi A xs) (hb : RdI w lo' hi' B xs) (hl : xs.length ≤ 4611686018427387904) :
    Calls Try.prog 25 #[.slice A xs.length c, .slice B xs.length d] w fun e w' => e = .returned (.bool true) ∧ ∃ n, w.drewN n = w' := by
  go_enter Try.func25, Try.ntmps25
  go_wp2_with fail
  go_loopw [5] (fun i wr => ∃ k n : Nat, k ≤ xs.length ∧ i = .int .i64 k ∧ w.drewN n = wr) (fun i _ => xs.length - (intOf i).toNat)
  case atStart => exact ⟨0, 0, Nat.zero_le _, rfl, rfl⟩
  case round =>
    obtain ⟨k, n, hk, rfl, rfl⟩ := hrel
    by_cases hlt : k < xs.length
    · obtain ⟨b, off, x, rfl, hx, hcell⟩ := ha.geti hlt
      obtain ⟨b', off', x', rfl, hx', hcell'⟩ := hb.geti hlt
      obtain rfl : x = x' := by rw [hx] at hx'; injection hx'
      clear hx hx'
      go_wp2
      go_quiet (fail)
      go_wp2
      go_roundw
      case rel => exact ⟨k + 1, _, by omega, by go_num, rfl⟩
      case measure => simp [intOf]; omega
    · go_wp2
      go_ret
      exact ⟨rfl, n, rfl⟩

end Go.Proofs.Ytnljjocoloijfaa
