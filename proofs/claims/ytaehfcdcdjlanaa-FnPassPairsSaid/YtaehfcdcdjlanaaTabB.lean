/-
  This file proves contracts of OppositeOn, of the program and of the reference.
  Conditions: that the slice reads as a list of passes, that it is not too long.
-/
import Derived.Test.YtaehfcdcdjlanaaTabA
import Derived.Test.YtaehfcdcdjlanaaPassD
import Derived.Test.YtaehfcdcdjlanaaPushAt
namespace Go.Proofs.Ytaehfcdcdjlanaa
open Go.RowKit
set_option linter.unusedSimpArgs false
set_option linter.unusedVariables false

theorem info_row : (Try.prog.info? 25).map (fun i => (i.zero, i.size, i.bytes)) = some (some (.slice none 0 0), 1, 24) := by kernel_rfl
theorem row_two (w : World) (a b : Int) : OwnI (w.alloc (.cells #[.int .i64 a, .int .i64 b] 3)) 3 w.heap.size (w.heap.size + 1) (some ⟨w.heap.size, 0, none⟩) 2 [a, b] :=
  ⟨⟨rfl, .inr ⟨w.heap.size, 2, #[.int .i64 a, .int .i64 b], rfl, Nat.le_refl _, heap_alloc_new w _, Nat.le_refl _, by unfold maxLen; omega, rfl, rfl⟩⟩, fun x hx => by cases hx; simp⟩
theorem row_twog (w : World) (g : Nat) (a b : Int) (hg : g = w.heap.size) : OwnI (w.alloc (.cells #[.int .i64 a, .int .i64 b] 3)) 3 g (g + 1) (some ⟨g, 0, none⟩) 2 [a, b] := by
  subst hg
  exact row_two w a b
/-- A row is appended: the new row lies in the block that w had not yet. -/
theorem TabG.push {w w7 : World} {lo hi n c : Nat} {A : Option Addr} {T : List (Int × Int)} {gs : List Nat} {v7 : Value} {a b : Int} (h : TabG w lo hi A n c T gs) (hh : hi ≤ w.heap.size) (hlo : lo ≤ w.heap.size)
    (hown : w7.ownsRow lo 25 1 v7 (n + 1) (rowsV gs ++ [.slice (some ⟨w.heap.size, 0, none⟩) 2 2])) (hs : w.heap.size + 1 ≤ w7.heap.size)
    (hv : v7.ownBlock = (Value.slice A n c).ownBlock ∨ ∃ g, v7.ownBlock = some g ∧ w.heap.size + 1 ≤ g)
    (hk : ∀ k, k < w.heap.size + 1 → (Value.slice A n c).ownBlock ≠ some k → w7.heap[k]? = (w.alloc (.cells #[.int .i64 a, .int .i64 b] 3)).heap[k]?) :
    ∃ A' c', v7 = .slice A' (n + 1) c' ∧ TabG w7 lo w7.heap.size A' (n + 1) c' (T ++ [(a, b)]) (gs ++ [w.heap.size]) ∧ (∀ k, k < w.heap.size → (∀ x, A = some x → x.block ≠ k) → w7.heap[k]? = w.heap[k]? ∧ ∀ x, A' = some x → x.block ≠ k) := by
  obtain ⟨A', c', rfl, ho⟩ := Own.of_row hown
  have hA : ∀ k, (∀ x, A = some x → x.block ≠ k) → (Value.slice A n c).ownBlock ≠ some k := fun k hx => by
    rcases A with _ | x
    · intro e; cases e
    · intro e; exact hx x rfl (by injection e)
  have hA2 : ∀ x, A = some x → x.block < w.heap.size := fun x hx => by have := h.out.2 x hx; omega
  have hA' : ∀ x, A' = some x → (∃ y, A = some y ∧ y.block = x.block) ∨ w.heap.size + 1 ≤ x.block := fun x hx => by
    subst hx
    rcases hv with hv | ⟨g, hv, hg⟩
    · left
      rcases A with _ | y
      · cases hv
      · exact ⟨y, rfl, by injection hv with hv; exact hv.symm⟩
    · right
      injection hv with hv
      have hv' : x.block = g := hv
      omega
  refine ⟨A', c', rfl, ⟨?_, by rw [List.length_append, h.lt]; rfl, by rw [List.length_append, h.lg]; rfl, fun i g p hg hp => ?_, ?_, fun x hx => ?_⟩, fun k hk1 hk2 => ⟨?_, fun x hx => ?_⟩⟩
  · rw [show rowsV (gs ++ [w.heap.size]) = rowsV gs ++ [.slice (some ⟨w.heap.size, 0, none⟩) 2 2] from by simp [rowsV]]
    exact ho
  · rcases Nat.lt_or_ge i n with hi' | hi'
    · rw [List.getElem?_append_left (by rw [h.lg]; exact hi')] at hg
      rw [List.getElem?_append_left (by rw [h.lt]; exact hi')] at hp
      obtain ⟨a1, a2, a3⟩ := h.inn i g p hg hp
      refine ⟨a1, by omega, a3.keep fun k k1 k2 => ?_⟩
      obtain rfl : k = g := by omega
      rw [hk k (by omega) (hA k fun x hx e => h.ne x hx (by rw [e]; exact List.mem_of_getElem? hg)), Below.heap_alloc _ _ _ (by omega)]
    · have hil := (List.getElem?_eq_some_iff.1 hg).1
      rw [List.length_append, h.lg] at hil
      obtain rfl : i = n := by simp at hil; omega
      rw [List.getElem?_append_right (by rw [h.lg]; exact Nat.le_refl _), h.lg, Nat.sub_self] at hg
      rw [List.getElem?_append_right (by rw [h.lt]; exact Nat.le_refl _), h.lt, Nat.sub_self] at hp
      injection hg with hg
      injection hp with hp
      subst hg
      subst hp
      refine ⟨hlo, by omega, (row_two w a b).keep fun k k1 k2 => ?_⟩
      obtain rfl : k = w.heap.size := by omega
      exact hk _ (by omega) (hA _ fun x hx e => by have := hA2 x hx; omega)
  · rw [List.nodup_append]
    refine ⟨h.nd, by simp, fun x hx y hy e => ?_⟩
    rw [List.mem_singleton] at hy
    subst e
    subst hy
    obtain ⟨i, hi'⟩ := List.mem_iff_getElem?.1 hx
    have hil := (List.getElem?_eq_some_iff.1 hi').1
    have := (h.inn i _ _ hi' (List.getElem?_eq_getElem (show i < T.length by rw [h.lt, ← h.lg]; exact hil))).2.1
    omega
  · intro hm
    rcases hA' x hx with ⟨y, hy, e⟩ | hx2
    · rcases List.mem_append.1 hm with hm | hm
      · exact h.ne y hy (by rw [e]; exact hm)
      · rw [List.mem_singleton] at hm
        have := hA2 y hy
        omega
    · rcases List.mem_append.1 hm with hm | hm
      · obtain ⟨i, hi'⟩ := List.mem_iff_getElem?.1 hm
        have hil := (List.getElem?_eq_some_iff.1 hi').1
        have := (h.inn i _ _ hi' (List.getElem?_eq_getElem (show i < T.length by rw [h.lt, ← h.lg]; exact hil))).2.1
        omega
      · rw [List.mem_singleton] at hm
        omega
  · rw [hk k (by omega) (hA k hk2), Below.heap_alloc _ _ _ hk1]
  · rcases hA' x hx with ⟨y, hy, e⟩ | hx2
    · rw [← e]; exact hk2 y hy
    · omega

/-- Passes i and k are of the line, and opposite. -/
def oppT (ps : List GPass) (line : Int) (i k : Nat) : Bool := (gP ps i).ln == line && ((gP ps k).ln == line && inR (absI ((gP ps i).cs - (gP ps k).cs)) 170 190)
def rowT (ps : List GPass) (line : Int) (i : Nat) : Nat → List (Int × Int)
  | 0 => []
  | m + 1 => rowT ps line i m ++ (if oppT ps line i (i + 1 + m) = true then [((i : Int), ((i + 1 + m : Nat) : Int))] else [])
def tabT (ps : List GPass) (line : Int) : Nat → List (Int × Int)
  | 0 => []
  | i + 1 => tabT ps line i ++ rowT ps line i (ps.length - (i + 1))
theorem rowT_no {ps : List GPass} {line : Int} {i m : Nat} (h : oppT ps line i (i + 1 + m) = false) : rowT ps line i (m + 1) = rowT ps line i m := by rw [rowT, if_neg (by simp [h]), List.append_nil]
theorem rowT_yes {ps : List GPass} {line : Int} {i m : Nat} (h : oppT ps line i (i + 1 + m) = true) : rowT ps line i (m + 1) = rowT ps line i m ++ [((i : Int), ((i + 1 + m : Nat) : Int))] := by rw [rowT, if_pos h]
theorem rowT_le (ps : List GPass) (line : Int) (i : Nat) : ∀ m, (rowT ps line i m).length ≤ m
  | 0 => Nat.le_refl _
  | m + 1 => by
    have := rowT_le ps line i m
    rw [rowT, List.length_append]
    split
    · simp; omega
    · simp; omega
theorem tabT_le (ps : List GPass) (line : Int) : ∀ i, (tabT ps line i).length ≤ i * ps.length
  | 0 => by simp [tabT]
  | i + 1 => by
    have h1 := tabT_le ps line i
    have h2 := rowT_le ps line i (ps.length - (i + 1))
    rw [tabT, List.length_append, Nat.succ_mul]
    omega
theorem rowT_mem {ps : List GPass} {line : Int} {i : Nat} {x : Int × Int} : ∀ m, x ∈ rowT ps line i m → ∃ k, k < i + 1 + m ∧ oppT ps line i k = true ∧ x = ((i : Int), (k : Int))
  | 0, h => by simp [rowT] at h
  | m + 1, h => by
    rw [rowT, List.mem_append] at h
    rcases h with h | h
    · obtain ⟨k, k1, k2, k3⟩ := rowT_mem m h
      exact ⟨k, by omega, k2, k3⟩
    · split at h
      · rename_i hc
        rw [List.mem_singleton] at h
        exact ⟨i + 1 + m, by omega, hc, h⟩
      · simp at h
theorem tabT_mem {ps : List GPass} {line : Int} {x : Int × Int} : ∀ i, i ≤ ps.length → x ∈ tabT ps line i → ∃ j k : Nat, j < ps.length ∧ k < ps.length ∧ oppT ps line j k = true ∧ x = ((j : Int), (k : Int))
  | 0, _, h => by simp [tabT] at h
  | i + 1, hi, h => by
    rw [tabT, List.mem_append] at h
    rcases h with h | h
    · exact tabT_mem i (by omega) h
    · obtain ⟨k, k1, k2, k3⟩ := rowT_mem _ h
      exact ⟨i, k, by omega, by omega, k2, k3⟩
theorem turn_eq {a b : Int} (ha : 0 ≤ a ∧ a ≤ 359) (hb : 0 ≤ b ∧ b ≤ 359) : inR ((b - a + 360) % 360) 170 190 = inR (absI (a - b)) 170 190 := by
  rw [Bool.eq_iff_iff, inR_true, inR_true]
  unfold absI
  split <;> omega
def vOppositeOn (ps : List GPass) (line : Int) : List (Int × Int) × Bool := if isPL ps = true ∧ inR line 1 999 = true then (tabT ps line ps.length, true) else ([], false)
theorem vOppositeOn_len0 (ps : List GPass) (line : Int) : (vOppositeOn ps line).1.length ≤ 144 := by
  unfold vOppositeOn
  split
  · rename_i h
    have h1 := isPL_len h.1
    have h2 := tabT_le ps line ps.length
    have h3 : ps.length * ps.length ≤ 12 * 12 := Nat.mul_le_mul h1 h1
    simp only
    omega
  · simp
/-- A new table is returned; nothing that was there has turned. -/
def RetTB (T : List (Int × Int)) (b : Bool) (w : World) (e : Ending) (w' : World) : Prop :=
  ∃ A c, e = .returned (.tuple #[.slice A T.length c, .bool b]) ∧ OwnT w' w.heap.size w'.heap.size A T.length c T ∧ Below w.heap.size w w'
theorem retTB_nil (b : Bool) (w w' : World) (hb : Below w.heap.size w w') : RetTB [] b w (.returned (.tuple #[.slice none 0 0, .bool b])) w' := ⟨none, 0, rfl, ⟨[], TabG.nil_ _ _ _⟩, hb⟩
theorem TabG.new (w : World) : TabG (w.alloc (.cells #[] 25)) w.heap.size (w.alloc (.cells #[] 25)).heap.size (some ⟨w.heap.size, 0, none⟩) 0 0 [] [] :=
  ⟨⟨row_empty w _ 1, fun a ha => by cases ha; simp⟩, rfl, rfl, fun i g p hg => by simp at hg, .nil, fun a ha => by simp⟩
theorem tab_bound {ps : List GPass} {line : Int} {i m : Nat} (h : ps.length ≤ 12) (hi : i ≤ ps.length) (hm : m ≤ ps.length) : (tabT ps line i ++ rowT ps line i m).length ≤ 200 := by
  have h2 := tabT_le ps line i
  have h3 := rowT_le ps line i m
  have h4 : i * ps.length ≤ 12 * 12 := Nat.mul_le_mul (by omega) h
  rw [List.length_append]
  omega

set_option maxHeartbeats 4000000 in
set_option maxRecDepth 100000 in
theorem iOppositeOn {A : Option Addr} {c lo hi : Nat} {ps : List GPass} {line : Int} {w : World} (hr : RdP w lo hi A ps) (hl : ps.length ≤ 2097152) (hh : hi ≤ w.heap.size) :
    Calls Try.prog 27 #[.slice A ps.length c, .int .i64 line] w (RetTB (vOppositeOn ps line).1 (vOppositeOn ps line).2 w) := by
  obtain ⟨i0, hi0, hz0, hz1, hz2⟩ := info_parts info_row
  by_cases h1 : isPL ps = true
  rotate_left
  · have h1' : isPL ps = false := by simpa using h1
    have HE := Lib.hid (show vOppositeOn ps line = ([], false) from by unfold vOppositeOn; rw [if_neg (by simp [h1'])])
    clear h1
    go_enter Try.func27, Try.ntmps27
    go_wp2_with fail
    refine (arePasses_any hr (by omega) hh).mono ?_
    rintro e w1 ⟨rfl, B1⟩
    rw [h1']
    go_wp2_with fail
    go_ret2
    rw [HE.out]
    exact retTB_nil _ _ _ B1
  by_cases h2 : inR line 1 999 = true
  rotate_left
  · have h2' : inR line 1 999 = false := by simpa using h2
    have HE := Lib.hid (show vOppositeOn ps line = ([], false) from by unfold vOppositeOn; rw [if_neg (by simp [h2'])])
    clear h2
    go_enter Try.func27, Try.ntmps27
    go_wp2_with fail
    refine (arePasses_any hr (by omega) hh).mono ?_
    rintro e w1 ⟨rfl, B1⟩
    rw [h1]
    clear h1
    go_wp2_with fail
    refine (isLine_any _ _).mono ?_
    rintro e w' ⟨rfl, rfl⟩
    rw [h2']
    go_wp2_with fail
    go_ret2
    rw [HE.out]
    exact retTB_nil _ _ _ B1
  have HE := Lib.hid (show vOppositeOn ps line = (tabT ps line ps.length, true) from by unfold vOppositeOn; rw [if_pos ⟨h1, h2⟩])
  have H1 := Lib.hid h1
  have h12 := isPL_len h1
  go_enter Try.func27, Try.ntmps27
  go_wp2_with fail
  refine (arePasses_any hr (by omega) hh).mono ?_
  rintro e w1 ⟨rfl, B1⟩
  rw [h1]
  clear h1
  go_wp2_with fail
  refine (isLine_any _ _).mono ?_
  rintro e w' ⟨rfl, rfl⟩
  rw [h2]
  clear h2
  have E1 := (TabG.new w1).more B1.size (Nat.le_refl _)
  have hb1 := B1.alloc B1.size (.cells #[] 25)
  go_wp2_with fail
  generalize w1.alloc (.cells #[] 25) = w2 at E1 hb1 ⊢
  generalize w1.heap.size = g0 at E1 ⊢
  go_loopw [6, 22] (fun v iv wr => ∃ (i c1 : Nat) (A1 : Option Addr) (gs : List Nat), i ≤ ps.length ∧ iv = .int .i64 i ∧ v = .slice A1 (tabT ps line i).length c1 ∧ TabG wr w.heap.size wr.heap.size A1 (tabT ps line i).length c1 (tabT ps line i) gs ∧ Below w.heap.size w wr) (fun _ iv _ => ps.length - (intOf iv).toNat)
  case atStart => exact ⟨0, 0, _, [], Nat.zero_le _, rfl, rfl, E1, hb1⟩
  case round =>
    clear E1 hb1
    obtain ⟨i, c1, A1, gs, hi, rfl, rfl, hT, hb⟩ := hrel
    have hbs := hb.size
    by_cases hlt : i < ps.length
    rotate_left
    · obtain rfl : i = ps.length := by omega
      go_wp2_with fail
      go_ret2
      rw [HE.out]
      exact ⟨A1, c1, rfl, ⟨gs, hT⟩, hb⟩
    obtain ⟨b, off, p, hAA, hlob, hbl, hp, c0, c1', c2, c3, c4, c5⟩ := (hr.below hb hh).getp hlt
    have HP := Lib.hid (gP_of hp)
    have hpb := (isPs_bound (isPL_get H1.out hp).1).2.2.2
    subst hAA
    clear hp
    have q1 : (i : Int) < (ps.length : Int) := by omega
    have q2 : IntKind.i64.wrap ((i : Int) + 1) = (i : Int) + 1 := wr64 (by omega) (by omega)
    have D := pass_cells p wr 40
    have Bp := below_alloc1 wr (.cells #[.int .i64 p.ln, .int .i64 p.bg, .int .i64 p.en, .int .i64 p.pg, .int .i64 p.bd, .int .i64 p.cs] 40)
    have hT2 := (hT.below Bp (Nat.le_refl _)).more (Nat.le_refl _) Bp.size
    have hb2 := hb.trans (Bp.mono hbs)
    have hA1 : ∀ x, A1 = some x → x.block ≠ wr.heap.size := fun x hx => by have := hT.out.2 x hx; omega
    obtain ⟨d0, _, _, _, _, d5⟩ := D
    clear hT
    go_wp2_with fail
    clear c0 c1' c2 c3 c4 c5
    generalize wr.alloc (.cells #[.int .i64 p.ln, .int .i64 p.bg, .int .i64 p.en, .int .i64 p.pg, .int .i64 p.bd, .int .i64 p.cs] 40) = wp at d0 d5 hT2 hb2 ⊢
    generalize wr.heap.size = gp at d0 d5 hA1 ⊢
    have hr0 : rowT ps line i 0 = [] := rfl
    go_loopw [6, 9] (fun v kv wq => ∃ (m c2 : Nat) (A2 : Option Addr) (gs2 : List Nat), i + 1 + m ≤ ps.length ∧ kv = .int .i64 ((i + 1 + m : Nat) : Int) ∧ v = .slice A2 (tabT ps line i ++ rowT ps line i m).length c2 ∧ TabG wq w.heap.size wq.heap.size A2 (tabT ps line i ++ rowT ps line i m).length c2 (tabT ps line i ++ rowT ps line i m) gs2 ∧ Below w.heap.size w wq ∧ wq.cell? ⟨gp, 0, none⟩ = some (.int .i64 p.ln) ∧ wq.cell? ⟨gp, 5, none⟩ = some (.int .i64 p.cs) ∧ (∀ x, A2 = some x → x.block ≠ gp)) (fun _ kv _ => ps.length - (intOf kv).toNat)
    case atStart => exact ⟨0, c1, A1, gs, by omega, by go_num, by rw [hr0, List.append_nil], by rw [hr0, List.append_nil]; exact hT2, hb2, d0, d5, hA1⟩
    case round =>
      clear d0 d5 hT2 hb2 hA1 hb Bp
      obtain ⟨m, c2, A2, gs2, hm, rfl, rfl, hT, hb, d0, d5, hA2⟩ := hrel
      have hbs2 := hb.size
      have htb := tab_bound (line := line) h12 (show i ≤ ps.length by omega) (show m ≤ ps.length by omega)
      by_cases hlt2 : i + 1 + m < ps.length
      rotate_left
      · have hm0 : m = ps.length - (i + 1) := by omega
        have HTT := Lib.hid (show tabT ps line (i + 1) = tabT ps line i ++ rowT ps line i m from by rw [tabT, hm0])
        have q3 : ¬ (((i + 1 + m : Nat) : Int) < (ps.length : Int)) := by omega
        generalize tabT ps line i ++ rowT ps line i m = T at hT HTT htb ⊢
        clear hm0
        go_wp2_with fail
        go_roundw
        case rel => exact ⟨i + 1, c2, A2, gs2, by omega, by go_num, by rw [HTT.out], by rw [HTT.out]; exact hT, hb⟩
        case measure => simp [intOf]; omega
      obtain ⟨k, hkk⟩ : ∃ k, i + 1 + m = k := ⟨_, rfl⟩
      obtain ⟨b', off', q, hAA, _, _, hq, e0, e1, e2, e3, e4, e5⟩ := (hr.below hb hh).getp (show k < ps.length by omega)
      injection hAA with hAA
      injection hAA with hbb hof hpath
      subst hbb
      subst hof
      have HQ := Lib.hid (gP_of hq)
      have hqb := (isPs_bound (isPL_get H1.out hq).1).2.2.2
      have q3 : (k : Int) < (ps.length : Int) := by omega
      have hk12 : k < 12 := by omega
      clear hq
      obtain ⟨tv, htv⟩ : ∃ tv, inR (absI (p.cs - q.cs)) 170 190 = tv := ⟨_, rfl⟩
      have HTV := Lib.hid htv
      have HOP := Lib.hid (show oppT ps line i k = (p.ln == line && (q.ln == line && tv)) from by unfold oppT; rw [HP.out, HQ.out, htv])
      have HNO := Lib.hid (fun (h : oppT ps line i k = false) => (show tabT ps line i ++ rowT ps line i (m + 1) = tabT ps line i ++ rowT ps line i m from by rw [rowT_no (by rw [hkk]; exact h)]))
      have HYES := Lib.hid (fun (h : oppT ps line i k = true) => (show tabT ps line i ++ rowT ps line i (m + 1) = (tabT ps line i ++ rowT ps line i m) ++ [((i : Int), (k : Int))] from by rw [rowT_yes (by rw [hkk]; exact h), hkk, List.append_assoc]))
      have HK := Lib.hid hkk
      have hkm : i + 1 + (m + 1) = k + 1 := by omega
      have HKM := Lib.hid hkm
      have hkn : k + 1 ≤ ps.length := by omega
      obtain ⟨T, hTT⟩ : ∃ T, tabT ps line i ++ rowT ps line i m = T := ⟨_, rfl⟩
      rw [hTT] at hT htb
      have HTT := Lib.hid hTT
      rw [hkk, hTT]
      clear htv hkk hkm hTT hm
      have DQ := pass_cells q wr 40
      have Bq := below_alloc1 wr (.cells #[.int .i64 q.ln, .int .i64 q.bg, .int .i64 q.en, .int .i64 q.pg, .int .i64 q.bd, .int .i64 q.cs] 40)
      have hT2 := (hT.below Bq (Nat.le_refl _)).more (Nat.le_refl _) Bq.size
      have hb2 := hb.trans (Bq.mono hbs2)
      have d0' := (Bq.cell (p := ⟨gp, 0, none⟩) (World.block_lt_of_cell? wr _ d0)).trans d0
      have d5' := (Bq.cell (p := ⟨gp, 5, none⟩) (World.block_lt_of_cell? wr _ d5)).trans d5
      obtain ⟨x0, _, _, _, _, x5⟩ := DQ
      have q4 : IntKind.i64.wrap (p.cs - q.cs) = p.cs - q.cs := wr64 (by omega) (by omega)
      clear d0 d5 hT hb Bq
      by_cases hp1 : p.ln = line
      rotate_left
      · have s1 : (p.ln == line) = false := by simpa using hp1
        have HEQ := Lib.hid ((HNO.out (by rw [HOP.out, s1]; rfl)).trans HTT.out)
        clear hp1
        go_wp2_with fail
        generalize wr.alloc (.cells #[.int .i64 q.ln, .int .i64 q.bg, .int .i64 q.en, .int .i64 q.pg, .int .i64 q.bd, .int .i64 q.cs] 40) = wq at x0 x5 d0' d5' hT2 hb2 ⊢
        go_roundw
        case rel => exact ⟨m + 1, c2, A2, gs2, by rw [HKM.out]; exact hkn, by rw [HKM.out]; go_num, by rw [HEQ.out], by rw [HEQ.out]; exact hT2, hb2, d0', d5', hA2⟩
        case measure => simp [intOf]; omega
      have s1 : (p.ln == line) = true := by simpa using hp1
      clear hp1
      by_cases hq1 : q.ln = line
      rotate_left
      · have s2 : (q.ln == line) = false := by simpa using hq1
        have HEQ := Lib.hid ((HNO.out (by rw [HOP.out, s1, s2]; rfl)).trans HTT.out)
        clear hq1
        go_wp2_with fail
        generalize wr.alloc (.cells #[.int .i64 q.ln, .int .i64 q.bg, .int .i64 q.en, .int .i64 q.pg, .int .i64 q.bd, .int .i64 q.cs] 40) = wq at x0 x5 d0' d5' hT2 hb2 ⊢
        go_roundw
        case rel => exact ⟨m + 1, c2, A2, gs2, by rw [HKM.out]; exact hkn, by rw [HKM.out]; go_num, by rw [HEQ.out], by rw [HEQ.out]; exact hT2, hb2, d0', d5', hA2⟩
        case measure => simp [intOf]; omega
      have s2 : (q.ln == line) = true := by simpa using hq1
      clear hq1
      rcases tv with _ | _
      · have HEQ := Lib.hid ((HNO.out (by rw [HOP.out, s1, s2]; rfl)).trans HTT.out)
        go_wp2_with fail
        generalize wr.alloc (.cells #[.int .i64 q.ln, .int .i64 q.bg, .int .i64 q.en, .int .i64 q.pg, .int .i64 q.bd, .int .i64 q.cs] 40) = wq at x0 x5 d0' d5' hT2 hb2 ⊢
        refine (absOf_any _ _ (by omega) (by omega)).mono ?_
        rintro e w' ⟨rfl, rfl⟩
        go_wp2_with fail
        refine (inside_any _ _ _ _).mono ?_
        rintro e w' ⟨rfl, rfl⟩
        rw [HTV.out]
        go_wp2_with fail
        go_roundw
        case rel => exact ⟨m + 1, c2, A2, gs2, by rw [HKM.out]; exact hkn, by rw [HKM.out]; go_num, by rw [HEQ.out], by rw [HEQ.out]; exact hT2, hb2, d0', d5', hA2⟩
        case measure => simp [intOf]; omega
      · have HEQ := Lib.hid ((HYES.out (by rw [HOP.out, s1, s2]; rfl)).trans (show (tabT ps line i ++ rowT ps line i m) ++ [((i : Int), (k : Int))] = T ++ [((i : Int), (k : Int))] from by rw [HTT.out]))
        go_wp2_with fail
        generalize wr.alloc (.cells #[.int .i64 q.ln, .int .i64 q.bg, .int .i64 q.en, .int .i64 q.pg, .int .i64 q.bd, .int .i64 q.cs] 40) = wq at x0 x5 d0' d5' hT2 hb2 ⊢
        refine (absOf_any _ _ (by omega) (by omega)).mono ?_
        rintro e w' ⟨rfl, rfl⟩
        go_wp2_with fail
        refine (inside_any _ _ _ _).mono ?_
        rintro e w' ⟨rfl, rfl⟩
        rw [HTV.out]
        have hbs3 := hb2.size
        have hT3 := (hT2.below (below_alloc1 wq (.cells #[.int .i64 (i : Int), .int .i64 (k : Int)] 3)) (Nat.le_refl _))
        have hs3 : (wq.alloc (.cells #[.int .i64 (i : Int), .int .i64 (k : Int)] 3)).heap.size = wq.heap.size + 1 := by simp
        go_wp2_with (at_builtin; refine wpList_push_at _ rfl _ _ 47 rfl w.heap.size 25 i0 (.slice none 0 0) 1 24 Try.underlying47 hi0 hz0 hz1 hz2 rfl (by decide) _ T.length (rowsV gs2) rfl hT3.out.1 [.slice (some ⟨wq.heap.size, 0, none⟩) 2 2] rfl (by intro u hu; simp at hu; subst hu; rfl) _ rfl (by simp) (by omega) (by decide) (by rw [hs3]; omega) ?_; intro v7 w7 hown7 hb7 hs7 hv7 hk7)
        rw [hs3] at hs7 hv7 hk7
        obtain ⟨A3, c3, rfl, hT7, hkeep⟩ := hT2.push (Nat.le_refl _) hbs3 hown7 hs7 hv7 hk7
        have hb8 := hb7 w (hb2.alloc hbs3 _)
        have k0 := hkeep gp (World.block_lt_of_cell? wq _ d0') hA2
        have d0'' := (World.cell?_of_block (a := ⟨gp, 0, none⟩) k0.1).trans d0'
        have d5'' := (World.cell?_of_block (a := ⟨gp, 5, none⟩) k0.1).trans d5'
        have HT7 := Lib.hid hT7
        have hlen : (T ++ [((i : Int), (k : Int))]).length = T.length + 1 := by simp
        have HLEN := Lib.hid hlen
        clear hT7 hT3 hT2 hown7 hkeep hv7 hk7 hlen
        go_wp2_with fail
        go_roundw
        case rel => exact ⟨m + 1, c3, A3, gs2 ++ [wq.heap.size], by rw [HKM.out]; exact hkn, by rw [HKM.out]; go_num, by rw [HEQ.out, HLEN.out], by rw [HEQ.out, HLEN.out]; exact HT7.out, hb8, d0'', d5'', k0.2⟩
        case measure => simp [intOf]; omega

set_option maxHeartbeats 4000000 in
set_option maxRecDepth 100000 in
theorem sOppositeOn {A : Option Addr} {c lo hi : Nat} {ps : List GPass} {line : Int} {w : World} (hr : RdP w lo hi A ps) (hl : ps.length ≤ 2097152) (hh : hi ≤ w.heap.size) :
    Calls Try.prog 25 #[.slice A ps.length c, .int .i64 line] w (RetTB (vOppositeOn ps line).1 (vOppositeOn ps line).2 w) := by
  obtain ⟨i0, hi0, hz0, hz1, hz2⟩ := info_parts info_row
  have E0 := TabG.new w
  have Bx := below_alloc1 w (.cells #[] 25)
  have hz : (w.alloc (.cells #[] 25)).heap.size = w.heap.size + 1 := by simp
  by_cases h1 : isPL ps = true
  rotate_left
  · have h1' : isPL ps = false := by simpa using h1
    have HE := Lib.hid (show vOppositeOn ps line = ([], false) from by unfold vOppositeOn; rw [if_neg (by simp [h1'])])
    clear h1
    go_enter Try.func25, Try.ntmps25
    go_wp2_with fail
    generalize w.alloc (.cells #[] 25) = wx at E0 Bx hz ⊢
    refine (l11Good_any (hr.below Bx hh) (by omega) (by omega)).mono ?_
    rintro e w1 ⟨rfl, B1⟩
    rw [h1']
    go_wp2_with fail
    go_ret2
    rw [HE.out]
    exact ⟨_, 0, rfl, ⟨[], (E0.below B1 (Nat.le_refl _)).more (Nat.le_refl _) (B1).size⟩, Bx.trans ((B1).mono (by omega))⟩
  by_cases h2 : inR line 1 999 = true
  rotate_left
  · have h2' : inR line 1 999 = false := by simpa using h2
    have HE := Lib.hid (show vOppositeOn ps line = ([], false) from by unfold vOppositeOn; rw [if_neg (by simp [h2'])])
    clear h2
    go_enter Try.func25, Try.ntmps25
    go_wp2_with fail
    generalize w.alloc (.cells #[] 25) = wx at E0 Bx hz ⊢
    refine (l11Good_any (hr.below Bx hh) (by omega) (by omega)).mono ?_
    rintro e w1 ⟨rfl, B1⟩
    rw [h1]
    clear h1
    go_wp2_with fail
    refine (l11Line_any _ _).mono ?_
    rintro e w' ⟨rfl, rfl⟩
    rw [h2']
    go_wp2_with fail
    go_ret2
    rw [HE.out]
    exact ⟨_, 0, rfl, ⟨[], (E0.below B1 (Nat.le_refl _)).more (Nat.le_refl _) (B1).size⟩, Bx.trans ((B1).mono (by omega))⟩
  have HE := Lib.hid (show vOppositeOn ps line = (tabT ps line ps.length, true) from by unfold vOppositeOn; rw [if_pos ⟨h1, h2⟩])
  have H1 := Lib.hid h1
  have h12 := isPL_len h1
  go_enter Try.func25, Try.ntmps25
  go_wp2_with fail
  generalize w.alloc (.cells #[] 25) = wx at E0 Bx hz ⊢
  refine (l11Good_any (hr.below Bx hh) (by omega) (by omega)).mono ?_
  rintro e w1 ⟨rfl, B1⟩
  rw [h1]
  clear h1
  go_wp2_with fail
  refine (l11Line_any _ _).mono ?_
  rintro e w' ⟨rfl, rfl⟩
  rw [h2]
  clear h2
  have E1 := (E0.below B1 (Nat.le_refl _)).more (Nat.le_refl _) B1.size
  have hb1 := Bx.trans (B1.mono (by omega))
  clear E0 Bx hz B1
  generalize w1 = w2 at E1 hb1 ⊢
  go_wp2_with fail
  go_loopw [6, 7] (fun v iv wr => ∃ (i c1 : Nat) (A1 : Option Addr) (gs : List Nat), i ≤ ps.length ∧ iv = .int .i64 i ∧ v = .slice A1 (tabT ps line i).length c1 ∧ TabG wr w.heap.size wr.heap.size A1 (tabT ps line i).length c1 (tabT ps line i) gs ∧ Below w.heap.size w wr) (fun _ iv _ => ps.length - (intOf iv).toNat)
  case atStart => exact ⟨0, 0, _, [], Nat.zero_le _, rfl, rfl, E1, hb1⟩
  case round =>
    clear E1 hb1
    obtain ⟨i, c1, A1, gs, hi, rfl, rfl, hT, hb⟩ := hrel
    have hbs := hb.size
    by_cases hlt : i < ps.length
    rotate_left
    · obtain rfl : i = ps.length := by omega
      go_wp2_with fail
      go_ret2
      rw [HE.out]
      exact ⟨A1, c1, rfl, ⟨gs, hT⟩, hb⟩
    have q1 : (i : Int) < (ps.length : Int) := by omega
    have q2 : IntKind.i64.wrap ((i : Int) + 1) = (i : Int) + 1 := wr64 (by omega) (by omega)
    obtain ⟨p, hp⟩ : ∃ p, ps[i]? = some p := ⟨_, List.getElem?_eq_getElem hlt⟩
    have HP := Lib.hid (gP_of hp)
    have HPI := Lib.hid hp
    have hpb := (isPs_bound (isPL_get H1.out hp).1).2.2.2
    clear hp
    go_wp2_with fail
    have hr0 : rowT ps line i 0 = [] := rfl
    go_loopw [6, 8] (fun v kv wq => ∃ (m c2 : Nat) (A2 : Option Addr) (gs2 : List Nat), i + 1 + m ≤ ps.length ∧ kv = .int .i64 ((i + 1 + m : Nat) : Int) ∧ v = .slice A2 (tabT ps line i ++ rowT ps line i m).length c2 ∧ TabG wq w.heap.size wq.heap.size A2 (tabT ps line i ++ rowT ps line i m).length c2 (tabT ps line i ++ rowT ps line i m) gs2 ∧ Below w.heap.size w wq) (fun _ kv _ => ps.length - (intOf kv).toNat)
    case atStart => exact ⟨0, c1, A1, gs, by omega, by go_num, by rw [hr0, List.append_nil], by rw [hr0, List.append_nil]; exact hT, hb⟩
    case round =>
      clear hT hb
      obtain ⟨m, c2, A2, gs2, hm, rfl, rfl, hT, hb⟩ := hrel
      have hbs2 := hb.size
      have htb := tab_bound (line := line) h12 (show i ≤ ps.length by omega) (show m ≤ ps.length by omega)
      by_cases hlt2 : i + 1 + m < ps.length
      rotate_left
      · have hm0 : m = ps.length - (i + 1) := by omega
        have HTT := Lib.hid (show tabT ps line (i + 1) = tabT ps line i ++ rowT ps line i m from by rw [tabT, hm0])
        have q3 : ¬ (((i + 1 + m : Nat) : Int) < (ps.length : Int)) := by omega
        generalize tabT ps line i ++ rowT ps line i m = T at hT HTT htb ⊢
        clear hm0
        go_wp2_with fail
        go_roundw
        case rel => exact ⟨i + 1, c2, A2, gs2, by omega, by go_num, by rw [HTT.out], by rw [HTT.out]; exact hT, hb⟩
        case measure => simp [intOf]; omega
      obtain ⟨k, hkk⟩ : ∃ k, i + 1 + m = k := ⟨_, rfl⟩
      obtain ⟨b, off, p', hAA, hlob, hbl, hp', c0, c1', c2', c3, c4, c5⟩ := (hr.below hb hh).getp hlt
      obtain rfl : p = p' := by have := HPI.out; rw [hp'] at this; injection this with this; exact this.symm
      subst hAA
      obtain ⟨b', off', q, hAA, _, _, hq, e0, e1, e2, e3, e4, e5⟩ := (hr.below hb hh).getp (show k < ps.length by omega)
      injection hAA with hAA
      injection hAA with hbb hof hpath
      subst hbb
      subst hof
      clear hp'
      have HQ := Lib.hid (gP_of hq)
      have hqb := (isPs_bound (isPL_get H1.out hq).1).2.2.2
      have q3 : (k : Int) < (ps.length : Int) := by omega
      have hk12 : k < 12 := by omega
      clear hq
      obtain ⟨tv, htv⟩ : ∃ tv, inR (absI (p.cs - q.cs)) 170 190 = tv := ⟨_, rfl⟩
      have HTV := Lib.hid htv
      have HOP := Lib.hid (show oppT ps line i k = (p.ln == line && (q.ln == line && tv)) from by unfold oppT; rw [HP.out, HQ.out, htv])
      have HNO := Lib.hid (fun (h : oppT ps line i k = false) => (show tabT ps line i ++ rowT ps line i (m + 1) = tabT ps line i ++ rowT ps line i m from by rw [rowT_no (by rw [hkk]; exact h)]))
      have HYES := Lib.hid (fun (h : oppT ps line i k = true) => (show tabT ps line i ++ rowT ps line i (m + 1) = (tabT ps line i ++ rowT ps line i m) ++ [((i : Int), (k : Int))] from by rw [rowT_yes (by rw [hkk]; exact h), hkk, List.append_assoc]))
      have HK := Lib.hid hkk
      have hkm : i + 1 + (m + 1) = k + 1 := by omega
      have HKM := Lib.hid hkm
      have hkn : k + 1 ≤ ps.length := by omega
      obtain ⟨T, hTT⟩ : ∃ T, tabT ps line i ++ rowT ps line i m = T := ⟨_, rfl⟩
      rw [hTT] at hT htb
      have HTT := Lib.hid hTT
      rw [hkk, hTT]
      clear htv hkk hkm hTT hm
      have q4 : IntKind.i64.wrap (q.cs - p.cs) = q.cs - p.cs := wr64 (by omega) (by omega)
      have q5 : IntKind.i64.wrap (q.cs - p.cs + 360) = q.cs - p.cs + 360 := wr64 (by omega) (by omega)
      obtain ⟨tn, htn⟩ : ∃ tn, (q.cs - p.cs + 360) % 360 = tn := ⟨_, rfl⟩
      have q6 : (q.cs - p.cs + 360).tmod 360 = tn := by rw [Int.tmod_eq_emod_of_nonneg (by omega)]; exact htn
      have HTN := Lib.hid (show inR tn 170 190 = tv from by rw [← htn, turn_eq ⟨hpb.1, hpb.2⟩ ⟨hqb.1, hqb.2⟩]; exact HTV.out)
      have HT0 := Lib.hid htn
      have q7 := htn
      clear htn
      by_cases hp1 : p.ln = line
      rotate_left
      · have s1 : (p.ln == line) = false := by simpa using hp1
        have HEQ := Lib.hid ((HNO.out (by rw [HOP.out, s1]; rfl)).trans HTT.out)
        clear hp1
        go_wp2_with fail
        go_quiet (fail)
        have hT2 : TabG (wr.drewN nq) w.heap.size (wr.drewN nq).heap.size A2 T.length c2 T gs2 := hT.below (below_drewN (Below.refl wr.heap.size wr) nq) (Nat.le_refl _)
        have hb2 := below_drewN hb nq
        go_wp2_with fail
        go_roundw
        case rel => exact ⟨m + 1, c2, A2, gs2, by rw [HKM.out]; exact hkn, by rw [HKM.out]; go_num, by rw [HEQ.out], by rw [HEQ.out]; exact hT2, hb2⟩
        case measure => simp [intOf]; omega
      have s1 : (p.ln == line) = true := by simpa using hp1
      clear hp1
      by_cases hq1 : q.ln = line
      rotate_left
      · have s2 : (q.ln == line) = false := by simpa using hq1
        have HEQ := Lib.hid ((HNO.out (by rw [HOP.out, s1, s2]; rfl)).trans HTT.out)
        clear hq1
        go_wp2_with fail
        go_quiet (fail)
        have hT2 : TabG (wr.drewN nq) w.heap.size (wr.drewN nq).heap.size A2 T.length c2 T gs2 := hT.below (below_drewN (Below.refl wr.heap.size wr) nq) (Nat.le_refl _)
        have hb2 := below_drewN hb nq
        go_wp2_with fail
        go_roundw
        case rel => exact ⟨m + 1, c2, A2, gs2, by rw [HKM.out]; exact hkn, by rw [HKM.out]; go_num, by rw [HEQ.out], by rw [HEQ.out]; exact hT2, hb2⟩
        case measure => simp [intOf]; omega
      have s2 : (q.ln == line) = true := by simpa using hq1
      clear hq1
      rcases tv with _ | _
      · have HEQ := Lib.hid ((HNO.out (by rw [HOP.out, s1, s2]; rfl)).trans HTT.out)
        go_wp2_with fail
        go_quiet (fail)
        have hT2 : TabG (wr.drewN nq) w.heap.size (wr.drewN nq).heap.size A2 T.length c2 T gs2 := hT.below (below_drewN (Below.refl wr.heap.size wr) nq) (Nat.le_refl _)
        have hb2 := below_drewN hb nq
        go_wp2_with fail
        refine (l1In_any _ _ _ _).mono ?_
        rintro e w' ⟨rfl, rfl⟩
        rw [HTN.out]
        go_wp2_with fail
        go_roundw
        case rel => exact ⟨m + 1, c2, A2, gs2, by rw [HKM.out]; exact hkn, by rw [HKM.out]; go_num, by rw [HEQ.out], by rw [HEQ.out]; exact hT2, hb2⟩
        case measure => simp [intOf]; omega
      · have HEQ := Lib.hid ((HYES.out (by rw [HOP.out, s1, s2]; rfl)).trans (show (tabT ps line i ++ rowT ps line i m) ++ [((i : Int), (k : Int))] = T ++ [((i : Int), (k : Int))] from by rw [HTT.out]))
        go_wp2_with fail
        go_quiet (fail)
        have hT2 : TabG (wr.drewN nq) w.heap.size (wr.drewN nq).heap.size A2 T.length c2 T gs2 := hT.below (below_drewN (Below.refl wr.heap.size wr) nq) (Nat.le_refl _)
        have hb2 := below_drewN hb nq
        go_wp2_with fail
        refine (l1In_any _ _ _ _).mono ?_
        rintro e w' ⟨rfl, rfl⟩
        rw [HTN.out]
        generalize wr.drewN nq = wq at hT2 hb2 ⊢
        have hbs3 := hb2.size
        have hT3 := (hT2.below (below_alloc1 wq (.cells #[.int .i64 (i : Int), .int .i64 (k : Int)] 3)) (Nat.le_refl _))
        have hs3 : (wq.alloc (.cells #[.int .i64 (i : Int), .int .i64 (k : Int)] 3)).heap.size = wq.heap.size + 1 := by simp
        go_wp2_with (at_builtin; refine wpList_push_at _ rfl _ _ 47 rfl w.heap.size 25 i0 (.slice none 0 0) 1 24 Try.underlying47 hi0 hz0 hz1 hz2 rfl (by decide) _ T.length (rowsV gs2) rfl hT3.out.1 [.slice (some ⟨wq.heap.size, 0, none⟩) 2 2] rfl (by intro u hu; simp at hu; subst hu; rfl) _ rfl (by simp) (by omega) (by decide) (by rw [hs3]; omega) ?_; intro v7 w7 hown7 hb7 hs7 hv7 hk7)
        rw [hs3] at hs7 hv7 hk7
        obtain ⟨A3, c3, rfl, hT7, hkeep⟩ := hT2.push (Nat.le_refl _) hbs3 hown7 hs7 hv7 hk7
        have hb8 := hb7 w (hb2.alloc hbs3 _)
        have HT7 := Lib.hid hT7
        have hlen : (T ++ [((i : Int), (k : Int))]).length = T.length + 1 := by simp
        have HLEN := Lib.hid hlen
        clear hT7 hT3 hT2 hown7 hkeep hv7 hk7 hlen
        go_wp2_with fail
        go_roundw
        case rel => exact ⟨m + 1, c3, A3, gs2 ++ [wq.heap.size], by rw [HKM.out]; exact hkn, by rw [HKM.out]; go_num, by rw [HEQ.out, HLEN.out], by rw [HEQ.out, HLEN.out]; exact HT7.out, hb8⟩
        case measure => simp [intOf]; omega

end Go.Proofs.Ytaehfcdcdjlanaa
