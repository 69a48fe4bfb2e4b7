/-
  This file proves words on slices of slices of integers, each row of two numbers in a block of its own, and contracts of the laws' comparison, marking and reading of them.
  Conditions: each contract's own hypotheses.
-/
import Derived.Test.YtaehfcdcdjlanaaLawHelpR
namespace Go.Proofs.Ytaehfcdcdjlanaa
open Go.RowKit
set_option linter.unusedSimpArgs false
set_option linter.unusedVariables false

def rowsV (gs : List Nat) : List Value := gs.map fun g => .slice (some ⟨g, 0, none⟩) 2 2
theorem Own.tight {w : World} {e : TypeId} {lo hi size n c g : Nat} {xs : List Value} (h : Own w e lo hi size (some ⟨g, 0, none⟩) n c xs) : Own w e g (g + 1) size (some ⟨g, 0, none⟩) n c xs := by
  refine ⟨⟨h.1.1, ?_⟩, fun a ha => by cases ha; simp⟩
  rcases h.1.2 with ⟨hv, _⟩ | ⟨g', cap, cur, hv, hg, r⟩
  · cases hv
  · refine .inr ⟨g', cap, cur, hv, ?_, r⟩
    injection hv with h1
    injection h1 with h1
    injection h1 with h1
    omega
/-- A table: the rows lie in blocks gs of the call's own. -/
structure TabG (w : World) (lo hi : Nat) (A : Option Addr) (n c : Nat) (T : List (Int × Int)) (gs : List Nat) : Prop where
  out : Own w 25 lo hi 1 A n c (rowsV gs)
  lt : T.length = n
  lg : gs.length = n
  inn : ∀ (i g : Nat) (p : Int × Int), gs[i]? = some g → T[i]? = some p → lo ≤ g ∧ g < hi ∧ OwnI w 3 g (g + 1) (some ⟨g, 0, none⟩) 2 [p.1, p.2]
  nd : gs.Nodup
  ne : ∀ a, A = some a → a.block ∉ gs
def OwnT (w : World) (lo hi : Nat) (A : Option Addr) (n c : Nat) (T : List (Int × Int)) : Prop := ∃ gs, TabG w lo hi A n c T gs
def RdT (w : World) (lo hi : Nat) (A : Option Addr) (n : Nat) (T : List (Int × Int)) : Prop :=
  T.length = n ∧ ∃ gs : List Nat, gs.length = n ∧ Rd w lo hi 1 A n (rowsV gs) ∧ ∀ (i g : Nat) (p : Int × Int), gs[i]? = some g → T[i]? = some p → RdI w lo hi (some ⟨g, 0, none⟩) [p.1, p.2]
section
variable {w w' : World} {lo hi lo' hi' n c : Nat} {A : Option Addr} {T : List (Int × Int)} {gs : List Nat}
theorem TabG.below {B : Nat} (h : TabG w lo hi A n c T gs) (hb : Below B w w') (hB : hi ≤ B) : TabG w' lo hi A n c T gs :=
  ⟨h.out.below hb hB, h.lt, h.lg, fun i g p hg hp => ⟨(h.inn i g p hg hp).1, (h.inn i g p hg hp).2.1, (h.inn i g p hg hp).2.2.below hb (by have := (h.inn i g p hg hp).2.1; omega)⟩, h.nd, h.ne⟩
theorem TabG.more (h : TabG w lo hi A n c T gs) (h1 : lo' ≤ lo) (h2 : hi ≤ hi') : TabG w lo' hi' A n c T gs :=
  ⟨h.out.more h1 h2, h.lt, h.lg, fun i g p hg hp => ⟨by have := (h.inn i g p hg hp).1; omega, by have := (h.inn i g p hg hp).2.1; omega, (h.inn i g p hg hp).2.2⟩, h.nd, h.ne⟩
theorem TabG.only (h : TabG w lo hi A n c T gs) (hb : Only lo' hi' w w') (hd : hi ≤ lo' ∨ hi' ≤ lo) (hs : hi ≤ w.heap.size) : TabG w' lo hi A n c T gs :=
  ⟨h.out.only hb hd hs, h.lt, h.lg, fun i g p hg hp => by
    obtain ⟨a1, a2, a3⟩ := h.inn i g p hg hp
    exact ⟨a1, a2, a3.only hb (by omega) (by omega)⟩, h.nd, h.ne⟩
theorem TabG.rd (h : TabG w lo hi A n c T gs) : RdT w lo hi A n T :=
  ⟨h.lt, gs, h.lg, h.out.rd, fun i g p hg hp => by
    obtain ⟨a1, a2, a3⟩ := h.inn i g p hg hp
    exact a3.rd.more (by omega) (by omega)⟩
theorem OwnT.below {B : Nat} (h : OwnT w lo hi A n c T) (hb : Below B w w') (hB : hi ≤ B) : OwnT w' lo hi A n c T := h.elim fun gs h => ⟨gs, h.below hb hB⟩
theorem OwnT.more (h : OwnT w lo hi A n c T) (h1 : lo' ≤ lo) (h2 : hi ≤ hi') : OwnT w lo' hi' A n c T := h.elim fun gs h => ⟨gs, h.more h1 h2⟩
theorem OwnT.only (h : OwnT w lo hi A n c T) (hb : Only lo' hi' w w') (hd : hi ≤ lo' ∨ hi' ≤ lo) (hs : hi ≤ w.heap.size) : OwnT w' lo hi A n c T := h.elim fun gs h => ⟨gs, h.only hb hd hs⟩
theorem OwnT.rd (h : OwnT w lo hi A n c T) : RdT w lo hi A n T := h.elim fun gs h => h.rd
theorem RdT.below {B : Nat} (h : RdT w lo hi A n T) (hb : Below B w w') (hB : hi ≤ B) : RdT w' lo hi A n T :=
  ⟨h.1, h.2.elim fun gs h2 => ⟨gs, h2.1, h2.2.1.below hb hB, fun i g p hg hp => (h2.2.2 i g p hg hp).below hb hB⟩⟩
theorem TabG.nil_ (w : World) (lo hi : Nat) : TabG w lo hi none 0 0 [] [] := ⟨⟨World.ownsRow_nil w lo _ 1, fun a ha => by cases ha⟩, rfl, rfl, fun i g p hg => by simp at hg, .nil, fun a ha => by cases ha⟩
/-- Row k. -/
theorem RdT.geti {k : Nat} (h : RdT w lo hi A n T) (hk : k < n) : ∃ b off g p, A = some ⟨b, off, none⟩ ∧ b < hi ∧ T[k]? = some p ∧ w.cell? ⟨b, off + k, none⟩ = some (.slice (some ⟨g, 0, none⟩) 2 2) ∧ RdI w lo hi (some ⟨g, 0, none⟩) [p.1, p.2] := by
  obtain ⟨h1, gs, h2, h3, h4⟩ := h
  obtain ⟨b, off, e, _, hb, hc⟩ := h3.2 (by omega)
  have hg : gs[k]? = some gs[k] := List.getElem?_eq_getElem (by omega)
  have hp : T[k]? = some T[k] := List.getElem?_eq_getElem (by omega)
  exact ⟨b, off, gs[k], T[k], e, hb, hp, hc k _ (by rw [rowsV, List.getElem?_map, hg]; rfl), h4 k _ _ hg hp⟩
/-- A row is written. -/
theorem TabG.mark {j g : Nat} {a b : Int} (h : TabG w lo hi A n c T gs) (hg : gs[j]? = some g) (hO : OwnI w' 3 g (g + 1) (some ⟨g, 0, none⟩) 2 [a, b]) (U : Only g (g + 1) w w') (hs : hi ≤ w.heap.size) : TabG w' lo hi A n c (T.set j (a, b)) gs ∧ Only lo hi w w' := by
  have hj := (List.getElem?_eq_some_iff.1 hg).1
  have hlg := h.lg
  have hlt := h.lt
  obtain ⟨p, hp⟩ : ∃ p, T[j]? = some p := ⟨_, List.getElem?_eq_getElem (by omega)⟩
  obtain ⟨g1, g2, _⟩ := h.inn j g p hg hp
  obtain ⟨go, rfl, hgo1, hgo2⟩ := h.out.length_pos (by omega)
  have hne : go ≠ g := fun e => h.ne _ rfl (by rw [show (⟨go, 0, none⟩ : Addr).block = g from e]; exact List.mem_of_getElem? hg)
  refine ⟨⟨(h.out.tight.only U (by omega) (by omega)).more hgo1 (by omega), by rw [List.length_set]; exact hlt, hlg, fun i g' p' hg' hp' => ?_, h.nd, h.ne⟩, ⟨U.os, U.tape, U.output, U.size, fun k hk ho => U.block k hk (by omega)⟩⟩
  by_cases hij : i = j
  · subst hij
    rw [hg] at hg'
    injection hg' with hg'
    subst hg'
    rw [List.getElem?_set_self (by omega)] at hp'
    injection hp' with hp'
    subst hp'
    exact ⟨g1, g2, hO⟩
  · rw [List.getElem?_set_ne (fun e => hij e.symm)] at hp'
    obtain ⟨a1, a2, a3⟩ := h.inn i g' p' hg' hp'
    have hgg : g' ≠ g := fun e => by
      subst e
      obtain ⟨k1, e1⟩ := List.getElem?_eq_some_iff.1 hg
      obtain ⟨k2, e2⟩ := List.getElem?_eq_some_iff.1 hg'
      have hnd := List.pairwise_iff_getElem.1 h.nd
      rcases Nat.lt_or_gt_of_ne hij with hl | hl
      · exact hnd i j k2 k1 hl (e2.trans e1.symm)
      · exact hnd j i k1 k2 hl (e1.trans e2.symm)
    exact ⟨a1, a2, a3.only U (by omega) (by omega)⟩
end
theorem drewN_two (w : World) (n m : Nat) : (w.drewN n).drewN m = w.drewN (n + m) := by simp [World.drewN, Nat.add_assoc]
theorem quiet_more {P : Program} {f : FuncId} {args : Array Value} {w : World} {n m : Nat} {v : Value}
    (h : Calls P f args (w.drewN (n + m)) fun e w' => e = .returned v ∧ ∃ j, (w.drewN (n + m)).drewN j = w') : Calls P f args (w.drewN (n + m)) fun e w'' => e = .returned v ∧ ∃ k, w'' = w.drewN (n + k) :=
  h.mono fun _ _ ⟨he, j, hj⟩ => ⟨he, m + j, by rw [← hj, drewN_two, Nat.add_assoc]⟩

set_option maxHeartbeats 1000000 in
set_option maxRecDepth 100000 in
theorem eqIntSS_same (A B : Option Addr) (c d lo hi lo' hi' : Nat) (T : List (Int × Int)) (w : World) (ha : RdT w lo hi A T.length T) (hb : RdT w lo' hi' B T.length T) (hl : T.length ≤ 2097152) (hh : hi ≤ w.heap.size) (hh' : hi' ≤ w.heap.size) :
    Calls Try.prog 28 #[.slice A T.length c, .slice B T.length d] w (RetB true w) := by
  go_enter Try.func28, Try.ntmps28
  go_wp2_with fail
  go_loopw [5] (fun i wr => ∃ k n : Nat, k ≤ T.length ∧ i = .int .i64 k ∧ w.drewN n = wr) (fun i _ => T.length - (intOf i).toNat)
  case atStart => exact ⟨0, 0, Nat.zero_le _, rfl, rfl⟩
  case round =>
    obtain ⟨k, n, hk, rfl, rfl⟩ := hrel
    by_cases hlt : k < T.length
    · obtain ⟨b1, o1, g1, p, rfl, _, hp, hc1, hR1⟩ := ha.geti hlt
      obtain ⟨b2, o2, g2, p', rfl, _, hp', hc2, hR2⟩ := hb.geti hlt
      obtain rfl : p = p' := by rw [hp] at hp'; injection hp'
      have q1 : (k : Int) < (T.length : Int) := by omega
      clear hp hp' ha hb
      have hq : ∀ m, Calls Try.prog 47 #[.slice (some ⟨g1, 0, none⟩) 2 2, .slice (some ⟨g2, 0, none⟩) 2 2] (w.drewN (n + m)) fun e w'' => e = .returned (.bool true) ∧ ∃ k, w'' = w.drewN (n + k) := fun m => quiet_more (eqIntS_same _ _ 2 2 _ _ _ _ [p.1, p.2] _ (hR1.drewN _) (hR2.drewN _) (by simp))
      go_wp2_with fail
      go_quiet ((go_at_call 47; exact hq _))
      go_wp2_with fail
      go_roundw
      case rel => exact ⟨k + 1, _, by omega, by go_num, rfl⟩
      case measure => simp [intOf]; omega
    · go_wp2_with fail
      go_ret
      exact ⟨rfl, below_drewN (Below.refl _ _) n⟩

set_option maxHeartbeats 1000000 in
set_option maxRecDepth 100000 in
theorem rTable_same (A B : Option Addr) (c d lo hi lo' hi' : Nat) (T : List (Int × Int)) (w : World) (ha : RdT w lo hi A T.length T) (hb : RdT w lo' hi' B T.length T) (hl : T.length ≤ 2097152) (hh : hi ≤ w.heap.size) (hh' : hi' ≤ w.heap.size) :
    Calls Try.prog 38 #[.slice A T.length c, .slice B T.length d] w (fun e w' => e = .returned (.bool true) ∧ ∃ n, w.drewN n = w') := by
  go_enter Try.func38, Try.ntmps38
  go_wp2_with fail
  go_loopw [5] (fun i wr => ∃ k n : Nat, k ≤ T.length ∧ i = .int .i64 k ∧ w.drewN n = wr) (fun i _ => T.length - (intOf i).toNat)
  case atStart => exact ⟨0, 0, Nat.zero_le _, rfl, rfl⟩
  case round =>
    obtain ⟨k, n, hk, rfl, rfl⟩ := hrel
    by_cases hlt : k < T.length
    · obtain ⟨b1, o1, g1, p, rfl, _, hp, hc1, hR1⟩ := ha.geti hlt
      obtain ⟨b2, o2, g2, p', rfl, _, hp', hc2, hR2⟩ := hb.geti hlt
      obtain rfl : p = p' := by rw [hp] at hp'; injection hp'
      have q1 : (k : Int) < (T.length : Int) := by omega
      clear hp hp' ha hb
      have hq : ∀ m, Calls Try.prog 12 #[.slice (some ⟨g1, 0, none⟩) 2 2, .slice (some ⟨g2, 0, none⟩) 2 2] (w.drewN (n + m)) fun e w'' => e = .returned (.bool true) ∧ ∃ k, w'' = w.drewN (n + k) := fun m => quiet_more (rInts_same (c := 2) (d := 2) (xs := [p.1, p.2]) (hR1.drewN _) (hR2.drewN _) (by simp))
      go_wp2_with fail
      go_quiet ((go_at_call 12; exact hq _))
      go_wp2_with fail
      go_roundw
      case rel => exact ⟨k + 1, _, by omega, by go_num, rfl⟩
      case measure => simp [intOf]; omega
    · go_wp2_with fail
      go_ret
      exact ⟨rfl, n, rfl⟩


def mk2 (k : Int) (n : Nat) : List (Int × Int) := (List.range n).map fun i : Nat => (k + (i : Int) * 2, k + (i : Int) * 2 + 1)
theorem mk2_len (k : Int) (n : Nat) : (mk2 k n).length = n := by simp [mk2]
theorem mk2_succ (k : Int) (n : Nat) : mk2 k (n + 1) = mk2 k n ++ [(k + (n : Int) * 2, k + (n : Int) * 2 + 1)] := by simp [mk2, List.range_succ]
theorem mk2_get (k : Int) {n j : Nat} (h : j < n) : (mk2 k n)[j]? = some (k + (j : Int) * 2, k + (j : Int) * 2 + 1) := by simp [mk2, h]
theorem mk2_step (k : Int) (T : List (Int × Int)) {j : Nat} (hj : j < T.length) : (mk2 k j ++ T.drop j).set j (k + (j : Int) * 2, k + (j : Int) * 2 + 1) = mk2 k (j + 1) ++ T.drop (j + 1) := by
  rw [List.drop_eq_getElem_cons hj, List.set_append_right _ _ (by rw [mk2_len]; exact Nat.le_refl _), mk2_len, Nat.sub_self, List.set_cons_zero, mk2_succ]
  simp
theorem marks2 (k : Int) : marks k 2 = [k, k + 1] := by simp [marks]

set_option maxHeartbeats 1000000 in
set_option maxRecDepth 100000 in
theorem markIntSS_any (A : Option Addr) (c lo hi : Nat) (T : List (Int × Int)) (k : Int) (w : World) (ho : OwnT w lo hi A T.length c T) (h0 : 0 ≤ k) (h1 : k ≤ 1000000) (hl : T.length ≤ 2097152) (hh : hi ≤ w.heap.size) :
    Calls Try.prog 31 #[.slice A T.length c, .int .i64 k] w fun e w' => e = .returned (.int .i64 (k + (T.length : Int) * 2)) ∧ OwnT w' lo hi A T.length c (mk2 k T.length) ∧ Only lo hi w w' ∧ w'.heap.size ≤ w.heap.size := by
  obtain ⟨gs, hT⟩ := ho
  go_enter Try.func31, Try.ntmps31
  go_wp2_with fail
  go_loopw [1, 5] (fun t i wr => ∃ j : Nat, j ≤ T.length ∧ i = .int .i64 j ∧ t = .int .i64 (k + (j : Int) * 2) ∧ TabG wr lo hi A T.length c (mk2 k j ++ T.drop j) gs ∧ Only lo hi w wr ∧ wr.heap.size ≤ w.heap.size) (fun _ i _ => T.length - (intOf i).toNat)
  case atStart => exact ⟨0, Nat.zero_le _, rfl, by simp, by simpa [mk2] using hT, Only.refl _ _ _, Nat.le_refl _⟩
  case round =>
    clear hT
    obtain ⟨j, hj, rfl, rfl, hT, honly, hsz⟩ := hrel
    have hlg := hT.lg
    have hsw := honly.size
    by_cases hlt : j < T.length
    · obtain ⟨g, hg⟩ : ∃ g, gs[j]? = some g := ⟨_, List.getElem?_eq_getElem (by omega)⟩
      obtain ⟨p, hp⟩ : ∃ p, (mk2 k j ++ T.drop j)[j]? = some p := ⟨_, List.getElem?_eq_getElem (by rw [hT.lt]; exact hlt)⟩
      obtain ⟨go, hA, hgo1, hgo2⟩ := hT.out.length_pos (by omega)
      have hcell : wr.cell? ⟨go, j, none⟩ = some (.slice (some ⟨g, 0, none⟩) 2 2) := by
        obtain ⟨b, off, e, _, _, hc⟩ := hT.out.rd.2 (by omega)
        rw [hA] at e
        cases e
        have := hc j (.slice (some ⟨g, 0, none⟩) 2 2) (by rw [rowsV, List.getElem?_map, hg]; rfl)
        rwa [Nat.zero_add] at this
      obtain ⟨a1, a2, a3⟩ := hT.inn j g p hg hp
      have HG := Lib.hid hg
      have q1 : (j : Int) < (T.length : Int) := by omega
      have HTT := Lib.hid hT
      subst hA
      have HL := Lib.hid hlg
      clear hg hp hT hlg
      go_wp2_with fail
      refine (markIntS_any (some ⟨g, 0, none⟩) 2 g (g + 1) [p.1, p.2] (k + (j : Int) * 2) wr a3 (by omega) (by omega) (by simp)).mono ?_
      rintro e w1 ⟨he, hO, U, z⟩
      have hO' : OwnI w1 3 g (g + 1) (some ⟨g, 0, none⟩) 2 [k + (j : Int) * 2, k + (j : Int) * 2 + 1] := by rw [show ([p.1, p.2] : List Int).length = 2 from rfl, marks2] at hO; exact hO
      have he' : e = .returned (.int .i64 (k + (j : Int) * 2 + 2)) := he
      subst he'
      have hM := HTT.out.mark HG.out hO' U (by omega)
      rw [mk2_step k T hlt] at hM
      have HM := Lib.hid hM
      clear hM hO hO' he
      go_wp2_with fail
      go_roundw
      case rel => exact ⟨j + 1, by omega, by go_num, by go_num, HM.out.1, honly.trans HM.out.2, by omega⟩
      case measure => simp [intOf]; omega
    · obtain rfl : j = T.length := by omega
      go_wp2_with fail
      go_ret
      exact ⟨rfl, ⟨gs, by simpa using hT⟩, honly, hsz⟩

set_option maxHeartbeats 1000000 in
set_option maxRecDepth 100000 in
theorem heldIntSS_any (A : Option Addr) (c lo hi n : Nat) (k : Int) (w : World) (hr : RdT w lo hi A n (mk2 k n)) (h0 : 0 ≤ k) (h1 : k ≤ 1000000) (hl : n ≤ 2097152) :
    Calls Try.prog 32 #[.slice A n c, .int .i64 k] w fun e w' => e = .returned (.int .i64 (k + (n : Int) * 2)) ∧ w = w' := by
  have HR := Lib.hid hr
  clear hr
  go_enter Try.func32, Try.ntmps32
  go_wp2_with fail
  go_loop [1, 5] (fun t i => ∃ j : Nat, j ≤ n ∧ i = .int .i64 j ∧ t = .int .i64 (k + (j : Int) * 2)) (fun _ i => n - (intOf i).toNat)
  case atStart => exact ⟨0, Nat.zero_le _, rfl, by simp⟩
  case round =>
    obtain ⟨j, hj, rfl, rfl⟩ := hrel
    by_cases hlt : j < n
    · obtain ⟨b1, o1, g, p, rfl, _, hp, hc, hR⟩ := HR.out.geti hlt
      rw [mk2_get k hlt] at hp
      injection hp with hp
      subst hp
      have hR' : Rd w lo hi 1 (some ⟨g, 0, none⟩) 2 (ints (marks (k + (j : Int) * 2) 2)) := by rw [marks2]; exact hR
      have q1 : (j : Int) < (n : Int) := by omega
      have HR' := Lib.hid hR'
      clear hR hR'
      go_wp2_with fail
      refine (heldIntS_any (some ⟨g, 0, none⟩) 2 lo hi 2 (k + (j : Int) * 2) w HR'.out (by omega) (by omega) (by omega)).mono ?_
      rintro e w' ⟨he, rfl⟩
      have he' : e = .returned (.int .i64 (k + (j : Int) * 2 + 2)) := he
      subst he'
      clear he
      have q2 : ¬ (k + (j : Int) * 2 + 2 < 0) := by omega
      go_wp2_with fail
      go_round
      case rel => exact ⟨j + 1, by omega, by go_num, by go_num⟩
      case measure => simp [intOf]; omega
    · obtain rfl : j = n := by omega
      go_wp2_with fail
      go_ret
      exact ⟨rfl, rfl⟩

end Go.Proofs.Ytaehfcdcdjlanaa
