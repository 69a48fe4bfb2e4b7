/-
  This file proves contracts of the functions that draw a list of passes, and a line.
  Conditions: that the cursor lies in a block of the call's own, and has not been asked too often.
-/
import Derived.Test.YtaehfcdcdjlanaaPassH1
import Derived.Deep.RegionWith
namespace Go.Proofs.Ytaehfcdcdjlanaa
open Go.RowKit
set_option linter.unusedSimpArgs false
set_option linter.unusedVariables false

/-- A list of passes that a draw gives. -/
def DrawnP (N g b : Nat) (w : World) (e : Ending) (w' : World) : Prop := ∃ (A : Option Addr) (c : Nat) (ps : List GPass), e = .returned (.slice A ps.length c) ∧ ps.length ≤ N ∧ St w w' g b 40 6 A ps.length c (passCells ps)
theorem St.belowW {w wr w' : World} {g b : Nat} {e : TypeId} {size : Nat} {A : Option Addr} {n c : Nat} {cs : List Value} (h : St w wr g b e size A n c cs) (hb : Below wr.heap.size wr w') : St w w' g b e size A n c cs :=
  h.step (Only.of_below hb) (h.cur.below hb h.cur.lt)
/-- The list is begun anew. -/
theorem St.renew {w wr : World} {g b : Nat} {e : TypeId} {size : Nat} {A : Option Addr} {n c : Nat} {cs : List Value} (h : St w wr g b e size A n c cs) : St w (wr.alloc (.cells #[] e)) g b e size (some ⟨wr.heap.size, 0, none⟩) 0 0 [] :=
  ⟨⟨row_empty_at wr e size h.base, fun a ha => by cases ha; simp⟩, h.on.alloc _, h.cur.below (below_alloc1 _ _) h.cur.lt, h.hg⟩
theorem passes_snoc (F : List GPass) (p : GPass) : passCells F ++ p.cells = passCells (F ++ [p]) := by simp [passCells]
theorem St.pushP {w wr w7 : World} {v7 : Value} {g b n c : Nat} {A : Option Addr} {F : List GPass} {x1 x2 x3 x4 x5 x6 : Int} (h : St w wr g b 40 6 A n c (passCells F)) (hn : n = F.length)
    (hown : w7.ownsRow w.heap.size 40 6 v7 (n + 1) (passCells F ++ [.int .i64 x1, .int .i64 x2, .int .i64 x3, .int .i64 x4, .int .i64 x5, .int .i64 x6])) (hb : ∀ w0, Below w.heap.size w0 wr → Below w.heap.size w0 w7) :
    ∃ A' c' F', v7 = .slice A' F'.length c' ∧ F'.length = n + 1 ∧ St w w7 g b 40 6 A' F'.length c' (passCells F') := by
  have hown := hown
  replace hown : w7.ownsRow w.heap.size 40 6 v7 (n + 1) (passCells (F ++ [⟨x1, x2, x3, x4, x5, x6⟩])) := by rw [← passes_snoc]; exact hown
  obtain ⟨A', c', hv, hs⟩ := h.push hown hb
  have e : (F ++ [(⟨x1, x2, x3, x4, x5, x6⟩ : GPass)]).length = n + 1 := by simp; omega
  exact ⟨A', c', F ++ [⟨x1, x2, x3, x4, x5, x6⟩], by rw [e]; exact hv, e, by rw [e]; exact hs⟩
theorem Own.noBlock {w : World} {e : TypeId} {lo hi size n c k : Nat} {A : Option Addr} {xs : List Value} (h : Own w e lo hi size A n c xs) (hk : hi ≤ k) : (Value.slice A n c).ownBlock ≠ some k := by
  rcases A with _ | a
  · simp [Value.ownBlock]
  · have := h.2 a rfl
    simp [Value.ownBlock]
    omega

set_option maxHeartbeats 4000000 in
set_option maxRecDepth 100000 in
theorem passes_any {g b : Nat} {w : World} (hc : Cur w g b) (hb : b ≤ 900000) :
    Calls Try.prog 50 #[.pointer (some ⟨g, 0, none⟩)] w (DrawnP 13 g (b + 500) w) := by
  obtain ⟨i0, hi0, hz0, hz1, hz2⟩ := info_parts pass_info
  have S0 := St.nil 40 6 hc
  go_enter Try.func50, Try.ntmps50
  go_wp2_with fail
  have hs0 : w.heap.size + 1 = (w.alloc (.cells #[] 40)).heap.size := by simp
  generalize w.alloc (.cells #[] 40) = w0 at S0 hs0 ⊢
  have HS0 := Lib.hid hs0
  clear hs0
  have T1 := S0.alloc (.cells #[.int .i64 0, .int .i64 100, .int .i64 9700] 3)
  have R1 := rdI_newg w0 (w.heap.size + 1) 3 [0, 100, 9700] #[.int .i64 0, .int .i64 100, .int .i64 9700] rfl HS0.out
  refine (among_any T1.cur (by omega) R1 (.inr (by have := HS0.out; have := S0.hg; omega)) (by have := HS0.out; simp; omega) (by decide) (by decide)).mono ?_
  rintro e w1 ⟨bg, hm_bg, rfl, on1, cc1, z1⟩
  have S1 := T1.step on1 cc1
  clear T1 R1 z1 on1 cc1 hm_bg S0 HS0
  go_wp2_with fail
  refine (pick_any S1.cur (by omega) (by omega) (by omega)).mono ?_
  rintro e w2 ⟨pn, rfl, h1_pn, h2_pn, on_S2, c_S2, z_S2⟩
  have S2 := S1.step on_S2 c_S2
  clear S1 z_S2 on_S2 c_S2
  obtain ⟨n, rfl⟩ : ∃ n : Nat, pn = (n : Int) := ⟨pn.toNat, by omega⟩
  go_wp2_with fail
  go_loopw [3, 4, 5] (fun v x i wr => ∃ (k : Nat) (A : Option Addr) (c : Nat) (F : List GPass) (bg : Int), i = .int .i64 k ∧ x = .int .i64 bg ∧ v = .slice A F.length c ∧ F.length + k ≤ 8 ∧ St w wr g (b + 4 + 30 * F.length) 40 6 A F.length c (passCells F)) (fun _ _ i _ => (intOf i).toNat)
  case atStart => exact ⟨n, _, _, [], bg, by go_num, rfl, rfl, by simp; omega, S2.more (by simp)⟩
  case round =>
    clear S2
    obtain ⟨k, A, c, F, bg, rfl, rfl, rfl, hk, S3⟩ := hrel
    by_cases hk0 : 0 < k
    · have q1 : (0 : Int) < (k : Int) := by omega
      go_wp2_with fail
      refine (pass_any S3.cur (by omega)).mono ?_
      rintro e w4 ⟨q, rfl, on4, cc4⟩
      have S4 := S3.step on4 cc4
      have HX := Lib.hid (fun (wx : World) (on : Only g (g + 1) w4 wx) (h : wx.cell? ⟨w4.heap.size, 2, none⟩ = some (.int .i64 q.en)) => h)
      have H6 := Holds6.new w4 q
      obtain ⟨d0, d1, d2, d3, d4, d5⟩ := H6
      have S5 := S4.alloc (.cells #[.int .i64 q.ln, .int .i64 q.bg, .int .i64 q.en, .int .i64 q.pg, .int .i64 q.bd, .int .i64 q.cs] 40)
      have NB := S4.own.noBlock (Nat.le_refl _)
      have hgp : g ≠ w4.heap.size := by have := S4.cur.lt; omega
      have hgp2 : g < w4.heap.size := S4.cur.lt
      have hsz5 : w4.heap.size < (w4.alloc (.cells #[.int .i64 q.ln, .int .i64 q.bg, .int .i64 q.en, .int .i64 q.pg, .int .i64 q.bd, .int .i64 q.cs] 40)).heap.size := by simp
      clear S3 S4 on4 cc4 HX
      go_wp2_with (at_builtin; refine wpList_push_at _ rfl _ _ 24 rfl w.heap.size 40 i0 (.agg #[.int .i64 0, .int .i64 0, .int .i64 0, .int .i64 0, .int .i64 0, .int .i64 0]) 6 48 Try.underlying24 hi0 hz0 hz1 hz2 rfl (by decide) _ _ _ rfl S5.own.1 _ rfl (one_six q) _ rfl (by simp) (by omega) (by decide) S5.base ?_; intro v7 w7 hown7 hb7 hs7 _ hk7)
      have e2 : w7.cell? ⟨w4.heap.size, 2, none⟩ = some (.int .i64 q.en) := (World.cell?_of_block (a := ⟨w4.heap.size, 2, none⟩) (hk7 _ hsz5 NB)).trans d2
      obtain ⟨A', c', F', rfl, hF', S7⟩ := S5.pushP rfl hown7 hb7
      clear d0 d1 d2 d3 d4 d5 S5 NB hown7 hb7 hs7 hk7 hsz5
      have hsz7 : w4.heap.size < w7.heap.size := World.block_lt_of_cell? w7 _ e2
      have HA : ∀ W, Below (w7.alloc (.cells #[.int .i64 0, .int .i64 0, .int .i64 5, .int .i64 30] 3)).heap.size (w7.alloc (.cells #[.int .i64 0, .int .i64 0, .int .i64 5, .int .i64 30] 3)) W →
          Calls Try.prog 65 #[.pointer (some ⟨g, 0, none⟩), .slice (some ⟨w7.heap.size, 0, none⟩) 4 4] W fun e w8 => ∃ dv : Int, e = .returned (.int .i64 dv) ∧ St w w8 g (b + 4 + 30 * F.length + 22) 40 6 A' F'.length c' (passCells F') ∧ w8.cell? ⟨w4.heap.size, 2, none⟩ = some (.int .i64 q.en) := by
        intro W hW
        have T7 := (S7.alloc (.cells #[.int .i64 0, .int .i64 0, .int .i64 5, .int .i64 30] 3)).belowW hW
        refine (among_any T7.cur (by omega) ((rdI_new w7 3 [0, 0, 5, 30] #[.int .i64 0, .int .i64 0, .int .i64 5, .int .i64 30] rfl).below hW (by simp)) (.inr (by have := S7.cur.lt; omega)) (by have := hW.size; simp at this; omega) (by decide) (by decide)).mono ?_
        rintro e w8 ⟨dv, _, rfl, on8, cc8, z8⟩
        refine ⟨dv, rfl, T7.step on8 cc8, ?_⟩
        refine (World.cell?_of_block (a := ⟨w4.heap.size, 2, none⟩) ?_).trans e2
        have h1 := (((Only.refl g (g + 1) w7).alloc (.cells #[.int .i64 0, .int .i64 0, .int .i64 5, .int .i64 30] 3)).trans (Only.of_below hW)).trans on8
        exact h1.block _ hsz7 (.inr hgp2)
      have HP : ∀ w8 W, St w w8 g (b + 4 + 30 * F.length + 22) 40 6 A' F'.length c' (passCells F') → w8.cell? ⟨w4.heap.size, 2, none⟩ = some (.int .i64 q.en) → Below w8.heap.size w8 W →
          Calls Try.prog 51 #[.pointer (some ⟨g, 0, none⟩), .int .i64 90] W fun e w9 => ∃ pv : Int, e = .returned (.int .i64 pv) ∧ St w w9 g (b + 4 + 30 * F.length + 24) 40 6 A' F'.length c' (passCells F') ∧ w9.cell? ⟨w4.heap.size, 2, none⟩ = some (.int .i64 q.en) := by
        intro w8 W S8 e8 hW
        have T8 := S8.belowW hW
        refine (pick_any T8.cur (by omega) (by omega) (by omega)).mono ?_
        rintro e w9 ⟨pv, rfl, _, _, on9, cc9, z9⟩
        refine ⟨pv, rfl, T8.step on9 cc9, ?_⟩
        refine (World.cell?_of_block (a := ⟨w4.heap.size, 2, none⟩) ?_).trans e8
        exact ((Only.of_below hW).trans on9).block _ (World.block_lt_of_cell? w8 _ e8) (.inr hgp2)
      have hn7 := Lib.hid hF'
      clear hF'
      go_region_with (first
        | (go_at_call 65
           refine (HA _ (by first | exact Below.refl _ _ | exact (Below.refl _ _).drew | exact (Below.refl _ _).drew.drew | exact (Below.refl _ _).drew.drew.drew)).mono ?_
           rintro e w8 ⟨dv, rfl, S8, e8⟩)
        | (go_at_call 51
           refine (HP w8 _ S8 e8 (by first | exact Below.refl _ _ | exact (Below.refl _ _).drew | exact (Below.refl _ _).drew.drew | exact (Below.refl _ _).drew.drew.drew)).mono ?_
           rintro e w9 ⟨pv, rfl, S9, e9⟩))
      all_goals
        obtain ⟨k', rfl⟩ : ∃ k', k = k' + 1 := ⟨k - 1, by omega⟩
        go_wp2_with fail
        go_roundw
        case rel => exact ⟨k', A', c', F', _, by go_num, rfl, rfl, by have := hn7.out; omega, by have := hn7.out; first | exact S9.more (by omega) | exact (S9.belowW (Below.refl _ _).drew).more (by omega)⟩
        case measure => first | (simp [intOf]; done) | (simp [intOf]; omega)
    obtain rfl : k = 0 := by omega
    have hFl : F.length ≤ 8 := by omega
    go_wp2_with fail
    refine (one_any S3.cur (by omega) (by omega) (by omega)).mono ?_
    rintro e w4 ⟨ov, rfl, on4, cc4, z4⟩
    have S4 := S3.step on4 cc4
    clear S3 on4 cc4 z4
    rcases ov with _ | _
    · go_wp2_with fail
      go_ret
      exact ⟨A, c, F, rfl, by omega, S4.more (by omega)⟩
    have S6 := S4.renew
    go_wp2_with fail
    go_loopw [3, 7] (fun v i wr => ∃ (j : Nat) (A : Option Addr) (c : Nat) (qs : List GPass), i = .int .i64 j ∧ v = .slice A qs.length c ∧ qs.length = j ∧ j ≤ 13 ∧ St w wr g (b + 300 + 2 * j) 40 6 A qs.length c (passCells qs)) (fun _ i _ => 14 - (intOf i).toNat)
    case atStart => exact ⟨0, _, _, [], rfl, rfl, rfl, by omega, S6.more (by omega)⟩
    case round =>
      clear S4 S6
      obtain ⟨j, A, c, qs, rfl, rfl, hj, hj2, S5⟩ := hrel
      have HJ := Lib.hid hj
      have hj3 : qs.length ≤ 13 := by omega
      clear hj
      go_wp2_with fail
      refine (pick_any S5.cur (by omega) (by omega) (by omega)).mono ?_
      rintro e w6 ⟨iv, rfl, h1_iv, h2_iv, on6, cc6, z6⟩
      have S6 := S5.step on6 cc6
      clear S5 on6 cc6 z6
      by_cases hc2 : (j : Int) < 12 + iv
      · go_wp2_with (at_builtin; refine wpList_push_at _ rfl _ _ 24 rfl w.heap.size 40 i0 (.agg #[.int .i64 0, .int .i64 0, .int .i64 0, .int .i64 0, .int .i64 0, .int .i64 0]) 6 48 Try.underlying24 hi0 hz0 hz1 hz2 rfl (by decide) _ _ _ rfl S6.own.1 _ rfl (one_six ⟨_, _, _, _, _, _⟩) _ rfl (by simp) (by omega) (by decide) S6.base ?_; intro v7 w7 hown7 hb7 hs7 _ _)
        obtain ⟨A', c', F', rfl, hF', S7⟩ := S6.pushP rfl hown7 hb7
        go_wp2_with fail
        go_roundw
        case rel => exact ⟨j + 1, A', c', F', by go_num, rfl, by rw [hF', HJ.out], by omega, S7.more (by omega)⟩
        case measure => simp [intOf]; omega
      · go_wp2_with fail
        go_ret
        exact ⟨A, c, qs, rfl, hj3, S6.more (by omega)⟩

end Go.Proofs.Ytaehfcdcdjlanaa
