/-
  This file proves the contract of the program of PutPass.
  Conditions: that the slice is a row of passes of the call's own, that it is not too long.
-/
import Derived.Test.YtaehfcdcdjlanaaPutP
import Derived.Test.YtaehfcdcdjlanaaCatAt
namespace Go.Proofs.Ytaehfcdcdjlanaa
open Go.RowKit
set_option linter.unusedSimpArgs false
set_option linter.unusedVariables false

theorem at_vb {P : Program} {f : FuncId} {A : Option Addr} {n c vb : Nat} {j : Int} {w : World} {R : Ending → World → Prop} (h : Calls P f #[.slice A n c, .int .i64 j, .slice (some ⟨vb, 0, none⟩) 1 1] w R) : Calls P f #[.slice A n c, .int .i64 j, .slice (some ⟨vb, 0, none⟩) 1 1] w R := h
theorem heap_new_at (w : World) (o : Obj) (g : Nat) (hg : g = w.heap.size) : (w.alloc o).heap[g]? = some o := by
  subst hg
  exact heap_alloc_new w o

set_option maxHeartbeats 2000000 in
set_option maxRecDepth 100000 in
theorem iPutPass {A : Option Addr} {c lo hi : Nat} {ps : List GPass} {q : GPass} {w : World} (ho : Own w 40 lo hi 6 A ps.length c (passCells ps)) (hl : ps.length ≤ 1048576) (hh : hi ≤ w.heap.size) :
    Calls Try.prog 35 #[.slice A ps.length c, .agg #[.int .i64 q.ln, .int .i64 q.bg, .int .i64 q.en, .int .i64 q.pg, .int .i64 q.bd, .int .i64 q.cs]] w (RetPB (vPutPass ps q).1 (vPutPass ps q).2 w) := by
  obtain ⟨ie, hie, hez0, hez1, hez2⟩ := info_parts pass_info
  have Bx := below_alloc1 w (.cells #[.int .i64 q.ln, .int .i64 q.bg, .int .i64 q.en, .int .i64 q.pg, .int .i64 q.bd, .int .i64 q.cs] 40)
  have hox := ho.below Bx hh
  have H6 := Holds6.new w q
  have hzx : (w.alloc (.cells #[.int .i64 q.ln, .int .i64 q.bg, .int .i64 q.en, .int .i64 q.pg, .int .i64 q.bd, .int .i64 q.cs] 40)).heap.size = w.heap.size + 1 := by simp
  have hcap := ho.cap
  go_enter Try.func35, Try.ntmps35
  go_wp2_with fail
  generalize w.alloc (.cells #[.int .i64 q.ln, .int .i64 q.bg, .int .i64 q.en, .int .i64 q.pg, .int .i64 q.bd, .int .i64 q.cs] 40) = w0 at Bx hox H6 hzx ⊢
  refine (arePasses_any hox.rd (by omega) (by omega)).mono ?_
  rintro e wa ⟨rfl, Ba⟩
  have hsa := Ba.size
  have hba := Bx.trans (Ba.mono (by omega))
  obtain ⟨gb, hgb⟩ : ∃ gb, gb = w.heap.size := ⟨_, rfl⟩
  have H6a := H6.below Ba (by omega)
  rw [← hgb] at H6a ⊢
  have hgl0 : gb < wa.heap.size := by omega
  have hoa := hox.below Ba (by omega)
  clear hgb
  rcases hg0 : isPL ps with _ | _
  · have HE := Lib.hid (show vPutPass ps q = ([], false) from by unfold vPutPass; rw [if_neg (by simp [hg0])])
    clear hg0
    go_wp2_with fail
    go_ret2
    rw [HE.out]
    exact retPB_nil _ _ _ hba
  obtain ⟨b0, b1, b2, b3, b4, b5⟩ := H6a
  rcases hgq : isPs q with _ | _
  · have HE := Lib.hid (show vPutPass ps q = ([], false) from by unfold vPutPass; rw [if_neg (by rw [putP_bad hgq]; simp)])
    clear hg0
    go_wp2_with fail
    refine (isPass_any q _).mono ?_
    rintro e wb ⟨rfl, Bb⟩
    rw [hgq]
    have hbb := hba.trans (Bb.mono hba.size)
    go_wp2_with fail
    go_ret2
    rw [HE.out]
    exact retPB_nil _ _ _ hbb
  have HVP := Lib.hid (fun (j : Nat) (hp : posP q.bg ps = j) => (show vPutPass ps q = if isPL (putP ps j q) = true then (putP ps j q, true) else ([], false) from by unfold vPutPass; rw [hp]; by_cases h2 : isPL (putP ps j q) = true <;> simp [hg0, h2]))
  have h12 := isPL_len hg0
  clear hg0
  go_wp2_with fail
  refine (isPass_any q _).mono ?_
  rintro e w1 ⟨rfl, B1⟩
  rw [hgq]
  have hs1 := B1.size
  have hb1 := hba.trans (B1.mono hba.size)
  have hgl : gb < w1.heap.size := by omega
  have H61 : Holds6 w1 gb q := Holds6.below (show Holds6 wa gb q from ⟨b0, b1, b2, b3, b4, b5⟩) B1 hgl0
  have ho1 := hoa.below B1 (by omega)
  have hhw1 : hi ≤ w1.heap.size := by omega
  clear H6 hox Bx Ba B1 hzx hs1 hsa ho hoa hh hba b0 b1 b2 b3 b4 b5 hgq hgl0
  rcases ho1.head with ⟨rfl, h0, rfl⟩ | ⟨g, rfl, hg1, hg2⟩
  · have q1 : (ps.length : Int) = 0 := by omega
    have hj : 0 ≤ ps.length := Nat.zero_le _
    have HVJ := Lib.hid (HVP.out 0 (posP_eq ps 0 (Nat.zero_le _) (fun m p hm => absurd hm (by omega)) (.inl h0.symm)))
    have HZ := Lib.hid h0
    clear HVP
    rw [h0] at ho1 ⊢
    go_wp2_with fail
    go_loopw [6] (fun t wr => t = .int .i64 (0 : Int) ∧ Below w1.heap.size w1 wr) (fun _ _ => 0)
    case atStart => exact ⟨rfl, Below.refl _ _⟩
    case round =>
      obtain ⟨rfl, hbw⟩ := hrel
      go_wp2_with fail
      go_quiet (fail)
      go_wp2_with fail
      generalize hwx : wr.drewN _ = wx
      have hbx : Below w1.heap.size w1 wx := by rw [← hwx]; exact below_drewN hbw _
      have HX := Lib.hid (show Below w.heap.size w wx ∧ gb < wx.heap.size ∧ Holds6 wx gb q ∧ Rd wx lo hi 6 none ps.length (passCells ps) from ⟨hb1.trans (hbx.mono hb1.size), Nat.lt_of_lt_of_le hgl hbx.size, H61.below hbx hgl, by rw [HZ.out]; exact ho1.rd.below hbx hhw1⟩)
      have hhx : hi ≤ wx.heap.size := Nat.le_trans hhw1 hbx.size
      have h0 := HZ.out
      clear hwx hbw hbx hb1 H61 ho1 q1
      obtain rfl : ps = [] := List.eq_nil_of_length_eq_zero HZ.out
      obtain ⟨H, hH⟩ : ∃ H, H = wx.heap.size := ⟨_, rfl⟩
      have hHs : H ≤ wx.heap.size := by omega
      have hgH : gb < H := by have := HX.out.2.1; omega
      have hwH : w.heap.size ≤ H := by have := HX.out.1.size; omega
      have HC : ∀ W, Below H wx W → (W.cell? ⟨gb, 0, none⟩ = some (.int .i64 q.ln) ∧ W.cell? ⟨gb, 1, none⟩ = some (.int .i64 q.bg) ∧ W.cell? ⟨gb, 2, none⟩ = some (.int .i64 q.en) ∧ W.cell? ⟨gb, 3, none⟩ = some (.int .i64 q.pg) ∧ W.cell? ⟨gb, 4, none⟩ = some (.int .i64 q.bd) ∧ W.cell? ⟨gb, 5, none⟩ = some (.int .i64 q.cs)) := fun W hW => HX.out.2.2.1.below hW hgH
      have RD : ∀ W, Below H wx W → Rd W lo hi 6 none 0 (passCells ([] : List GPass)) := fun W _ => ⟨rfl, fun h => absurd h (by omega)⟩
      clear hH
      go_region_held3 (fun w' => (w'.cell? ⟨gb, 0, none⟩ = some (.int .i64 q.ln) ∧ w'.cell? ⟨gb, 1, none⟩ = some (.int .i64 q.bg) ∧ w'.cell? ⟨gb, 2, none⟩ = some (.int .i64 q.en) ∧ w'.cell? ⟨gb, 3, none⟩ = some (.int .i64 q.pg) ∧ w'.cell? ⟨gb, 4, none⟩ = some (.int .i64 q.bd) ∧ w'.cell? ⟨gb, 5, none⟩ = some (.int .i64 q.cs)) ∧ Below H wx w')
        ((first | exact ⟨HC _ (Below.refl _ _).drew, (Below.refl _ _).drew⟩ | exact ⟨HC _ L2, L2⟩ | exact ⟨HC _ L1, L1⟩ | exact ⟨HC _ (L1.alloc L1s _), L1.alloc L1s _⟩ | exact ⟨HC _ (((Below.refl _ _).drew).alloc hHs _), ((Below.refl _ _).drew).alloc hHs _⟩ | exact ⟨HC _ ((((Below.refl _ _).drew).alloc hHs _).alloc (by simp; omega) _), (((Below.refl _ _).drew).alloc hHs _).alloc (by simp; omega) _⟩))
        ((first | (go_at_call 77; refine (insert_any (A := A1) (c := c1) (lo := H) (hi := v1.heap.size) (j := 0) (ps := ([] : List GPass)) (q := q) (by first | exact O1 | exact O1.below (below_alloc1 _ _) (Nat.le_refl _)) (by first | omega | simp) (by first | exact L1s | (simp; omega)) (by first | exact Nat.le_refl _ | simp) (by first | exact heap_alloc_new _ _ | (refine (k1 _ ?_ ?_).trans ?_; (simp <;> omega); (simp [Value.ownBlock] <;> omega); first | (refine heap_new_at _ _ _ ?_; simp; done) | (refine (Below.heap_alloc _ _ _ ?_).trans ?_; (simp <;> omega); exact heap_new_at _ _ _ rfl))) (by intro a ha e; first | (have := O1.2 a ha; omega) | (refine l1 _ ?_ ?_ (by rw [ha]; exact congrArg some e); (simp <;> omega); (simp [Value.ownBlock] <;> omega))) (by first | omega | simp)).mono ?_; rintro e v2 ⟨A2, c2, rfl, O2, B2⟩; have L2 : Below H wx v2 := (show Below H wx _ from (by first | assumption | exact And.right (by assumption))).trans B2) | (refine step_cat_at _ (by rfl) (.tmp 32) (.tmp 33) 24 (by rfl) H 40 ie (.agg #[.int .i64 0, .int .i64 0, .int .i64 0, .int .i64 0, .int .i64 0, .int .i64 0]) 6 48 Try.underlying24 hie hez0 hez1 hez2 (by rfl) (by decide) (some ⟨wx.heap.size, 0, none⟩) 0 0 [] (by rfl) _ ((own_emptyP _).more (by first | (simp; omega) | omega) (Nat.le_refl _)) lo hi none 0 0 (passCells ([] : List GPass)) (by rfl) (RD _ (by first | assumption | exact And.right (by assumption))) (one_passes _) (by omega) (by decide) (by first | assumption | exact (by assumption : Below _ _ _).size | (simp; omega) | omega) ?_; intro A1 c1 v1 O1 b1 s1 k1 l1; rw [Nat.zero_add] at O1; rw [List.nil_append] at O1; (try rw [Nat.zero_add]); have L1 : Below H wx v1 := b1 wx (by first | assumption | exact And.right (by assumption)); have L1s : H ≤ v1.heap.size := Nat.le_trans hHs L1.size) | (refine step_cat_at _ (by rfl) (.tmp 32) (.tmp 33) 24 (by rfl) H 40 ie (.agg #[.int .i64 0, .int .i64 0, .int .i64 0, .int .i64 0, .int .i64 0, .int .i64 0]) 6 48 Try.underlying24 hie hez0 hez1 hez2 (by rfl) (by decide) (some ⟨wx.heap.size, 0, none⟩) 0 0 [] (by rfl) _ (((own_emptyP _).below (below_alloc1 _ _) (Nat.le_refl _)).more (by first | (simp; omega) | omega) (Nat.le_refl _)) lo hi none 0 0 (passCells ([] : List GPass)) (by rfl) (RD _ (by first | assumption | exact And.right (by assumption))) (one_passes _) (by omega) (by decide) (by first | assumption | exact (by assumption : Below _ _ _).size | (simp; omega) | omega) ?_; intro A1 c1 v1 O1 b1 s1 k1 l1; rw [Nat.zero_add] at O1; rw [List.nil_append] at O1; (try rw [Nat.zero_add]); have L1 : Below H wx v1 := b1 wx (by first | assumption | exact And.right (by assumption)); have L1s : H ≤ v1.heap.size := Nat.le_trans hHs L1.size) | (refine step_cat_at _ (by rfl) (.tmp 32) (.tmp 33) 24 (by rfl) H 40 ie (.agg #[.int .i64 0, .int .i64 0, .int .i64 0, .int .i64 0, .int .i64 0, .int .i64 0]) 6 48 Try.underlying24 hie hez0 hez1 hez2 (by rfl) (by decide) (some ⟨wx.heap.size + 1, 0, none⟩) 0 0 [] (by rfl) _ ((own_emptyPg _ (wx.heap.size + 1) (by simp)).more (by omega) (Nat.le_refl _)) lo hi none 0 0 (passCells ([] : List GPass)) (by rfl) (RD _ (by first | assumption | exact And.right (by assumption))) (one_passes _) (by omega) (by decide) (by first | assumption | exact (by assumption : Below _ _ _).size | (simp; omega) | omega) ?_; intro A1 c1 v1 O1 b1 s1 k1 l1; rw [Nat.zero_add] at O1; rw [List.nil_append] at O1; (try rw [Nat.zero_add]); have L1 : Below H wx v1 := b1 wx (by first | assumption | exact And.right (by assumption)); have L1s : H ≤ v1.heap.size := Nat.le_trans hHs L1.size)))
      all_goals
        obtain ⟨qs, hqs⟩ : ∃ qs, qs = putP ([] : List GPass) 0 q := ⟨_, rfl⟩
        have hql : qs.length = (([] : List GPass)).length + 1 := by rw [hqs, putP_length _ (by first | omega | simp)]
        rw [← hqs] at O2 ⊢
        have HV := Lib.hid (show vPutPass ([] : List GPass) q = if isPL qs = true then (qs, true) else ([], false) from by rw [hqs]; exact HVJ.out)
        have HL := Lib.hid (show qs.length ≤ 2000000 from by have : (([] : List GPass)).length ≤ 12 := h12; omega)
        clear hqs hql O1 b1 k1 l1 s1 L1
        rcases hgd : isPL qs with _ | _
        · have HE := Lib.hid (HV.out.trans (if_neg (by simp [hgd])))
          have HG := Lib.hid hgd
          clear hgd
          go_wp2_with fail
          refine (arePasses_any O2.rd (by have := HL.out; omega) (Nat.le_refl _)).mono ?_
          rintro e w4 ⟨rfl, B4⟩
          rw [HG.out]
          have hb4 := (HX.out.1.trans (L2.mono hwH)).trans (B4.mono (by have := L2.size; have := HX.out.1.size; omega))
          go_wp2_with fail
          go_ret2
          rw [HE.out]
          exact retPB_nil _ _ _ hb4
        · have HE := Lib.hid (HV.out.trans (if_pos hgd))
          have HG := Lib.hid hgd
          clear hgd
          go_wp2_with fail
          refine (arePasses_any O2.rd (by have := HL.out; omega) (Nat.le_refl _)).mono ?_
          rintro e w4 ⟨rfl, B4⟩
          rw [HG.out]
          have hb4 := (HX.out.1.trans (L2.mono hwH)).trans (B4.mono (by have := L2.size; have := HX.out.1.size; omega))
          go_wp2_with fail
          go_ret2
          rw [HE.out]
          exact ⟨A2, c2, rfl, (O2.below B4 (Nat.le_refl _)).more hwH B4.size, hb4⟩
  · have hcell : ∀ W, Below w1.heap.size w1 W → RdP W lo hi (some ⟨g, 0, none⟩) ps := fun W hW => ho1.rd.below hW hhw1
    have hbox : ∀ W, Below w1.heap.size w1 W → Holds6 W gb q := fun W hW => H61.below hW hgl
    have HHX := Lib.hid (fun (wx : World) (hbx : Below w1.heap.size w1 wx) => (show Below w.heap.size w wx ∧ gb < wx.heap.size ∧ Holds6 wx gb q ∧ Rd wx lo hi 6 (some ⟨g, 0, none⟩) ps.length (passCells ps) from ⟨hb1.trans (hbx.mono hb1.size), Nat.lt_of_lt_of_le hgl hbx.size, H61.below hbx hgl, ho1.rd.below hbx hhw1⟩))
    clear hb1 H61 ho1
    go_wp2_with fail
    go_loopw [6] (fun t wr => ∃ j : Nat, j ≤ ps.length ∧ t = .int .i64 j ∧ (∀ (m : Nat) (p : GPass), m < j → ps[m]? = some p → p.bg < q.bg) ∧ Below w1.heap.size w1 wr) (fun t _ => ps.length - (intOf t).toNat)
    case atStart => exact ⟨0, Nat.zero_le _, rfl, (fun m p hm => absurd hm (by omega)), Below.refl _ _⟩
    case round =>
      obtain ⟨j, hj, rfl, hlow, hbw⟩ := hrel
      have HLOW := Lib.hid hlow
      obtain ⟨x0, x1, x2, x3, x4, x5⟩ := hbox _ hbw
      clear hlow
      by_cases hlt : j < ps.length
      · obtain ⟨b, off, p, hAA, _, _, hp, c0, c1, c2, c3, c4, c5⟩ := (hcell _ hbw).getp hlt
        injection hAA with hAA
        injection hAA with hbb hof hpath
        subst hbb
        subst hof
        simp only [Nat.zero_add] at c0 c1 c2 c3 c4 c5
        have HP := Lib.hid hp
        have q1 : (j : Int) < (ps.length : Int) := by omega
        clear hp
        by_cases hlt2 : p.bg < q.bg
        · have hd : decide (p.bg < q.bg) = true := decide_eq_true hlt2
          go_wp2_with fail
          go_quiet (fail)
          go_wp2_with fail
          go_roundw
          case rel => exact ⟨j + 1, by omega, by go_num, (fun m p' hm h => by
            rcases Nat.lt_or_ge m j with h1 | h1
            · exact HLOW.out m p' h1 h
            · obtain rfl : m = j := by omega
              rw [HP.out] at h
              injection h with h
              subst h
              exact hlt2), below_drewN hbw _⟩
          case measure => simp [intOf]; omega
        · have hd : decide (p.bg < q.bg) = false := decide_eq_false hlt2
          have HVJ := Lib.hid (HVP.out j (posP_eq ps j hj HLOW.out (.inr ⟨p, HP.out, hlt2⟩)))
          go_wp2_with fail
          go_quiet (fail)
          go_wp2_with fail
          generalize hwx : wr.drewN _ = wx
          have hbx : Below w1.heap.size w1 wx := by rw [← hwx]; exact below_drewN hbw _
          have HX := Lib.hid (HHX.out wx hbx)
          have hhx : hi ≤ wx.heap.size := Nat.le_trans hhw1 hbx.size
          have r1 : j ≤ c := by omega
          have r3 : (j : Int) ≤ (c : Int) := by omega
          have r4 : (0 : Int) ≤ (j : Int) := by omega
          have r5 : (ps.length : Int) ≤ (c : Int) := by omega
          have r6 : (j : Int) ≤ (ps.length : Int) := by omega
          clear hwx hbw hbx x0 x1 x2 x3 x4 x5 c0 c1 c2 c3 c4 c5 hlt2 hd hcell hbox HHX HVP HLOW HP
          obtain ⟨H, hH⟩ : ∃ H, H = wx.heap.size := ⟨_, rfl⟩
          have hHs : H ≤ wx.heap.size := by omega
          have hgH : gb < H := by have := HX.out.2.1; omega
          have hwH : w.heap.size ≤ H := by have := HX.out.1.size; omega
          have HC : ∀ W, Below H wx W → (W.cell? ⟨gb, 0, none⟩ = some (.int .i64 q.ln) ∧ W.cell? ⟨gb, 1, none⟩ = some (.int .i64 q.bg) ∧ W.cell? ⟨gb, 2, none⟩ = some (.int .i64 q.en) ∧ W.cell? ⟨gb, 3, none⟩ = some (.int .i64 q.pg) ∧ W.cell? ⟨gb, 4, none⟩ = some (.int .i64 q.bd) ∧ W.cell? ⟨gb, 5, none⟩ = some (.int .i64 q.cs)) := fun W hW => HX.out.2.2.1.below hW hgH
          have RD : ∀ W, Below H wx W → Rd W lo hi 6 (some ⟨g, 0, none⟩) ps.length (passCells ps) := fun W hW => HX.out.2.2.2.below hW (by omega)
          clear hH
          go_region_held3 (fun w' => (w'.cell? ⟨gb, 0, none⟩ = some (.int .i64 q.ln) ∧ w'.cell? ⟨gb, 1, none⟩ = some (.int .i64 q.bg) ∧ w'.cell? ⟨gb, 2, none⟩ = some (.int .i64 q.en) ∧ w'.cell? ⟨gb, 3, none⟩ = some (.int .i64 q.pg) ∧ w'.cell? ⟨gb, 4, none⟩ = some (.int .i64 q.bd) ∧ w'.cell? ⟨gb, 5, none⟩ = some (.int .i64 q.cs)) ∧ Below H wx w')
            ((first | exact ⟨HC _ (Below.refl _ _).drew, (Below.refl _ _).drew⟩ | exact ⟨HC _ L2, L2⟩ | exact ⟨HC _ L1, L1⟩ | exact ⟨HC _ (L1.alloc L1s _), L1.alloc L1s _⟩ | exact ⟨HC _ (((Below.refl _ _).drew).alloc hHs _), ((Below.refl _ _).drew).alloc hHs _⟩ | exact ⟨HC _ ((((Below.refl _ _).drew).alloc hHs _).alloc (by simp; omega) _), (((Below.refl _ _).drew).alloc hHs _).alloc (by simp; omega) _⟩))
            ((first | (go_at_call 77; refine (insert_any (A := A1) (c := c1) (lo := H) (hi := v1.heap.size) (j := j) (ps := ps) (q := q) (by first | exact O1 | exact O1.below (below_alloc1 _ _) (Nat.le_refl _)) (by first | omega | simp) (by first | exact L1s | (simp; omega)) (by first | exact Nat.le_refl _ | simp) (by first | exact heap_alloc_new _ _ | (refine (k1 _ ?_ ?_).trans ?_; (simp <;> omega); (simp [Value.ownBlock] <;> omega); first | (refine heap_new_at _ _ _ ?_; simp; done) | (refine (Below.heap_alloc _ _ _ ?_).trans ?_; (simp <;> omega); exact heap_new_at _ _ _ rfl))) (by intro a ha e; first | (have := O1.2 a ha; omega) | (refine l1 _ ?_ ?_ (by rw [ha]; exact congrArg some e); (simp <;> omega); (simp [Value.ownBlock] <;> omega))) (by first | omega | simp)).mono ?_; rintro e v2 ⟨A2, c2, rfl, O2, B2⟩; have L2 : Below H wx v2 := (show Below H wx _ from (by first | assumption | exact And.right (by assumption))).trans B2) | (refine step_cat_at _ (by rfl) (.tmp 32) (.tmp 33) 24 (by rfl) H 40 ie (.agg #[.int .i64 0, .int .i64 0, .int .i64 0, .int .i64 0, .int .i64 0, .int .i64 0]) 6 48 Try.underlying24 hie hez0 hez1 hez2 (by rfl) (by decide) (some ⟨wx.heap.size, 0, none⟩) 0 0 [] (by rfl) _ ((own_emptyP _).more (by first | (simp; omega) | omega) (Nat.le_refl _)) lo hi (some ⟨g, 0, none⟩) ps.length c (passCells ps) (by rfl) (RD _ (by first | assumption | exact And.right (by assumption))) (one_passes _) (by omega) (by decide) (by first | assumption | exact (by assumption : Below _ _ _).size | (simp; omega) | omega) ?_; intro A1 c1 v1 O1 b1 s1 k1 l1; rw [Nat.zero_add] at O1; rw [List.nil_append] at O1; (try rw [Nat.zero_add]); have L1 : Below H wx v1 := b1 wx (by first | assumption | exact And.right (by assumption)); have L1s : H ≤ v1.heap.size := Nat.le_trans hHs L1.size) | (refine step_cat_at _ (by rfl) (.tmp 32) (.tmp 33) 24 (by rfl) H 40 ie (.agg #[.int .i64 0, .int .i64 0, .int .i64 0, .int .i64 0, .int .i64 0, .int .i64 0]) 6 48 Try.underlying24 hie hez0 hez1 hez2 (by rfl) (by decide) (some ⟨wx.heap.size, 0, none⟩) 0 0 [] (by rfl) _ (((own_emptyP _).below (below_alloc1 _ _) (Nat.le_refl _)).more (by first | (simp; omega) | omega) (Nat.le_refl _)) lo hi (some ⟨g, 0, none⟩) ps.length c (passCells ps) (by rfl) (RD _ (by first | assumption | exact And.right (by assumption))) (one_passes _) (by omega) (by decide) (by first | assumption | exact (by assumption : Below _ _ _).size | (simp; omega) | omega) ?_; intro A1 c1 v1 O1 b1 s1 k1 l1; rw [Nat.zero_add] at O1; rw [List.nil_append] at O1; (try rw [Nat.zero_add]); have L1 : Below H wx v1 := b1 wx (by first | assumption | exact And.right (by assumption)); have L1s : H ≤ v1.heap.size := Nat.le_trans hHs L1.size) | (refine step_cat_at _ (by rfl) (.tmp 32) (.tmp 33) 24 (by rfl) H 40 ie (.agg #[.int .i64 0, .int .i64 0, .int .i64 0, .int .i64 0, .int .i64 0, .int .i64 0]) 6 48 Try.underlying24 hie hez0 hez1 hez2 (by rfl) (by decide) (some ⟨wx.heap.size + 1, 0, none⟩) 0 0 [] (by rfl) _ ((own_emptyPg _ (wx.heap.size + 1) (by simp)).more (by omega) (Nat.le_refl _)) lo hi (some ⟨g, 0, none⟩) ps.length c (passCells ps) (by rfl) (RD _ (by first | assumption | exact And.right (by assumption))) (one_passes _) (by omega) (by decide) (by first | assumption | exact (by assumption : Below _ _ _).size | (simp; omega) | omega) ?_; intro A1 c1 v1 O1 b1 s1 k1 l1; rw [Nat.zero_add] at O1; rw [List.nil_append] at O1; (try rw [Nat.zero_add]); have L1 : Below H wx v1 := b1 wx (by first | assumption | exact And.right (by assumption)); have L1s : H ≤ v1.heap.size := Nat.le_trans hHs L1.size)))
          all_goals
            obtain ⟨qs, hqs⟩ : ∃ qs, qs = putP ps j q := ⟨_, rfl⟩
            have hql : qs.length = (ps).length + 1 := by rw [hqs, putP_length _ (by first | omega | simp)]
            rw [← hqs] at O2 ⊢
            have HV := Lib.hid (show vPutPass ps q = if isPL qs = true then (qs, true) else ([], false) from by rw [hqs]; exact HVJ.out)
            have HL := Lib.hid (show qs.length ≤ 2000000 from by have : (ps).length ≤ 12 := h12; omega)
            clear hqs hql O1 b1 k1 l1 s1 L1
            rcases hgd : isPL qs with _ | _
            · have HE := Lib.hid (HV.out.trans (if_neg (by simp [hgd])))
              have HG := Lib.hid hgd
              clear hgd
              go_wp2_with fail
              refine (arePasses_any O2.rd (by have := HL.out; omega) (Nat.le_refl _)).mono ?_
              rintro e w4 ⟨rfl, B4⟩
              rw [HG.out]
              have hb4 := (HX.out.1.trans (L2.mono hwH)).trans (B4.mono (by have := L2.size; have := HX.out.1.size; omega))
              go_wp2_with fail
              go_ret2
              rw [HE.out]
              exact retPB_nil _ _ _ hb4
            · have HE := Lib.hid (HV.out.trans (if_pos hgd))
              have HG := Lib.hid hgd
              clear hgd
              go_wp2_with fail
              refine (arePasses_any O2.rd (by have := HL.out; omega) (Nat.le_refl _)).mono ?_
              rintro e w4 ⟨rfl, B4⟩
              rw [HG.out]
              have hb4 := (HX.out.1.trans (L2.mono hwH)).trans (B4.mono (by have := L2.size; have := HX.out.1.size; omega))
              go_wp2_with fail
              go_ret2
              rw [HE.out]
              exact ⟨A2, c2, rfl, (O2.below B4 (Nat.le_refl _)).more hwH B4.size, hb4⟩
      · have HVJ := Lib.hid (HVP.out j (posP_eq ps j hj HLOW.out (.inl (by omega))))
        have q1 : ¬ (j : Int) < (ps.length : Int) := by omega
        go_wp2_with fail
        go_quiet (fail)
        go_wp2_with fail
        generalize hwx : wr.drewN _ = wx
        have hbx : Below w1.heap.size w1 wx := by rw [← hwx]; exact below_drewN hbw _
        have HX := Lib.hid (HHX.out wx hbx)
        have hhx : hi ≤ wx.heap.size := Nat.le_trans hhw1 hbx.size
        have r1 : j ≤ c := by omega
        have r3 : (j : Int) ≤ (c : Int) := by omega
        have r4 : (0 : Int) ≤ (j : Int) := by omega
        have r5 : (ps.length : Int) ≤ (c : Int) := by omega
        have r6 : (j : Int) ≤ (ps.length : Int) := by omega
        clear hwx hbw hbx x0 x1 x2 x3 x4 x5 hcell hbox HHX HVP HLOW
        obtain ⟨H, hH⟩ : ∃ H, H = wx.heap.size := ⟨_, rfl⟩
        have hHs : H ≤ wx.heap.size := by omega
        have hgH : gb < H := by have := HX.out.2.1; omega
        have hwH : w.heap.size ≤ H := by have := HX.out.1.size; omega
        have HC : ∀ W, Below H wx W → (W.cell? ⟨gb, 0, none⟩ = some (.int .i64 q.ln) ∧ W.cell? ⟨gb, 1, none⟩ = some (.int .i64 q.bg) ∧ W.cell? ⟨gb, 2, none⟩ = some (.int .i64 q.en) ∧ W.cell? ⟨gb, 3, none⟩ = some (.int .i64 q.pg) ∧ W.cell? ⟨gb, 4, none⟩ = some (.int .i64 q.bd) ∧ W.cell? ⟨gb, 5, none⟩ = some (.int .i64 q.cs)) := fun W hW => HX.out.2.2.1.below hW hgH
        have RD : ∀ W, Below H wx W → Rd W lo hi 6 (some ⟨g, 0, none⟩) ps.length (passCells ps) := fun W hW => HX.out.2.2.2.below hW (by omega)
        clear hH
        go_region_held3 (fun w' => (w'.cell? ⟨gb, 0, none⟩ = some (.int .i64 q.ln) ∧ w'.cell? ⟨gb, 1, none⟩ = some (.int .i64 q.bg) ∧ w'.cell? ⟨gb, 2, none⟩ = some (.int .i64 q.en) ∧ w'.cell? ⟨gb, 3, none⟩ = some (.int .i64 q.pg) ∧ w'.cell? ⟨gb, 4, none⟩ = some (.int .i64 q.bd) ∧ w'.cell? ⟨gb, 5, none⟩ = some (.int .i64 q.cs)) ∧ Below H wx w')
          ((first | exact ⟨HC _ (Below.refl _ _).drew, (Below.refl _ _).drew⟩ | exact ⟨HC _ L2, L2⟩ | exact ⟨HC _ L1, L1⟩ | exact ⟨HC _ (L1.alloc L1s _), L1.alloc L1s _⟩ | exact ⟨HC _ (((Below.refl _ _).drew).alloc hHs _), ((Below.refl _ _).drew).alloc hHs _⟩ | exact ⟨HC _ ((((Below.refl _ _).drew).alloc hHs _).alloc (by simp; omega) _), (((Below.refl _ _).drew).alloc hHs _).alloc (by simp; omega) _⟩))
          ((first | (go_at_call 77; refine (insert_any (A := A1) (c := c1) (lo := H) (hi := v1.heap.size) (j := j) (ps := ps) (q := q) (by first | exact O1 | exact O1.below (below_alloc1 _ _) (Nat.le_refl _)) (by first | omega | simp) (by first | exact L1s | (simp; omega)) (by first | exact Nat.le_refl _ | simp) (by first | exact heap_alloc_new _ _ | (refine (k1 _ ?_ ?_).trans ?_; (simp <;> omega); (simp [Value.ownBlock] <;> omega); first | (refine heap_new_at _ _ _ ?_; simp; done) | (refine (Below.heap_alloc _ _ _ ?_).trans ?_; (simp <;> omega); exact heap_new_at _ _ _ rfl))) (by intro a ha e; first | (have := O1.2 a ha; omega) | (refine l1 _ ?_ ?_ (by rw [ha]; exact congrArg some e); (simp <;> omega); (simp [Value.ownBlock] <;> omega))) (by first | omega | simp)).mono ?_; rintro e v2 ⟨A2, c2, rfl, O2, B2⟩; have L2 : Below H wx v2 := (show Below H wx _ from (by first | assumption | exact And.right (by assumption))).trans B2) | (refine step_cat_at _ (by rfl) (.tmp 32) (.tmp 33) 24 (by rfl) H 40 ie (.agg #[.int .i64 0, .int .i64 0, .int .i64 0, .int .i64 0, .int .i64 0, .int .i64 0]) 6 48 Try.underlying24 hie hez0 hez1 hez2 (by rfl) (by decide) (some ⟨wx.heap.size, 0, none⟩) 0 0 [] (by rfl) _ ((own_emptyP _).more (by first | (simp; omega) | omega) (Nat.le_refl _)) lo hi (some ⟨g, 0, none⟩) ps.length c (passCells ps) (by rfl) (RD _ (by first | assumption | exact And.right (by assumption))) (one_passes _) (by omega) (by decide) (by first | assumption | exact (by assumption : Below _ _ _).size | (simp; omega) | omega) ?_; intro A1 c1 v1 O1 b1 s1 k1 l1; rw [Nat.zero_add] at O1; rw [List.nil_append] at O1; (try rw [Nat.zero_add]); have L1 : Below H wx v1 := b1 wx (by first | assumption | exact And.right (by assumption)); have L1s : H ≤ v1.heap.size := Nat.le_trans hHs L1.size) | (refine step_cat_at _ (by rfl) (.tmp 32) (.tmp 33) 24 (by rfl) H 40 ie (.agg #[.int .i64 0, .int .i64 0, .int .i64 0, .int .i64 0, .int .i64 0, .int .i64 0]) 6 48 Try.underlying24 hie hez0 hez1 hez2 (by rfl) (by decide) (some ⟨wx.heap.size, 0, none⟩) 0 0 [] (by rfl) _ (((own_emptyP _).below (below_alloc1 _ _) (Nat.le_refl _)).more (by first | (simp; omega) | omega) (Nat.le_refl _)) lo hi (some ⟨g, 0, none⟩) ps.length c (passCells ps) (by rfl) (RD _ (by first | assumption | exact And.right (by assumption))) (one_passes _) (by omega) (by decide) (by first | assumption | exact (by assumption : Below _ _ _).size | (simp; omega) | omega) ?_; intro A1 c1 v1 O1 b1 s1 k1 l1; rw [Nat.zero_add] at O1; rw [List.nil_append] at O1; (try rw [Nat.zero_add]); have L1 : Below H wx v1 := b1 wx (by first | assumption | exact And.right (by assumption)); have L1s : H ≤ v1.heap.size := Nat.le_trans hHs L1.size) | (refine step_cat_at _ (by rfl) (.tmp 32) (.tmp 33) 24 (by rfl) H 40 ie (.agg #[.int .i64 0, .int .i64 0, .int .i64 0, .int .i64 0, .int .i64 0, .int .i64 0]) 6 48 Try.underlying24 hie hez0 hez1 hez2 (by rfl) (by decide) (some ⟨wx.heap.size + 1, 0, none⟩) 0 0 [] (by rfl) _ ((own_emptyPg _ (wx.heap.size + 1) (by simp)).more (by omega) (Nat.le_refl _)) lo hi (some ⟨g, 0, none⟩) ps.length c (passCells ps) (by rfl) (RD _ (by first | assumption | exact And.right (by assumption))) (one_passes _) (by omega) (by decide) (by first | assumption | exact (by assumption : Below _ _ _).size | (simp; omega) | omega) ?_; intro A1 c1 v1 O1 b1 s1 k1 l1; rw [Nat.zero_add] at O1; rw [List.nil_append] at O1; (try rw [Nat.zero_add]); have L1 : Below H wx v1 := b1 wx (by first | assumption | exact And.right (by assumption)); have L1s : H ≤ v1.heap.size := Nat.le_trans hHs L1.size)))
        all_goals
          obtain ⟨qs, hqs⟩ : ∃ qs, qs = putP ps j q := ⟨_, rfl⟩
          have hql : qs.length = (ps).length + 1 := by rw [hqs, putP_length _ (by first | omega | simp)]
          rw [← hqs] at O2 ⊢
          have HV := Lib.hid (show vPutPass ps q = if isPL qs = true then (qs, true) else ([], false) from by rw [hqs]; exact HVJ.out)
          have HL := Lib.hid (show qs.length ≤ 2000000 from by have : (ps).length ≤ 12 := h12; omega)
          clear hqs hql O1 b1 k1 l1 s1 L1
          rcases hgd : isPL qs with _ | _
          · have HE := Lib.hid (HV.out.trans (if_neg (by simp [hgd])))
            have HG := Lib.hid hgd
            clear hgd
            go_wp2_with fail
            refine (arePasses_any O2.rd (by have := HL.out; omega) (Nat.le_refl _)).mono ?_
            rintro e w4 ⟨rfl, B4⟩
            rw [HG.out]
            have hb4 := (HX.out.1.trans (L2.mono hwH)).trans (B4.mono (by have := L2.size; have := HX.out.1.size; omega))
            go_wp2_with fail
            go_ret2
            rw [HE.out]
            exact retPB_nil _ _ _ hb4
          · have HE := Lib.hid (HV.out.trans (if_pos hgd))
            have HG := Lib.hid hgd
            clear hgd
            go_wp2_with fail
            refine (arePasses_any O2.rd (by have := HL.out; omega) (Nat.le_refl _)).mono ?_
            rintro e w4 ⟨rfl, B4⟩
            rw [HG.out]
            have hb4 := (HX.out.1.trans (L2.mono hwH)).trans (B4.mono (by have := L2.size; have := HX.out.1.size; omega))
            go_wp2_with fail
            go_ret2
            rw [HE.out]
            exact ⟨A2, c2, rfl, (O2.below B4 (Nat.le_refl _)).more hwH B4.size, hb4⟩

end Go.Proofs.Ytaehfcdcdjlanaa
