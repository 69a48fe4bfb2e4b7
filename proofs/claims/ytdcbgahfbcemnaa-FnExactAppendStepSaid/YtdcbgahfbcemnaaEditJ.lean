/-
  This file proves contracts on edit lists: AppendStep, of the program and of the reference.
  Conditions: that the slice reads as a list of steps, that it is not too long, that its texts are no longer than any string of the machine.
-/
import Derived.Test.YtdcbgahfbcemnaaEditG
import Derived.Test.YtdcbgahfbcemnaaCat
import Derived.Deep.RegionHeld3
namespace Go.Proofs.Ytdcbgahfbcemnaa
open Go.RowKit
set_option linter.unusedSimpArgs false
set_option linter.unusedVariables false

theorem own_emptyE (w : World) : Own (w.alloc (.cells #[] 42)) 42 w.heap.size (w.alloc (.cells #[] 42)).heap.size 4 (some ⟨w.heap.size, 0, none⟩) 0 0 [] :=
  ⟨row_empty w 42 4, fun a ha => by cases ha; simp⟩
theorem rd_newE (w : World) (q : GEditStep) : Rd (w.alloc (.cells #[.int .i64 q.kd, .int .i64 q.mr, .int .i64 q.sh, .string q.rs] 42)) w.heap.size (w.heap.size + 1) 4 (some ⟨w.heap.size, 0, none⟩) 1 [.int .i64 q.kd, .int .i64 q.mr, .int .i64 q.sh, .string q.rs] :=
  ⟨rfl, fun _ => ⟨w.heap.size, 0, rfl, Nat.le_refl _, Nat.lt_succ_self _, fun j u hu => by have := cells_new w [.int .i64 q.kd, .int .i64 q.mr, .int .i64 q.sh, .string q.rs] 42 j u hu; rwa [Addr.add_lit] at this⟩⟩
theorem own_emptyEg (w : World) (g : Nat) (hg : g = w.heap.size) : Own (w.alloc (.cells #[] 42)) 42 g (g + 1) 4 (some ⟨g, 0, none⟩) 0 0 [] := by
  subst hg
  exact ⟨row_empty w 42 4, fun a ha => by cases ha; simp⟩
theorem rd_newEg (w : World) (q : GEditStep) (g : Nat) (hg : g = w.heap.size) : Rd (w.alloc (.cells #[.int .i64 q.kd, .int .i64 q.mr, .int .i64 q.sh, .string q.rs] 42)) g (g + 1) 4 (some ⟨g, 0, none⟩) 1 [.int .i64 q.kd, .int .i64 q.mr, .int .i64 q.sh, .string q.rs] := by
  subst hg
  exact rd_newE w q
theorem rd_kept {w w' : World} {g n size : Nat} {cs : List Value} (h : Rd w g (g + 1) size (some ⟨g, 0, none⟩) n cs) (hk : w'.heap[g]? = w.heap[g]?) : Rd w' g (g + 1) size (some ⟨g, 0, none⟩) n cs :=
  h.keep fun b off h1 h2 => by
    obtain rfl : b = g := by omega
    exact World.cell?_of_block hk
theorem Holds4.only {w w' : World} {g lo hi : Nat} {p : GEditStep} (h : Holds4 w g p) (hb : Only lo hi w w') (hd : g + 1 ≤ lo ∨ hi ≤ g) (hs : g < w.heap.size) : Holds4 w' g p := by
  have e : w'.heap[g]? = w.heap[g]? := hb.block g hs (by omega)
  exact ⟨(World.cell?_of_block e).trans h.1, (World.cell?_of_block e).trans h.2.1, (World.cell?_of_block e).trans h.2.2.1, (World.cell?_of_block e).trans h.2.2.2⟩
theorem goodE_snoc (m : Int) (ps : List GEditStep) (q : GEditStep) (h : goodE m ps = false) : goodE m (ps ++ [q]) = false := by
  rcases hg : goodE m (ps ++ [q]) with _ | _
  · rfl
  · rw [goodE_less hg] at h; cases h
theorem cellsE_snoc (ps : List GEditStep) (q : GEditStep) : cellsEditStep ps ++ [.int .i64 q.kd, .int .i64 q.mr, .int .i64 q.sh, .string q.rs] = cellsEditStep (ps ++ [q]) := by simp [cellsEditStep, GEditStep.cells]
theorem cellsE_one (ps : List GEditStep) : ∀ u ∈ cellsEditStep ps, u.oneCell' = true := by
  intro u hu
  unfold cellsEditStep at hu
  rw [List.mem_flatMap] at hu
  obtain ⟨q, _, hq⟩ := hu
  exact one_step _ _ _ _ u hq
def vAppendStep (m : Int) (ps : List GEditStep) (q : GEditStep) : List GEditStep × Bool := if goodE m (ps ++ [q]) = true then (ps ++ [q], true) else ([], false)
theorem vAppendStep_len0 (m : Int) (ps : List GEditStep) (q : GEditStep) : (vAppendStep m ps q).1.length ≤ 20 := by
  unfold vAppendStep
  split
  · rename_i h
    exact (goodE_len h).1
  · simp

set_option maxHeartbeats 1000000 in
set_option maxRecDepth 100000 in
theorem sAppendStep {A : Option Addr} {c lo hi : Nat} {m : Int} {ps : List GEditStep} {q : GEditStep} {w : World} (hr : RdE w lo hi A ps) (hl : ps.length ≤ 1048576) (hh : hi ≤ w.heap.size) (hcap : ps.length ≤ c) (hsz : ∀ p ∈ ps, p.rs.size ≤ maxLen) (hq : q.rs.size ≤ maxLen) :
    Calls Try.prog 26 #[.int .i64 m, .slice A ps.length c, .agg #[.int .i64 q.kd, .int .i64 q.mr, .int .i64 q.sh, .string q.rs]] w (RetEditStepSB (vAppendStep m ps q).1 (vAppendStep m ps q).2 w) := by
  obtain ⟨ie, hie, hez0, hez1, hez2⟩ := info_parts info_EditStep
  have HSN := Lib.hid (⟨hsz, hq⟩ : (∀ p ∈ ps, p.rs.size ≤ maxLen) ∧ q.rs.size ≤ maxLen)
  have Bx := below_alloc1 w (.cells #[.int .i64 q.kd, .int .i64 q.mr, .int .i64 q.sh, .string q.rs] 42)
  have hrx := hr.below Bx hh
  have H4 := Holds4.new w q 42
  have hzx : (w.alloc (.cells #[.int .i64 q.kd, .int .i64 q.mr, .int .i64 q.sh, .string q.rs] 42)).heap.size = w.heap.size + 1 := by simp
  clear hsz hq
  go_enter Try.func26, Try.ntmps26
  go_wp2_with fail
  obtain ⟨H, hH⟩ : ∃ H, H = w.heap.size + 1 := ⟨_, rfl⟩
  rw [← hH] at hzx
  obtain ⟨gb, hgb⟩ : ∃ gb, gb = w.heap.size := ⟨_, rfl⟩
  rw [← hgb] at H4 ⊢
  have BW := Bx
  generalize w.alloc (.cells #[.int .i64 q.kd, .int .i64 q.mr, .int .i64 q.sh, .string q.rs] 42) = wx at Bx BW hrx H4 hzx ⊢
  have hgH : gb < H := by omega
  have hhH : hi ≤ H := by omega
  have hHs : H ≤ wx.heap.size := by omega
  have HC : ∀ W, Below H wx W → (W.cell? ⟨gb, 0, none⟩ = some (.int .i64 q.kd) ∧ W.cell? ⟨gb, 1, none⟩ = some (.int .i64 q.mr) ∧ W.cell? ⟨gb, 2, none⟩ = some (.int .i64 q.sh) ∧ W.cell? ⟨gb, 3, none⟩ = some (.string q.rs)) := fun W hW => H4.below hW hgH
  have RD : ∀ W, Below H wx W → RdE W lo hi A ps := fun W hW => hrx.below hW hhH
  have HH := Lib.hid (show w.heap.size ≤ H by omega)
  have HGB := Lib.hid hgb
  clear hH hzx hgb hrx H4 Bx
  go_region_held3 (fun w' => (w'.cell? ⟨gb, 0, none⟩ = some (.int .i64 q.kd) ∧ w'.cell? ⟨gb, 1, none⟩ = some (.int .i64 q.mr) ∧ w'.cell? ⟨gb, 2, none⟩ = some (.int .i64 q.sh) ∧ w'.cell? ⟨gb, 3, none⟩ = some (.string q.rs)) ∧ Below H wx w')
    ((first | exact ⟨HC _ (Below.refl _ _).drew, (Below.refl _ _).drew⟩ | exact ⟨HC _ L2, L2⟩ | exact ⟨HC _ L1, L1⟩ | exact ⟨HC _ (L1.alloc L1s _), L1.alloc L1s _⟩ | exact ⟨HC _ (((Below.refl _ _).drew).alloc hHs _), ((Below.refl _ _).drew).alloc hHs _⟩ | exact ⟨HC _ ((((Below.refl _ _).drew).alloc hHs _).alloc (by simp; omega) _), (((Below.refl _ _).drew).alloc hHs _).alloc (by simp; omega) _⟩))
    ((first | (refine step_cat _ (by rfl) (.tmp 9) (.tmp 10) 25 (by rfl) H 42 ie (.agg #[.int .i64 0, .int .i64 0, .int .i64 0, .string ByteArray.empty]) 4 40 Try.underlying25 hie hez0 hez1 hez2 (by rfl) (by decide) (some ⟨wx.heap.size, 0, none⟩) 0 0 [] (by rfl) _ ((own_emptyE _).more (by first | (simp; omega) | omega) (Nat.le_refl _)) _ _ A ps.length c (cellsEditStep ps) (by rfl) (RD _ (by first | assumption | exact And.right (by assumption))) (cellsE_one ps) (by omega) (by decide) (by first | assumption | exact (by assumption : Below _ _ _).size | (simp; omega) | omega) ?_; intro A1 c1 v1 O1 b1 s1 k1; rw [Nat.zero_add] at O1; rw [List.nil_append] at O1; (try rw [Nat.zero_add]); have L1 : Below H wx v1 := b1 wx (by first | assumption | exact And.right (by assumption)); have L1s : H ≤ v1.heap.size := Nat.le_trans hHs L1.size) | (refine step_cat _ (by rfl) (.tmp 9) (.tmp 10) 25 (by rfl) H 42 ie (.agg #[.int .i64 0, .int .i64 0, .int .i64 0, .string ByteArray.empty]) 4 40 Try.underlying25 hie hez0 hez1 hez2 (by rfl) (by decide) (some ⟨wx.heap.size, 0, none⟩) 0 0 [] (by rfl) _ (((own_emptyE _).below (below_alloc1 _ _) (Nat.le_refl _)).more (by first | (simp; omega) | omega) (Nat.le_refl _)) _ _ A ps.length c (cellsEditStep ps) (by rfl) (RD _ (by first | assumption | exact And.right (by assumption))) (cellsE_one ps) (by omega) (by decide) (by first | assumption | exact (by assumption : Below _ _ _).size | (simp; omega) | omega) ?_; intro A1 c1 v1 O1 b1 s1 k1; rw [Nat.zero_add] at O1; rw [List.nil_append] at O1; (try rw [Nat.zero_add]); have L1 : Below H wx v1 := b1 wx (by first | assumption | exact And.right (by assumption)); have L1s : H ≤ v1.heap.size := Nat.le_trans hHs L1.size) | (refine step_cat _ (by rfl) (.tmp 9) (.tmp 10) 25 (by rfl) H 42 ie (.agg #[.int .i64 0, .int .i64 0, .int .i64 0, .string ByteArray.empty]) 4 40 Try.underlying25 hie hez0 hez1 hez2 (by rfl) (by decide) (some ⟨wx.heap.size + 1, 0, none⟩) 0 0 [] (by rfl) _ ((own_emptyEg _ (wx.heap.size + 1) (by simp)).more (by omega) (Nat.le_refl _)) _ _ A ps.length c (cellsEditStep ps) (by rfl) (RD _ (by first | assumption | exact And.right (by assumption))) (cellsE_one ps) (by omega) (by decide) (by first | assumption | exact (by assumption : Below _ _ _).size | (simp; omega) | omega) ?_; intro A1 c1 v1 O1 b1 s1 k1; rw [Nat.zero_add] at O1; rw [List.nil_append] at O1; (try rw [Nat.zero_add]); have L1 : Below H wx v1 := b1 wx (by first | assumption | exact And.right (by assumption)); have L1s : H ≤ v1.heap.size := Nat.le_trans hHs L1.size) | (refine step_cat _ (by rfl) (.tmp 11) (.tmp 13) 25 (by rfl) H 42 ie (.agg #[.int .i64 0, .int .i64 0, .int .i64 0, .string ByteArray.empty]) 4 40 Try.underlying25 hie hez0 hez1 hez2 (by rfl) (by decide) A1 ps.length c1 (cellsEditStep ps) (by rfl) _ (O1.below (below_alloc1 _ _) (Nat.le_refl _)) _ _ (some ⟨_, 0, none⟩) 1 1 [.int .i64 q.kd, .int .i64 q.mr, .int .i64 q.sh, .string q.rs] (by rfl) (rd_newE _ q) (one_step _ _ _ _) (by omega) (by decide) (by first | assumption | exact (by assumption : Below _ _ _).size | (simp; omega) | omega) ?_; intro A2 c2 v2 O2 b2 s2 k2; have L2 : Below H wx v2 := b2 wx (by first | assumption | exact And.right (by assumption))) | (refine step_cat _ (by rfl) (.tmp 11) (.tmp 13) 25 (by rfl) H 42 ie (.agg #[.int .i64 0, .int .i64 0, .int .i64 0, .string ByteArray.empty]) 4 40 Try.underlying25 hie hez0 hez1 hez2 (by rfl) (by decide) A1 ps.length c1 (cellsEditStep ps) (by rfl) _ O1 _ _ (some ⟨wx.heap.size, 0, none⟩) 1 1 [.int .i64 q.kd, .int .i64 q.mr, .int .i64 q.sh, .string q.rs] (by rfl) (rd_kept ((rd_newE _ q).below (below_alloc1 _ _) (by simp <;> omega)) (k1 _ (by simp <;> omega) (by simp <;> omega))) (one_step _ _ _ _) (by omega) (by decide) (by first | assumption | exact (by assumption : Below _ _ _).size | (simp; omega) | omega) ?_; intro A2 c2 v2 O2 b2 s2 k2; have L2 : Below H wx v2 := b2 wx (by first | assumption | exact And.right (by assumption))) | (refine step_cat _ (by rfl) (.tmp 11) (.tmp 13) 25 (by rfl) H 42 ie (.agg #[.int .i64 0, .int .i64 0, .int .i64 0, .string ByteArray.empty]) 4 40 Try.underlying25 hie hez0 hez1 hez2 (by rfl) (by decide) A1 ps.length c1 (cellsEditStep ps) (by rfl) _ O1 _ _ (some ⟨wx.heap.size + 1, 0, none⟩) 1 1 [.int .i64 q.kd, .int .i64 q.mr, .int .i64 q.sh, .string q.rs] (by rfl) (rd_kept (rd_newEg _ q (wx.heap.size + 1) (by simp)) (k1 _ (by simp <;> omega) (by simp <;> omega))) (one_step _ _ _ _) (by omega) (by decide) (by first | assumption | exact (by assumption : Below _ _ _).size | (simp; omega) | omega) ?_; intro A2 c2 v2 O2 b2 s2 k2; have L2 : Below H wx v2 := b2 wx (by first | assumption | exact And.right (by assumption)))))
  all_goals
    obtain ⟨qs, hqs⟩ : ∃ qs, ps ++ [q] = qs := ⟨_, rfl⟩
    have hlen : qs.length = ps.length + 1 := by rw [← hqs]; simp
    rw [cellsE_snoc, ← hlen, hqs] at O2
    rw [← hlen]
    have HLEN := Lib.hid hlen
    have hl2 : qs.length ≤ 2097152 := by omega
    have HS2 := Lib.hid (fun (x : GEditStep) (hx : x ∈ qs) => (show x.rs.size ≤ maxLen from by rw [← hqs] at hx; rcases List.mem_append.1 hx with h | h; exact HSN.out.1 x h; (rw [List.mem_singleton.1 h]; exact HSN.out.2)))
    have HV := Lib.hid (show vAppendStep m ps q = if goodE m qs = true then (qs, true) else ([], false) from by rw [← hqs]; rfl)
    clear hlen O1 b1 b2 k1 k2 s1 s2 hqs
    rcases hgd : goodE m qs with _ | _
    · have HE := Lib.hid (HV.out.trans (if_neg (by simp [hgd])))
      have HGC := Lib.hid (show Calls Try.prog 46 #[.int .i64 m, .slice A2 qs.length c2] v2 (RetB false v2) from by rw [← hgd]; exact l14Good_any O2.rd (Nat.le_refl _) O2.cap hl2 HS2.out)
      clear hgd
      go_wp2_with fail
      refine HGC.out.mono ?_
      rintro e w3 ⟨rfl, B3⟩
      go_wp2_with fail
      go_ret2
      rw [HE.out]
      exact retESB_of (ps := []) (row_empty_at w3 42 4 (show w.heap.size ≤ w3.heap.size from Nat.le_trans BW.size (Nat.le_trans L2.size B3.size))) (Nat.le_refl _) ((BW.trans ((L2.trans (B3.mono (by have := L2.size; omega))).mono (by have := HH.out; omega))).alloc (Nat.le_trans BW.size (Nat.le_trans L2.size B3.size)) _)
    · have HE := Lib.hid (HV.out.trans (if_pos hgd))
      have HGC := Lib.hid (show Calls Try.prog 46 #[.int .i64 m, .slice A2 qs.length c2] v2 (RetB true v2) from by rw [← hgd]; exact l14Good_any O2.rd (Nat.le_refl _) O2.cap hl2 HS2.out)
      clear hgd
      go_wp2_with fail
      refine HGC.out.mono ?_
      rintro e w3 ⟨rfl, B3⟩
      go_wp2_with fail
      go_ret2
      rw [HE.out]
      exact ⟨A2, c2, rfl, (O2.below B3 (Nat.le_refl _)).more (by have := HH.out; omega) B3.size, BW.trans ((L2.trans (B3.mono (by have := L2.size; omega))).mono (by have := HH.out; omega))⟩

theorem goodI {A : Option Addr} {c lo hi : Nat} {m : Int} {ps : List GEditStep} {w : World} (hr : RdE w lo hi A ps) (hl : ps.length ≤ 2097152) (hh : hi ≤ w.heap.size) (hcap : ps.length ≤ c) (hsz : ∀ p ∈ ps, p.rs.size ≤ maxLen) {b : Bool} (hb : goodE m ps = b) :
    Calls Try.prog 15 #[.int .i64 m, .slice A ps.length c] w (RetB b w) := by
  have h := iIsEditList (m := m) hr hl hh hcap hsz
  unfold vIsEditList at h
  rwa [hb] at h

set_option maxHeartbeats 1000000 in
set_option maxRecDepth 100000 in
theorem iAppendStep {A : Option Addr} {c lo hi : Nat} {m : Int} {ps : List GEditStep} {q : GEditStep} {w : World} (hr : RdE w lo hi A ps) (hl : ps.length ≤ 1048576) (hh : hi ≤ w.heap.size) (hcap : ps.length ≤ c) (hsz : ∀ p ∈ ps, p.rs.size ≤ maxLen) (hq : q.rs.size ≤ maxLen) :
    Calls Try.prog 28 #[.int .i64 m, .slice A ps.length c, .agg #[.int .i64 q.kd, .int .i64 q.mr, .int .i64 q.sh, .string q.rs]] w (RetEditStepSB (vAppendStep m ps q).1 (vAppendStep m ps q).2 w) := by
  obtain ⟨ie, hie, hez0, hez1, hez2⟩ := info_parts info_EditStep
  have HSN := Lib.hid (⟨hsz, hq⟩ : (∀ p ∈ ps, p.rs.size ≤ maxLen) ∧ q.rs.size ≤ maxLen)
  have Bx := below_alloc1 w (.cells #[.int .i64 q.kd, .int .i64 q.mr, .int .i64 q.sh, .string q.rs] 42)
  have hrx := hr.below Bx hh
  have H4 := Holds4.new w q 42
  have hzx : (w.alloc (.cells #[.int .i64 q.kd, .int .i64 q.mr, .int .i64 q.sh, .string q.rs] 42)).heap.size = w.heap.size + 1 := by simp
  have HGI := Lib.hid (fun b (hb : goodE m ps = b) => goodI (m := m) (c := c) hrx (by omega) (by rw [hzx]; omega) hcap hsz hb)
  have HZX := Lib.hid hzx
  clear hsz hq hzx
  rcases hg0 : goodE m ps with _ | _
  · have HE := Lib.hid (show vAppendStep m ps q = ([], false) from by unfold vAppendStep; rw [if_neg (by rw [goodE_snoc m ps q hg0]; simp)])
    have HG0 := Lib.hid hg0
    clear hg0
    go_enter Try.func28, Try.ntmps28
    go_wp2_with fail
    refine (HGI.out _ HG0.out).mono ?_
    rintro e w1 ⟨rfl, B1⟩
    go_wp2_with fail
    go_ret2
    rw [HE.out]
    exact retESB_nil _ _ _ (Bx.trans (B1.mono (by rw [HZX.out]; omega)))
  have HG0 := Lib.hid hg0
  clear hg0
  go_enter Try.func28, Try.ntmps28
  go_wp2_with fail
  refine (HGI.out _ HG0.out).mono ?_
  rintro e wx ⟨rfl, B1⟩
  have hzx := HZX.out
  have hsz1 := B1.size
  have BW := Bx.trans (B1.mono (by omega))
  obtain ⟨H, hH⟩ : ∃ H, H = wx.heap.size := ⟨_, rfl⟩
  have H4x := H4.below B1 (by omega)
  have hrx1 := hrx.below B1 (by omega)
  go_wp2_with fail
  obtain ⟨gb, hgb⟩ : ∃ gb, gb = w.heap.size := ⟨_, rfl⟩
  rw [← hgb] at H4x ⊢
  have hgH : gb < H := by omega
  have hhH : hi ≤ H := by omega
  have hHs : H ≤ wx.heap.size := by omega
  have HC : ∀ W, Below H wx W → (W.cell? ⟨gb, 0, none⟩ = some (.int .i64 q.kd) ∧ W.cell? ⟨gb, 1, none⟩ = some (.int .i64 q.mr) ∧ W.cell? ⟨gb, 2, none⟩ = some (.int .i64 q.sh) ∧ W.cell? ⟨gb, 3, none⟩ = some (.string q.rs)) := fun W hW => H4x.below hW hgH
  have RD : ∀ W, Below H wx W → RdE W lo hi A ps := fun W hW => hrx1.below hW hhH
  have HH := Lib.hid (show w.heap.size ≤ H by omega)
  clear hH hzx hgb hrx hrx1 H4 H4x Bx B1 hsz1
  go_region_held3 (fun w' => (w'.cell? ⟨gb, 0, none⟩ = some (.int .i64 q.kd) ∧ w'.cell? ⟨gb, 1, none⟩ = some (.int .i64 q.mr) ∧ w'.cell? ⟨gb, 2, none⟩ = some (.int .i64 q.sh) ∧ w'.cell? ⟨gb, 3, none⟩ = some (.string q.rs)) ∧ Below H wx w')
    ((first | exact ⟨HC _ (Below.refl _ _).drew, (Below.refl _ _).drew⟩ | exact ⟨HC _ L2, L2⟩ | exact ⟨HC _ L1, L1⟩ | exact ⟨HC _ (L1.alloc L1s _), L1.alloc L1s _⟩ | exact ⟨HC _ (((Below.refl _ _).drew).alloc hHs _), ((Below.refl _ _).drew).alloc hHs _⟩ | exact ⟨HC _ ((((Below.refl _ _).drew).alloc hHs _).alloc (by simp; omega) _), (((Below.refl _ _).drew).alloc hHs _).alloc (by simp; omega) _⟩))
    ((first | (refine step_cat _ (by rfl) (.tmp 13) (.tmp 14) 25 (by rfl) H 42 ie (.agg #[.int .i64 0, .int .i64 0, .int .i64 0, .string ByteArray.empty]) 4 40 Try.underlying25 hie hez0 hez1 hez2 (by rfl) (by decide) (some ⟨wx.heap.size, 0, none⟩) 0 0 [] (by rfl) _ ((own_emptyE _).more (by first | (simp; omega) | omega) (Nat.le_refl _)) _ _ A ps.length c (cellsEditStep ps) (by rfl) (RD _ (by first | assumption | exact And.right (by assumption))) (cellsE_one ps) (by omega) (by decide) (by first | assumption | exact (by assumption : Below _ _ _).size | (simp; omega) | omega) ?_; intro A1 c1 v1 O1 b1 s1 k1; rw [Nat.zero_add] at O1; rw [List.nil_append] at O1; (try rw [Nat.zero_add]); have L1 : Below H wx v1 := b1 wx (by first | assumption | exact And.right (by assumption)); have L1s : H ≤ v1.heap.size := Nat.le_trans hHs L1.size) | (refine step_cat _ (by rfl) (.tmp 13) (.tmp 14) 25 (by rfl) H 42 ie (.agg #[.int .i64 0, .int .i64 0, .int .i64 0, .string ByteArray.empty]) 4 40 Try.underlying25 hie hez0 hez1 hez2 (by rfl) (by decide) (some ⟨wx.heap.size, 0, none⟩) 0 0 [] (by rfl) _ (((own_emptyE _).below (below_alloc1 _ _) (Nat.le_refl _)).more (by first | (simp; omega) | omega) (Nat.le_refl _)) _ _ A ps.length c (cellsEditStep ps) (by rfl) (RD _ (by first | assumption | exact And.right (by assumption))) (cellsE_one ps) (by omega) (by decide) (by first | assumption | exact (by assumption : Below _ _ _).size | (simp; omega) | omega) ?_; intro A1 c1 v1 O1 b1 s1 k1; rw [Nat.zero_add] at O1; rw [List.nil_append] at O1; (try rw [Nat.zero_add]); have L1 : Below H wx v1 := b1 wx (by first | assumption | exact And.right (by assumption)); have L1s : H ≤ v1.heap.size := Nat.le_trans hHs L1.size) | (refine step_cat _ (by rfl) (.tmp 13) (.tmp 14) 25 (by rfl) H 42 ie (.agg #[.int .i64 0, .int .i64 0, .int .i64 0, .string ByteArray.empty]) 4 40 Try.underlying25 hie hez0 hez1 hez2 (by rfl) (by decide) (some ⟨wx.heap.size + 1, 0, none⟩) 0 0 [] (by rfl) _ ((own_emptyEg _ (wx.heap.size + 1) (by simp)).more (by omega) (Nat.le_refl _)) _ _ A ps.length c (cellsEditStep ps) (by rfl) (RD _ (by first | assumption | exact And.right (by assumption))) (cellsE_one ps) (by omega) (by decide) (by first | assumption | exact (by assumption : Below _ _ _).size | (simp; omega) | omega) ?_; intro A1 c1 v1 O1 b1 s1 k1; rw [Nat.zero_add] at O1; rw [List.nil_append] at O1; (try rw [Nat.zero_add]); have L1 : Below H wx v1 := b1 wx (by first | assumption | exact And.right (by assumption)); have L1s : H ≤ v1.heap.size := Nat.le_trans hHs L1.size) | (refine step_cat _ (by rfl) (.tmp 15) (.tmp 17) 25 (by rfl) H 42 ie (.agg #[.int .i64 0, .int .i64 0, .int .i64 0, .string ByteArray.empty]) 4 40 Try.underlying25 hie hez0 hez1 hez2 (by rfl) (by decide) A1 ps.length c1 (cellsEditStep ps) (by rfl) _ (O1.below (below_alloc1 _ _) (Nat.le_refl _)) _ _ (some ⟨_, 0, none⟩) 1 1 [.int .i64 q.kd, .int .i64 q.mr, .int .i64 q.sh, .string q.rs] (by rfl) (rd_newE _ q) (one_step _ _ _ _) (by omega) (by decide) (by first | assumption | exact (by assumption : Below _ _ _).size | (simp; omega) | omega) ?_; intro A2 c2 v2 O2 b2 s2 k2; have L2 : Below H wx v2 := b2 wx (by first | assumption | exact And.right (by assumption))) | (refine step_cat _ (by rfl) (.tmp 15) (.tmp 17) 25 (by rfl) H 42 ie (.agg #[.int .i64 0, .int .i64 0, .int .i64 0, .string ByteArray.empty]) 4 40 Try.underlying25 hie hez0 hez1 hez2 (by rfl) (by decide) A1 ps.length c1 (cellsEditStep ps) (by rfl) _ O1 _ _ (some ⟨wx.heap.size, 0, none⟩) 1 1 [.int .i64 q.kd, .int .i64 q.mr, .int .i64 q.sh, .string q.rs] (by rfl) (rd_kept ((rd_newE _ q).below (below_alloc1 _ _) (by simp <;> omega)) (k1 _ (by simp <;> omega) (by simp <;> omega))) (one_step _ _ _ _) (by omega) (by decide) (by first | assumption | exact (by assumption : Below _ _ _).size | (simp; omega) | omega) ?_; intro A2 c2 v2 O2 b2 s2 k2; have L2 : Below H wx v2 := b2 wx (by first | assumption | exact And.right (by assumption))) | (refine step_cat _ (by rfl) (.tmp 15) (.tmp 17) 25 (by rfl) H 42 ie (.agg #[.int .i64 0, .int .i64 0, .int .i64 0, .string ByteArray.empty]) 4 40 Try.underlying25 hie hez0 hez1 hez2 (by rfl) (by decide) A1 ps.length c1 (cellsEditStep ps) (by rfl) _ O1 _ _ (some ⟨wx.heap.size + 1, 0, none⟩) 1 1 [.int .i64 q.kd, .int .i64 q.mr, .int .i64 q.sh, .string q.rs] (by rfl) (rd_kept (rd_newEg _ q (wx.heap.size + 1) (by simp)) (k1 _ (by simp <;> omega) (by simp <;> omega))) (one_step _ _ _ _) (by omega) (by decide) (by first | assumption | exact (by assumption : Below _ _ _).size | (simp; omega) | omega) ?_; intro A2 c2 v2 O2 b2 s2 k2; have L2 : Below H wx v2 := b2 wx (by first | assumption | exact And.right (by assumption)))))
  all_goals
    obtain ⟨qs, hqs⟩ : ∃ qs, ps ++ [q] = qs := ⟨_, rfl⟩
    have hlen : qs.length = ps.length + 1 := by rw [← hqs]; simp
    rw [cellsE_snoc, ← hlen, hqs] at O2
    rw [← hlen]
    have HLEN := Lib.hid hlen
    have hl2 : qs.length ≤ 2097152 := by omega
    have HS2 := Lib.hid (fun (x : GEditStep) (hx : x ∈ qs) => (show x.rs.size ≤ maxLen from by rw [← hqs] at hx; rcases List.mem_append.1 hx with h | h; exact HSN.out.1 x h; (rw [List.mem_singleton.1 h]; exact HSN.out.2)))
    have HV := Lib.hid (show vAppendStep m ps q = if goodE m qs = true then (qs, true) else ([], false) from by rw [← hqs]; rfl)
    clear hlen O1 b1 b2 k1 k2 s1 s2 hqs
    rcases hgd : goodE m qs with _ | _
    · have HE := Lib.hid (HV.out.trans (if_neg (by simp [hgd])))
      have HGC := Lib.hid (show Calls Try.prog 15 #[.int .i64 m, .slice A2 qs.length c2] v2 (RetB false v2) from by rw [← hgd]; exact goodI O2.rd hl2 (Nat.le_refl _) O2.cap HS2.out rfl)
      clear hgd
      go_wp2_with fail
      refine HGC.out.mono ?_
      rintro e w3 ⟨rfl, B3⟩
      go_wp2_with fail
      go_ret2
      rw [HE.out]
      exact retESB_nil _ _ _ (BW.trans ((L2.trans (B3.mono (by have := L2.size; omega))).mono (by have := HH.out; omega)))
    · have HE := Lib.hid (HV.out.trans (if_pos hgd))
      have HGC := Lib.hid (show Calls Try.prog 15 #[.int .i64 m, .slice A2 qs.length c2] v2 (RetB true v2) from by rw [← hgd]; exact goodI O2.rd hl2 (Nat.le_refl _) O2.cap HS2.out rfl)
      clear hgd
      go_wp2_with fail
      refine HGC.out.mono ?_
      rintro e w3 ⟨rfl, B3⟩
      go_wp2_with fail
      go_ret2
      rw [HE.out]
      exact ⟨A2, c2, rfl, (O2.below B3 (Nat.le_refl _)).more (by have := HH.out; omega) B3.size, BW.trans ((L2.trans (B3.mono (by have := L2.size; omega))).mono (by have := HH.out; omega))⟩

end Go.Proofs.Ytdcbgahfbcemnaa
