/-
  This file proves the words and the contract of the reference of PutPass.
  Conditions: that the slice is a row of passes of the call's own, that it is not too long.
-/
import Derived.Test.YtaehfcdcdjlanaaInsB
import Derived.Test.YtaehfcdcdjlanaaCat
import Derived.Deep.RegionHeld3
namespace Go.Proofs.Ytaehfcdcdjlanaa
open Go.RowKit
set_option linter.unusedSimpArgs false
set_option linter.unusedVariables false

theorem insert_any {A : Option Addr} {c lo hi vb j : Nat} {ps : List GPass} {q : GPass} {w : World} (ho : Own w 40 lo hi 6 A ps.length c (passCells ps)) (hl : ps.length ≤ 100000) (hlo : lo ≤ w.heap.size) (hhi : hi ≤ w.heap.size) (hv : w.heap[vb]? = some (.cells #[.int .i64 q.ln, .int .i64 q.bg, .int .i64 q.en, .int .i64 q.pg, .int .i64 q.bd, .int .i64 q.cs] 40)) (hvb : ∀ a, A = some a → a.block ≠ vb) (hj : j ≤ ps.length) :
    Calls Try.prog 77 #[.slice A ps.length c, .int .i64 j, .slice (some ⟨vb, 0, none⟩) 1 1] w (RetIns lo (putP ps j q) w) := by
  rcases Nat.lt_or_ge j ps.length with h | h
  · obtain ⟨g, rfl, hg1, hg2⟩ := ho.length_pos (by omega)
    have hne : vb ≠ g := fun e => hvb _ rfl e.symm
    have hcap := ho.cap
    by_cases hr : ps.length < c
    · exact insert_in ho hl hlo hhi hv hne h hr
    · exact insert_new ho hl hlo hhi hv h (by omega)
  · obtain rfl : j = ps.length := by omega
    exact insert_end ho hl hlo hv
/-- The cells of a pass that lies in a block. -/
def Holds6 (W : World) (gb : Nat) (q : GPass) : Prop := (W.cell? ⟨gb, 0, none⟩ = some (.int .i64 q.ln) ∧ W.cell? ⟨gb, 1, none⟩ = some (.int .i64 q.bg) ∧ W.cell? ⟨gb, 2, none⟩ = some (.int .i64 q.en) ∧ W.cell? ⟨gb, 3, none⟩ = some (.int .i64 q.pg) ∧ W.cell? ⟨gb, 4, none⟩ = some (.int .i64 q.bd) ∧ W.cell? ⟨gb, 5, none⟩ = some (.int .i64 q.cs))
theorem Holds6.new (w : World) (q : GPass) : Holds6 (w.alloc (.cells #[.int .i64 q.ln, .int .i64 q.bg, .int .i64 q.en, .int .i64 q.pg, .int .i64 q.bd, .int .i64 q.cs] 40)) w.heap.size q := pass_cells q w 40
theorem Holds6.below {W W' : World} {N gb : Nat} {q : GPass} (h : Holds6 W gb q) (hb : Below N W W') (hg : gb < N) : Holds6 W' gb q := by
  obtain ⟨h0, h1, h2, h3, h4, h5⟩ := h
  exact ⟨(hb.cell (p := ⟨gb, 0, none⟩) hg).trans h0, (hb.cell (p := ⟨gb, 1, none⟩) hg).trans h1, (hb.cell (p := ⟨gb, 2, none⟩) hg).trans h2, (hb.cell (p := ⟨gb, 3, none⟩) hg).trans h3, (hb.cell (p := ⟨gb, 4, none⟩) hg).trans h4, (hb.cell (p := ⟨gb, 5, none⟩) hg).trans h5⟩
theorem own_emptyP (w : World) : Own (w.alloc (.cells #[] 40)) 40 w.heap.size (w.alloc (.cells #[] 40)).heap.size 6 (some ⟨w.heap.size, 0, none⟩) 0 0 [] := ⟨row_empty w 40 6, fun a ha => by cases ha; simp⟩
theorem own_emptyPg (w : World) (g : Nat) (hg : g = w.heap.size) : Own (w.alloc (.cells #[] 40)) 40 g (g + 1) 6 (some ⟨g, 0, none⟩) 0 0 [] := by
  subst hg
  exact ⟨row_empty w 40 6, fun a ha => by cases ha; simp⟩
theorem rd_newP (w : World) (q : GPass) : Rd (w.alloc (.cells #[.int .i64 q.ln, .int .i64 q.bg, .int .i64 q.en, .int .i64 q.pg, .int .i64 q.bd, .int .i64 q.cs] 40)) w.heap.size (w.heap.size + 1) 6 (some ⟨w.heap.size, 0, none⟩) 1 [.int .i64 q.ln, .int .i64 q.bg, .int .i64 q.en, .int .i64 q.pg, .int .i64 q.bd, .int .i64 q.cs] :=
  ⟨rfl, fun _ => ⟨w.heap.size, 0, rfl, Nat.le_refl _, Nat.lt_succ_self _, fun j u hu => by have := cells_new w [.int .i64 q.ln, .int .i64 q.bg, .int .i64 q.en, .int .i64 q.pg, .int .i64 q.bd, .int .i64 q.cs] 40 j u hu; rwa [Addr.add_lit] at this⟩⟩
theorem rd_newPg (w : World) (q : GPass) (g : Nat) (hg : g = w.heap.size) : Rd (w.alloc (.cells #[.int .i64 q.ln, .int .i64 q.bg, .int .i64 q.en, .int .i64 q.pg, .int .i64 q.bd, .int .i64 q.cs] 40)) g (g + 1) 6 (some ⟨g, 0, none⟩) 1 [.int .i64 q.ln, .int .i64 q.bg, .int .i64 q.en, .int .i64 q.pg, .int .i64 q.bd, .int .i64 q.cs] := by
  subst hg
  exact rd_newP w q
theorem rd_keptP {w w' : World} {g n size : Nat} {cs : List Value} (h : Rd w g (g + 1) size (some ⟨g, 0, none⟩) n cs) (hk : w'.heap[g]? = w.heap[g]?) : Rd w' g (g + 1) size (some ⟨g, 0, none⟩) n cs :=
  h.keep fun b off h1 h2 => by
    obtain rfl : b = g := by omega
    exact World.cell?_of_block hk
theorem one_six (q : GPass) : ∀ u ∈ ([.int .i64 q.ln, .int .i64 q.bg, .int .i64 q.en, .int .i64 q.pg, .int .i64 q.bd, .int .i64 q.cs] : List Value), u.oneCell' = true := one_pass q
theorem rdP_take {w : World} {lo hi n j : Nat} {A : Option Addr} {ps : List GPass} (h : Rd w lo hi 6 A n (passCells ps)) (hn : ps.length = n) (hj : j ≤ n) : Rd w lo hi 6 A j (passCells (ps.take j)) := by
  refine ⟨by rw [passCells_length, List.length_take]; congr 1; omega, fun hp => ?_⟩
  obtain ⟨b, off, e, h1, h2, hc⟩ := h.2 (by omega)
  refine ⟨b, off, e, h1, h2, fun i u hu => hc i u ?_⟩
  rw [passCells_split ps j, List.getElem?_append_left (List.getElem?_eq_some_iff.1 hu).1]
  exact hu
theorem rdP_tail {w : World} {lo hi n j g : Nat} {ps : List GPass} (h : Rd w lo hi 6 (some ⟨g, 0, none⟩) n (passCells ps)) (hn : ps.length = n) (hj : j ≤ n) : Rd w lo hi 6 (some ⟨g, j * 6, none⟩) (n - j) (passCells (ps.drop j)) := by
  refine ⟨by rw [passCells_length, List.length_drop, hn], fun hp => ?_⟩
  obtain ⟨b, off, e, h1, h2, hc⟩ := h.2 (by omega)
  cases e
  have hl : (passCells (ps.take j)).length = j * 6 := by rw [passCells_length, List.length_take]; congr 1; omega
  refine ⟨g, j * 6, rfl, h1, h2, fun i u hu => ?_⟩
  have := hc (j * 6 + i) u (by rw [passCells_split ps j, List.getElem?_append_right (by omega), hl, show j * 6 + i - j * 6 = i by omega]; exact hu)
  rwa [Nat.zero_add] at this
theorem rdP_tail0 {w : World} {lo hi n j : Nat} {A : Option Addr} {ps : List GPass} (hn : ps.length = n) (hj : n ≤ j) : Rd w lo hi 6 A (n - j) (passCells (ps.drop j)) :=
  ⟨by rw [passCells_length, List.length_drop, hn], fun hp => absurd hp (by omega)⟩

/-- The first place whose pass does not begin ahead of b. -/
def posP (b : Int) : List GPass → Nat
  | [] => 0
  | p :: r => if p.bg < b then posP b r + 1 else 0
theorem posP_eq {b : Int} : ∀ (ps : List GPass) (j : Nat), j ≤ ps.length → (∀ (m : Nat) (p : GPass), m < j → ps[m]? = some p → p.bg < b) → (j = ps.length ∨ ∃ p, ps[j]? = some p ∧ ¬ p.bg < b) → posP b ps = j
  | [], j, hj, _, _ => by simp at hj; subst hj; rfl
  | p :: r, 0, _, _, h => by
    rcases h with h | ⟨p', hp, h⟩
    · simp at h
    · simp at hp
      subst hp
      rw [posP, if_neg h]
  | p :: r, j + 1, hj, h1, h2 => by
    have h0 := h1 0 p (by omega) rfl
    rw [posP, if_pos h0]
    congr 1
    refine posP_eq r j (by simpa using hj) (fun m q hm hq => h1 (m + 1) q (by omega) (by simpa using hq)) ?_
    rcases h2 with h2 | ⟨q, hq, h2⟩
    · left; simpa using h2
    · right; exact ⟨q, by simpa using hq, h2⟩
theorem posP_le (b : Int) : ∀ ps : List GPass, posP b ps ≤ ps.length
  | [] => Nat.le_refl _
  | p :: r => by
    have := posP_le b r
    rw [posP, List.length_cons]
    split <;> omega
def vPutPass (ps : List GPass) (q : GPass) : List GPass × Bool := if isPL ps = true ∧ isPL (putP ps (posP q.bg ps) q) = true then (putP ps (posP q.bg ps) q, true) else ([], false)
theorem vPutPass_len0 (ps : List GPass) (q : GPass) : (vPutPass ps q).1.length ≤ 12 := by
  unfold vPutPass
  split
  · rename_i h
    exact isPL_len h.2
  · simp
theorem putP_bad {ps : List GPass} {j : Nat} {q : GPass} (h : isPs q = false) : isPL (putP ps j q) = false := by
  rcases hg : isPL (putP ps j q) with _ | _
  · rfl
  · have hm : q ∈ putP ps j q := by unfold putP; simp
    obtain ⟨k, hk⟩ := List.mem_iff_getElem?.1 hm
    have := (isPL_get hg hk).1
    rw [h] at this
    cases this
/-- A new list of passes is returned; nothing that was there has turned. -/
def RetPB (ps : List GPass) (b : Bool) (w : World) (e : Ending) (w' : World) : Prop :=
  ∃ A c, e = .returned (.tuple #[.slice A ps.length c, .bool b]) ∧ Own w' 40 w.heap.size w'.heap.size 6 A ps.length c (passCells ps) ∧ Below w.heap.size w w'
theorem retPB_nil (b : Bool) (w w' : World) (hb : Below w.heap.size w w') : RetPB [] b w (.returned (.tuple #[.slice none 0 0, .bool b])) w' := ⟨none, 0, rfl, ⟨World.ownsRow_nil w' _ _ 6, fun a ha => by cases ha⟩, hb⟩
theorem retPB_empty (b : Bool) (w w' : World) (hb : Below w.heap.size w w') : RetPB [] b w (.returned (.tuple #[.slice (some ⟨w'.heap.size, 0, none⟩) 0 0, .bool b])) (w'.alloc (.cells #[] 40)) :=
  ⟨_, 0, rfl, ⟨row_empty_at w' _ 6 hb.size, fun a ha => by cases ha; simp⟩, hb.alloc hb.size _⟩

set_option maxHeartbeats 4000000 in
set_option maxRecDepth 100000 in
theorem sPutPass {A : Option Addr} {c lo hi : Nat} {ps : List GPass} {q : GPass} {w : World} (ho : Own w 40 lo hi 6 A ps.length c (passCells ps)) (hl : ps.length ≤ 1048576) (hh : hi ≤ w.heap.size) :
    Calls Try.prog 33 #[.slice A ps.length c, .agg #[.int .i64 q.ln, .int .i64 q.bg, .int .i64 q.en, .int .i64 q.pg, .int .i64 q.bd, .int .i64 q.cs]] w (RetPB (vPutPass ps q).1 (vPutPass ps q).2 w) := by
  obtain ⟨ie, hie, hez0, hez1, hez2⟩ := info_parts pass_info
  have Bx := below_alloc1 w (.cells #[.int .i64 q.ln, .int .i64 q.bg, .int .i64 q.en, .int .i64 q.pg, .int .i64 q.bd, .int .i64 q.cs] 40)
  have hox := ho.below Bx hh
  have H6 := Holds6.new w q
  have hzx : (w.alloc (.cells #[.int .i64 q.ln, .int .i64 q.bg, .int .i64 q.en, .int .i64 q.pg, .int .i64 q.bd, .int .i64 q.cs] 40)).heap.size = w.heap.size + 1 := by simp
  have hcap := ho.cap
  go_enter Try.func33, Try.ntmps33
  go_wp2_with fail
  generalize w.alloc (.cells #[.int .i64 q.ln, .int .i64 q.bg, .int .i64 q.en, .int .i64 q.pg, .int .i64 q.bd, .int .i64 q.cs] 40) = w0 at Bx hox H6 hzx ⊢
  refine (l11Good_any hox.rd (by omega) (by omega)).mono ?_
  rintro e w1 ⟨rfl, B1⟩
  have hs1 := B1.size
  have hb1 := Bx.trans (B1.mono (by omega))
  obtain ⟨gb, hgb⟩ : ∃ gb, gb = w.heap.size := ⟨_, rfl⟩
  have H61 := H6.below B1 (by omega)
  rw [← hgb] at H61 ⊢
  have hgl : gb < w1.heap.size := by omega
  have ho1 := hox.below B1 (by omega)
  have hhw1 : hi ≤ w1.heap.size := by omega
  rcases hg0 : isPL ps with _ | _
  · have HE := Lib.hid (show vPutPass ps q = ([], false) from by unfold vPutPass; rw [if_neg (by simp [hg0])])
    clear hg0
    go_wp2_with fail
    go_ret2
    rw [HE.out]
    exact retPB_empty _ _ _ hb1
  have HVP := Lib.hid (fun (j : Nat) (hp : posP q.bg ps = j) => (show vPutPass ps q = if isPL (putP ps j q) = true then (putP ps j q, true) else ([], false) from by unfold vPutPass; rw [hp]; by_cases h2 : isPL (putP ps j q) = true <;> simp [hg0, h2]))
  have h12 := isPL_len hg0
  clear hg0 H6 hox Bx B1 hzx hs1 hgb ho hh
  rcases ho1.head with ⟨rfl, h0, rfl⟩ | ⟨g, rfl, hg1, hg2⟩
  · have q1 : (ps.length : Int) = 0 := by omega
    have hj : 0 ≤ ps.length := Nat.zero_le _
    have HVJ := Lib.hid (HVP.out 0 (posP_eq ps 0 (Nat.zero_le _) (fun m p hm => absurd hm (by omega)) (.inl h0.symm)))
    have HZ := Lib.hid h0
    clear HVP
    rw [h0] at ho1 ⊢
    go_wp2_with fail
    go_loopw [6] (fun t wr => t = .int .i64 (0 : Int) ∧ Below w1.heap.size w1 wr) (fun _ _ => 0)
    case atStart => exact ⟨rfl, Below.refl _ _⟩
    case round =>
      obtain ⟨rfl, hbw⟩ := hrel
      go_wp2_with fail
      go_quiet (fail)
      go_wp2_with fail
      generalize hwx : wr.drewN _ = wx
      have hbx : Below w1.heap.size w1 wx := by rw [← hwx]; exact below_drewN hbw _
      have HX := Lib.hid (show Below w.heap.size w wx ∧ gb < wx.heap.size ∧ Holds6 wx gb q ∧ Rd wx lo hi 6 none ps.length (passCells ps) from ⟨hb1.trans (hbx.mono hb1.size), Nat.lt_of_lt_of_le hgl hbx.size, H61.below hbx hgl, by rw [HZ.out]; exact ho1.rd.below hbx hhw1⟩)
      have hhx : hi ≤ wx.heap.size := Nat.le_trans hhw1 hbx.size
      have h0 := HZ.out
      clear hwx hbw hbx hb1 H61 ho1 q1
      obtain ⟨H, hH⟩ : ∃ H, H = wx.heap.size := ⟨_, rfl⟩
      have hHs : H ≤ wx.heap.size := by omega
      have hgH : gb < H := by have := HX.out.2.1; omega
      have hwH : w.heap.size ≤ H := by have := HX.out.1.size; omega
      have HC : ∀ W, Below H wx W → (W.cell? ⟨gb, 0, none⟩ = some (.int .i64 q.ln) ∧ W.cell? ⟨gb, 1, none⟩ = some (.int .i64 q.bg) ∧ W.cell? ⟨gb, 2, none⟩ = some (.int .i64 q.en) ∧ W.cell? ⟨gb, 3, none⟩ = some (.int .i64 q.pg) ∧ W.cell? ⟨gb, 4, none⟩ = some (.int .i64 q.bd) ∧ W.cell? ⟨gb, 5, none⟩ = some (.int .i64 q.cs)) := fun W hW => HX.out.2.2.1.below hW hgH
      have RD : ∀ W, Below H wx W → Rd W lo hi 6 none ps.length (passCells ps) := fun W hW => HX.out.2.2.2.below hW (by omega)
      have RT : ∀ W, Below H wx W → Rd W lo hi 6 none 0 (passCells (ps.take 0)) := fun W hW => rdP_take (RD W hW) rfl (Nat.zero_le _)
      have RN3 : ∀ W, Rd W lo hi 6 none 0 (passCells (ps.drop 0)) := fun W => ⟨by rw [passCells_length, List.length_drop]; omega, fun h => absurd h (by omega)⟩
      clear hH
      go_region_held3 (fun w' => (w'.cell? ⟨gb, 0, none⟩ = some (.int .i64 q.ln) ∧ w'.cell? ⟨gb, 1, none⟩ = some (.int .i64 q.bg) ∧ w'.cell? ⟨gb, 2, none⟩ = some (.int .i64 q.en) ∧ w'.cell? ⟨gb, 3, none⟩ = some (.int .i64 q.pg) ∧ w'.cell? ⟨gb, 4, none⟩ = some (.int .i64 q.bd) ∧ w'.cell? ⟨gb, 5, none⟩ = some (.int .i64 q.cs)) ∧ Below H wx w')
        ((first | exact ⟨HC _ (Below.refl _ _).drew, (Below.refl _ _).drew⟩ | exact ⟨HC _ L3, L3⟩ | exact ⟨HC _ L2, L2⟩ | exact ⟨HC _ L1, L1⟩ | exact ⟨HC _ (L1.alloc L1s _), L1.alloc L1s _⟩ | exact ⟨HC _ (((Below.refl _ _).drew).alloc hHs _), ((Below.refl _ _).drew).alloc hHs _⟩ | exact ⟨HC _ ((((Below.refl _ _).drew).alloc hHs _).alloc (by simp; omega) _), (((Below.refl _ _).drew).alloc hHs _).alloc (by simp; omega) _⟩))
        ((first | (refine step_cat _ (by rfl) (.tmp 28) (.tmp 31) 24 (by rfl) H 40 ie (.agg #[.int .i64 0, .int .i64 0, .int .i64 0, .int .i64 0, .int .i64 0, .int .i64 0]) 6 48 Try.underlying24 hie hez0 hez1 hez2 (by rfl) (by decide) (some ⟨wx.heap.size, 0, none⟩) 0 0 [] (by rfl) _ ((own_emptyP _).more (by first | (simp; omega) | omega) (Nat.le_refl _)) lo hi none 0 0 (passCells (ps.take 0)) (by rfl) (RT _ (by first | assumption | exact And.right (by assumption))) (one_passes _) (by omega) (by decide) (by first | assumption | exact (by assumption : Below _ _ _).size | (simp; omega) | omega) ?_; intro A1 c1 v1 O1 b1 s1 k1; rw [Nat.zero_add] at O1; rw [List.nil_append] at O1; (try rw [Nat.zero_add]); have L1 : Below H wx v1 := b1 wx (by first | assumption | exact And.right (by assumption)); have L1s : H ≤ v1.heap.size := Nat.le_trans hHs L1.size) | (refine step_cat _ (by rfl) (.tmp 28) (.tmp 31) 24 (by rfl) H 40 ie (.agg #[.int .i64 0, .int .i64 0, .int .i64 0, .int .i64 0, .int .i64 0, .int .i64 0]) 6 48 Try.underlying24 hie hez0 hez1 hez2 (by rfl) (by decide) (some ⟨wx.heap.size, 0, none⟩) 0 0 [] (by rfl) _ (((own_emptyP _).below (below_alloc1 _ _) (Nat.le_refl _)).more (by first | (simp; omega) | omega) (Nat.le_refl _)) lo hi none 0 0 (passCells (ps.take 0)) (by rfl) (RT _ (by first | assumption | exact And.right (by assumption))) (one_passes _) (by omega) (by decide) (by first | assumption | exact (by assumption : Below _ _ _).size | (simp; omega) | omega) ?_; intro A1 c1 v1 O1 b1 s1 k1; rw [Nat.zero_add] at O1; rw [List.nil_append] at O1; (try rw [Nat.zero_add]); have L1 : Below H wx v1 := b1 wx (by first | assumption | exact And.right (by assumption)); have L1s : H ≤ v1.heap.size := Nat.le_trans hHs L1.size) | (refine step_cat _ (by rfl) (.tmp 28) (.tmp 31) 24 (by rfl) H 40 ie (.agg #[.int .i64 0, .int .i64 0, .int .i64 0, .int .i64 0, .int .i64 0, .int .i64 0]) 6 48 Try.underlying24 hie hez0 hez1 hez2 (by rfl) (by decide) (some ⟨wx.heap.size + 1, 0, none⟩) 0 0 [] (by rfl) _ ((own_emptyPg _ (wx.heap.size + 1) (by simp)).more (by omega) (Nat.le_refl _)) lo hi none 0 0 (passCells (ps.take 0)) (by rfl) (RT _ (by first | assumption | exact And.right (by assumption))) (one_passes _) (by omega) (by decide) (by first | assumption | exact (by assumption : Below _ _ _).size | (simp; omega) | omega) ?_; intro A1 c1 v1 O1 b1 s1 k1; rw [Nat.zero_add] at O1; rw [List.nil_append] at O1; (try rw [Nat.zero_add]); have L1 : Below H wx v1 := b1 wx (by first | assumption | exact And.right (by assumption)); have L1s : H ≤ v1.heap.size := Nat.le_trans hHs L1.size) | (refine step_cat _ (by rfl) (.tmp 32) (.tmp 34) 24 (by rfl) H 40 ie (.agg #[.int .i64 0, .int .i64 0, .int .i64 0, .int .i64 0, .int .i64 0, .int .i64 0]) 6 48 Try.underlying24 hie hez0 hez1 hez2 (by rfl) (by decide) A1 0 c1 (passCells (ps.take 0)) (by rfl) _ (O1.below (below_alloc1 _ _) (Nat.le_refl _)) _ _ (some ⟨_, 0, none⟩) 1 1 [.int .i64 q.ln, .int .i64 q.bg, .int .i64 q.en, .int .i64 q.pg, .int .i64 q.bd, .int .i64 q.cs] (by rfl) (rd_newP _ q) (one_six q) (by omega) (by decide) (by first | assumption | exact (by assumption : Below _ _ _).size | (simp; omega) | omega) ?_; intro A2 c2 v2 O2 b2 s2 k2; have L2 : Below H wx v2 := b2 wx (by first | assumption | exact And.right (by assumption)); have L2s : H ≤ v2.heap.size := Nat.le_trans hHs L2.size) | (refine step_cat _ (by rfl) (.tmp 32) (.tmp 34) 24 (by rfl) H 40 ie (.agg #[.int .i64 0, .int .i64 0, .int .i64 0, .int .i64 0, .int .i64 0, .int .i64 0]) 6 48 Try.underlying24 hie hez0 hez1 hez2 (by rfl) (by decide) A1 0 c1 (passCells (ps.take 0)) (by rfl) _ (O1) _ _ (some ⟨wx.heap.size, 0, none⟩) 1 1 [.int .i64 q.ln, .int .i64 q.bg, .int .i64 q.en, .int .i64 q.pg, .int .i64 q.bd, .int .i64 q.cs] (by rfl) (rd_keptP ((rd_newP _ q).below (below_alloc1 _ _) (by simp <;> omega)) (k1 _ (by simp <;> omega) (by simp <;> omega))) (one_six q) (by omega) (by decide) (by first | assumption | exact (by assumption : Below _ _ _).size | (simp; omega) | omega) ?_; intro A2 c2 v2 O2 b2 s2 k2; have L2 : Below H wx v2 := b2 wx (by first | assumption | exact And.right (by assumption)); have L2s : H ≤ v2.heap.size := Nat.le_trans hHs L2.size) | (refine step_cat _ (by rfl) (.tmp 32) (.tmp 34) 24 (by rfl) H 40 ie (.agg #[.int .i64 0, .int .i64 0, .int .i64 0, .int .i64 0, .int .i64 0, .int .i64 0]) 6 48 Try.underlying24 hie hez0 hez1 hez2 (by rfl) (by decide) A1 0 c1 (passCells (ps.take 0)) (by rfl) _ (O1) _ _ (some ⟨wx.heap.size + 1, 0, none⟩) 1 1 [.int .i64 q.ln, .int .i64 q.bg, .int .i64 q.en, .int .i64 q.pg, .int .i64 q.bd, .int .i64 q.cs] (by rfl) (rd_keptP (rd_newPg _ q (wx.heap.size + 1) (by simp)) (k1 _ (by simp <;> omega) (by simp <;> omega))) (one_six q) (by omega) (by decide) (by first | assumption | exact (by assumption : Below _ _ _).size | (simp; omega) | omega) ?_; intro A2 c2 v2 O2 b2 s2 k2; have L2 : Below H wx v2 := b2 wx (by first | assumption | exact And.right (by assumption)); have L2s : H ≤ v2.heap.size := Nat.le_trans hHs L2.size) | (refine step_cat _ (by rfl) (.tmp 35) (.tmp 38) 24 (by rfl) H 40 ie (.agg #[.int .i64 0, .int .i64 0, .int .i64 0, .int .i64 0, .int .i64 0, .int .i64 0]) 6 48 Try.underlying24 hie hez0 hez1 hez2 (by rfl) (by decide) A2 1 c2 _ (by rfl) _ O2 lo hi none 0 0 (passCells (ps.drop 0)) (by rfl) (RN3 _) (one_passes _) (by omega) (by decide) (by first | assumption | exact (by assumption : Below _ _ _).size | (simp; omega) | omega) ?_; intro A3 c3 v3 O3 b3 s3 k3; have L3 : Below H wx v3 := b3 wx (by first | assumption | exact And.right (by assumption)))))
      all_goals
        obtain ⟨qs, hqs⟩ : ∃ qs, qs = putP ps 0 q := ⟨_, rfl⟩
        have hql : 0 + 1 + 0 = qs.length := by rw [hqs, putP_length ps (by omega)]; omega
        have hqc : (passCells (ps.take 0) ++ [.int .i64 q.ln, .int .i64 q.bg, .int .i64 q.en, .int .i64 q.pg, .int .i64 q.bd, .int .i64 q.cs]) ++ passCells (ps.drop 0) = passCells qs := by rw [hqs]; exact (putP_cells ps 0 q).symm
        rw [hqc] at O3
        rw [hql] at O3
        have HQ1 := Lib.hid (show 1 = qs.length from by omega)
        have HV := Lib.hid (show vPutPass ps q = if isPL qs = true then (qs, true) else ([], false) from by rw [hqs]; exact HVJ.out)
        have HL := Lib.hid (show qs.length ≤ 2000000 from by omega)
        clear hqs hql hqc O1 O2 b1 b2 b3 k1 k2 k3 s1 s2 s3 L1 L2
        rcases hgd : isPL qs with _ | _
        · have HE := Lib.hid (HV.out.trans (if_neg (by simp [hgd])))
          have HG := Lib.hid hgd
          have HGC := Lib.hid (show Calls Try.prog 55 #[.slice A3 1 c3] v3 (RetB (isPL qs) v3) from by have := l11Good_any (c := c3) O3.rd (by have := HL.out; omega) (Nat.le_refl _); rwa [← HQ1.out] at this)
          clear hgd
          go_wp2_with fail
          refine HGC.out.mono ?_
          rintro e w4 ⟨rfl, B4⟩
          rw [HG.out]
          have hb4 := (HX.out.1.trans (L3.mono hwH)).trans (B4.mono (by have := L3.size; have := HX.out.1.size; omega))
          go_wp2_with fail
          go_ret2
          rw [HE.out]
          exact retPB_empty _ _ _ hb4
        · have HE := Lib.hid (HV.out.trans (if_pos hgd))
          have HG := Lib.hid hgd
          have HGC := Lib.hid (show Calls Try.prog 55 #[.slice A3 1 c3] v3 (RetB (isPL qs) v3) from by have := l11Good_any (c := c3) O3.rd (by have := HL.out; omega) (Nat.le_refl _); rwa [← HQ1.out] at this)
          clear hgd
          go_wp2_with fail
          refine HGC.out.mono ?_
          rintro e w4 ⟨rfl, B4⟩
          rw [HG.out]
          have hb4 := (HX.out.1.trans (L3.mono hwH)).trans (B4.mono (by have := L3.size; have := HX.out.1.size; omega))
          go_wp2_with fail
          go_ret2
          rw [HE.out]
          exact ⟨A3, c3, by rw [← HQ1.out]; rfl, (O3.below B4 (Nat.le_refl _)).more hwH B4.size, hb4⟩
  · have hcell : ∀ W, Below w1.heap.size w1 W → RdP W lo hi (some ⟨g, 0, none⟩) ps := fun W hW => ho1.rd.below hW hhw1
    have hbox : ∀ W, Below w1.heap.size w1 W → Holds6 W gb q := fun W hW => H61.below hW hgl
    have HHX := Lib.hid (fun (wx : World) (hbx : Below w1.heap.size w1 wx) => (show Below w.heap.size w wx ∧ gb < wx.heap.size ∧ Holds6 wx gb q ∧ Rd wx lo hi 6 (some ⟨g, 0, none⟩) ps.length (passCells ps) from ⟨hb1.trans (hbx.mono hb1.size), Nat.lt_of_lt_of_le hgl hbx.size, H61.below hbx hgl, ho1.rd.below hbx hhw1⟩))
    clear hb1 H61 ho1
    go_wp2_with fail
    go_loopw [6] (fun t wr => ∃ j : Nat, j ≤ ps.length ∧ t = .int .i64 j ∧ (∀ (m : Nat) (p : GPass), m < j → ps[m]? = some p → p.bg < q.bg) ∧ Below w1.heap.size w1 wr) (fun t _ => ps.length - (intOf t).toNat)
    case atStart => exact ⟨0, Nat.zero_le _, rfl, (fun m p hm => absurd hm (by omega)), Below.refl _ _⟩
    case round =>
      obtain ⟨j, hj, rfl, hlow, hbw⟩ := hrel
      have HLOW := Lib.hid hlow
      obtain ⟨x0, x1, x2, x3, x4, x5⟩ := hbox _ hbw
      clear hlow
      by_cases hlt : j < ps.length
      · obtain ⟨b, off, p, hAA, _, _, hp, c0, c1, c2, c3, c4, c5⟩ := (hcell _ hbw).getp hlt
        injection hAA with hAA
        injection hAA with hbb hof hpath
        subst hbb
        subst hof
        simp only [Nat.zero_add] at c0 c1 c2 c3 c4 c5
        have HP := Lib.hid hp
        have q1 : (j : Int) < (ps.length : Int) := by omega
        clear hp
        by_cases hlt2 : p.bg < q.bg
        · have hd : decide (p.bg < q.bg) = true := decide_eq_true hlt2
          go_wp2_with fail
          go_quiet (fail)
          go_wp2_with fail
          go_roundw
          case rel => exact ⟨j + 1, by omega, by go_num, (fun m p' hm h => by
            rcases Nat.lt_or_ge m j with h1 | h1
            · exact HLOW.out m p' h1 h
            · obtain rfl : m = j := by omega
              rw [HP.out] at h
              injection h with h
              subst h
              exact hlt2), below_drewN hbw _⟩
          case measure => simp [intOf]; omega
        · have hd : decide (p.bg < q.bg) = false := decide_eq_false hlt2
          have HVJ := Lib.hid (HVP.out j (posP_eq ps j hj HLOW.out (.inr ⟨p, HP.out, hlt2⟩)))
          go_wp2_with fail
          go_quiet (fail)
          go_wp2_with fail
          generalize hwx : wr.drewN _ = wx
          have hbx : Below w1.heap.size w1 wx := by rw [← hwx]; exact below_drewN hbw _
          have HX := Lib.hid (HHX.out wx hbx)
          have hhx : hi ≤ wx.heap.size := Nat.le_trans hhw1 hbx.size
          have r1 : j ≤ c := by omega
          have r3 : (j : Int) ≤ (c : Int) := by omega
          have r4 : (0 : Int) ≤ (j : Int) := by omega
          have r5 : (ps.length : Int) ≤ (c : Int) := by omega
          have r6 : (j : Int) ≤ (ps.length : Int) := by omega
          have hc1 : ¬ c = j := by omega
          clear hwx hbw hbx x0 x1 x2 x3 x4 x5 c0 c1 c2 c3 c4 c5 hlt2 hd hcell hbox HHX HVP HLOW HP
          obtain ⟨H, hH⟩ : ∃ H, H = wx.heap.size := ⟨_, rfl⟩
          have hHs : H ≤ wx.heap.size := by omega
          have hgH : gb < H := by have := HX.out.2.1; omega
          have hwH : w.heap.size ≤ H := by have := HX.out.1.size; omega
          have HC : ∀ W, Below H wx W → (W.cell? ⟨gb, 0, none⟩ = some (.int .i64 q.ln) ∧ W.cell? ⟨gb, 1, none⟩ = some (.int .i64 q.bg) ∧ W.cell? ⟨gb, 2, none⟩ = some (.int .i64 q.en) ∧ W.cell? ⟨gb, 3, none⟩ = some (.int .i64 q.pg) ∧ W.cell? ⟨gb, 4, none⟩ = some (.int .i64 q.bd) ∧ W.cell? ⟨gb, 5, none⟩ = some (.int .i64 q.cs)) := fun W hW => HX.out.2.2.1.below hW hgH
          have RD : ∀ W, Below H wx W → Rd W lo hi 6 (some ⟨g, 0, none⟩) ps.length (passCells ps) := fun W hW => HX.out.2.2.2.below hW (by omega)
          have RT : ∀ W, Below H wx W → Rd W lo hi 6 (some ⟨g, 0, none⟩) j (passCells (ps.take j)) := fun W hW => rdP_take (RD W hW) rfl hj
          clear hH
          go_region_held3 (fun w' => (w'.cell? ⟨gb, 0, none⟩ = some (.int .i64 q.ln) ∧ w'.cell? ⟨gb, 1, none⟩ = some (.int .i64 q.bg) ∧ w'.cell? ⟨gb, 2, none⟩ = some (.int .i64 q.en) ∧ w'.cell? ⟨gb, 3, none⟩ = some (.int .i64 q.pg) ∧ w'.cell? ⟨gb, 4, none⟩ = some (.int .i64 q.bd) ∧ w'.cell? ⟨gb, 5, none⟩ = some (.int .i64 q.cs)) ∧ Below H wx w')
            ((first | exact ⟨HC _ (Below.refl _ _).drew, (Below.refl _ _).drew⟩ | exact ⟨HC _ L3, L3⟩ | exact ⟨HC _ L2, L2⟩ | exact ⟨HC _ L1, L1⟩ | exact ⟨HC _ (L1.alloc L1s _), L1.alloc L1s _⟩ | exact ⟨HC _ (((Below.refl _ _).drew).alloc hHs _), ((Below.refl _ _).drew).alloc hHs _⟩ | exact ⟨HC _ ((((Below.refl _ _).drew).alloc hHs _).alloc (by simp; omega) _), (((Below.refl _ _).drew).alloc hHs _).alloc (by simp; omega) _⟩))
            ((first | (refine step_cat _ (by rfl) (.tmp 28) (.tmp 31) 24 (by rfl) H 40 ie (.agg #[.int .i64 0, .int .i64 0, .int .i64 0, .int .i64 0, .int .i64 0, .int .i64 0]) 6 48 Try.underlying24 hie hez0 hez1 hez2 (by rfl) (by decide) (some ⟨wx.heap.size, 0, none⟩) 0 0 [] (by rfl) _ ((own_emptyP _).more (by first | (simp; omega) | omega) (Nat.le_refl _)) lo hi (some ⟨g, 0, none⟩) j c (passCells (ps.take j)) (by rfl) (RT _ (by first | assumption | exact And.right (by assumption))) (one_passes _) (by omega) (by decide) (by first | assumption | exact (by assumption : Below _ _ _).size | (simp; omega) | omega) ?_; intro A1 c1 v1 O1 b1 s1 k1; rw [Nat.zero_add] at O1; rw [List.nil_append] at O1; (try rw [Nat.zero_add]); have L1 : Below H wx v1 := b1 wx (by first | assumption | exact And.right (by assumption)); have L1s : H ≤ v1.heap.size := Nat.le_trans hHs L1.size) | (refine step_cat _ (by rfl) (.tmp 28) (.tmp 31) 24 (by rfl) H 40 ie (.agg #[.int .i64 0, .int .i64 0, .int .i64 0, .int .i64 0, .int .i64 0, .int .i64 0]) 6 48 Try.underlying24 hie hez0 hez1 hez2 (by rfl) (by decide) (some ⟨wx.heap.size, 0, none⟩) 0 0 [] (by rfl) _ (((own_emptyP _).below (below_alloc1 _ _) (Nat.le_refl _)).more (by first | (simp; omega) | omega) (Nat.le_refl _)) lo hi (some ⟨g, 0, none⟩) j c (passCells (ps.take j)) (by rfl) (RT _ (by first | assumption | exact And.right (by assumption))) (one_passes _) (by omega) (by decide) (by first | assumption | exact (by assumption : Below _ _ _).size | (simp; omega) | omega) ?_; intro A1 c1 v1 O1 b1 s1 k1; rw [Nat.zero_add] at O1; rw [List.nil_append] at O1; (try rw [Nat.zero_add]); have L1 : Below H wx v1 := b1 wx (by first | assumption | exact And.right (by assumption)); have L1s : H ≤ v1.heap.size := Nat.le_trans hHs L1.size) | (refine step_cat _ (by rfl) (.tmp 28) (.tmp 31) 24 (by rfl) H 40 ie (.agg #[.int .i64 0, .int .i64 0, .int .i64 0, .int .i64 0, .int .i64 0, .int .i64 0]) 6 48 Try.underlying24 hie hez0 hez1 hez2 (by rfl) (by decide) (some ⟨wx.heap.size + 1, 0, none⟩) 0 0 [] (by rfl) _ ((own_emptyPg _ (wx.heap.size + 1) (by simp)).more (by omega) (Nat.le_refl _)) lo hi (some ⟨g, 0, none⟩) j c (passCells (ps.take j)) (by rfl) (RT _ (by first | assumption | exact And.right (by assumption))) (one_passes _) (by omega) (by decide) (by first | assumption | exact (by assumption : Below _ _ _).size | (simp; omega) | omega) ?_; intro A1 c1 v1 O1 b1 s1 k1; rw [Nat.zero_add] at O1; rw [List.nil_append] at O1; (try rw [Nat.zero_add]); have L1 : Below H wx v1 := b1 wx (by first | assumption | exact And.right (by assumption)); have L1s : H ≤ v1.heap.size := Nat.le_trans hHs L1.size) | (refine step_cat _ (by rfl) (.tmp 32) (.tmp 34) 24 (by rfl) H 40 ie (.agg #[.int .i64 0, .int .i64 0, .int .i64 0, .int .i64 0, .int .i64 0, .int .i64 0]) 6 48 Try.underlying24 hie hez0 hez1 hez2 (by rfl) (by decide) A1 j c1 (passCells (ps.take j)) (by rfl) _ (O1.below (below_alloc1 _ _) (Nat.le_refl _)) _ _ (some ⟨_, 0, none⟩) 1 1 [.int .i64 q.ln, .int .i64 q.bg, .int .i64 q.en, .int .i64 q.pg, .int .i64 q.bd, .int .i64 q.cs] (by rfl) (rd_newP _ q) (one_six q) (by omega) (by decide) (by first | assumption | exact (by assumption : Below _ _ _).size | (simp; omega) | omega) ?_; intro A2 c2 v2 O2 b2 s2 k2; have L2 : Below H wx v2 := b2 wx (by first | assumption | exact And.right (by assumption)); have L2s : H ≤ v2.heap.size := Nat.le_trans hHs L2.size) | (refine step_cat _ (by rfl) (.tmp 32) (.tmp 34) 24 (by rfl) H 40 ie (.agg #[.int .i64 0, .int .i64 0, .int .i64 0, .int .i64 0, .int .i64 0, .int .i64 0]) 6 48 Try.underlying24 hie hez0 hez1 hez2 (by rfl) (by decide) A1 j c1 (passCells (ps.take j)) (by rfl) _ (O1) _ _ (some ⟨wx.heap.size, 0, none⟩) 1 1 [.int .i64 q.ln, .int .i64 q.bg, .int .i64 q.en, .int .i64 q.pg, .int .i64 q.bd, .int .i64 q.cs] (by rfl) (rd_keptP ((rd_newP _ q).below (below_alloc1 _ _) (by simp <;> omega)) (k1 _ (by simp <;> omega) (by simp <;> omega))) (one_six q) (by omega) (by decide) (by first | assumption | exact (by assumption : Below _ _ _).size | (simp; omega) | omega) ?_; intro A2 c2 v2 O2 b2 s2 k2; have L2 : Below H wx v2 := b2 wx (by first | assumption | exact And.right (by assumption)); have L2s : H ≤ v2.heap.size := Nat.le_trans hHs L2.size) | (refine step_cat _ (by rfl) (.tmp 32) (.tmp 34) 24 (by rfl) H 40 ie (.agg #[.int .i64 0, .int .i64 0, .int .i64 0, .int .i64 0, .int .i64 0, .int .i64 0]) 6 48 Try.underlying24 hie hez0 hez1 hez2 (by rfl) (by decide) A1 j c1 (passCells (ps.take j)) (by rfl) _ (O1) _ _ (some ⟨wx.heap.size + 1, 0, none⟩) 1 1 [.int .i64 q.ln, .int .i64 q.bg, .int .i64 q.en, .int .i64 q.pg, .int .i64 q.bd, .int .i64 q.cs] (by rfl) (rd_keptP (rd_newPg _ q (wx.heap.size + 1) (by simp)) (k1 _ (by simp <;> omega) (by simp <;> omega))) (one_six q) (by omega) (by decide) (by first | assumption | exact (by assumption : Below _ _ _).size | (simp; omega) | omega) ?_; intro A2 c2 v2 O2 b2 s2 k2; have L2 : Below H wx v2 := b2 wx (by first | assumption | exact And.right (by assumption)); have L2s : H ≤ v2.heap.size := Nat.le_trans hHs L2.size) | (refine step_cat _ (by rfl) (.tmp 35) (.tmp 38) 24 (by rfl) H 40 ie (.agg #[.int .i64 0, .int .i64 0, .int .i64 0, .int .i64 0, .int .i64 0, .int .i64 0]) 6 48 Try.underlying24 hie hez0 hez1 hez2 (by rfl) (by decide) A2 (j + 1) c2 _ (by rfl) _ O2 lo hi (some ⟨g, j * 6, none⟩) (ps.length - j) (c - j) (passCells (ps.drop j)) (by rfl) (rdP_tail (RD _ (by first | assumption | exact And.right (by assumption))) rfl hj) (one_passes _) (by omega) (by decide) (by first | assumption | exact (by assumption : Below _ _ _).size | (simp; omega) | omega) ?_; intro A3 c3 v3 O3 b3 s3 k3; have L3 : Below H wx v3 := b3 wx (by first | assumption | exact And.right (by assumption)))))
          all_goals
            obtain ⟨qs, hqs⟩ : ∃ qs, qs = putP ps j q := ⟨_, rfl⟩
            have hql : j + 1 + (ps.length - j) = qs.length := by rw [hqs, putP_length ps (by omega)]; omega
            have hqc : (passCells (ps.take j) ++ [.int .i64 q.ln, .int .i64 q.bg, .int .i64 q.en, .int .i64 q.pg, .int .i64 q.bd, .int .i64 q.cs]) ++ passCells (ps.drop j) = passCells qs := by rw [hqs]; exact (putP_cells ps j q).symm
            rw [hqc] at O3
            rw [hql] at O3 ⊢
            have HV := Lib.hid (show vPutPass ps q = if isPL qs = true then (qs, true) else ([], false) from by rw [hqs]; exact HVJ.out)
            have HL := Lib.hid (show qs.length ≤ 2000000 from by omega)
            clear hqs hql hqc O1 O2 b1 b2 b3 k1 k2 k3 s1 s2 s3 L1 L2
            rcases hgd : isPL qs with _ | _
            · have HE := Lib.hid (HV.out.trans (if_neg (by simp [hgd])))
              have HG := Lib.hid hgd
              clear hgd
              go_wp2_with fail
              refine (l11Good_any O3.rd (by have := HL.out; omega) (Nat.le_refl _)).mono ?_
              rintro e w4 ⟨rfl, B4⟩
              rw [HG.out]
              have hb4 := (HX.out.1.trans (L3.mono hwH)).trans (B4.mono (by have := L3.size; have := HX.out.1.size; omega))
              go_wp2_with fail
              go_ret2
              rw [HE.out]
              exact retPB_empty _ _ _ hb4
            · have HE := Lib.hid (HV.out.trans (if_pos hgd))
              have HG := Lib.hid hgd
              clear hgd
              go_wp2_with fail
              refine (l11Good_any O3.rd (by have := HL.out; omega) (Nat.le_refl _)).mono ?_
              rintro e w4 ⟨rfl, B4⟩
              rw [HG.out]
              have hb4 := (HX.out.1.trans (L3.mono hwH)).trans (B4.mono (by have := L3.size; have := HX.out.1.size; omega))
              go_wp2_with fail
              go_ret2
              rw [HE.out]
              exact ⟨A3, c3, rfl, (O3.below B4 (Nat.le_refl _)).more hwH B4.size, hb4⟩
      · have HVJ := Lib.hid (HVP.out j (posP_eq ps j hj HLOW.out (.inl (by omega))))
        have q1 : ¬ (j : Int) < (ps.length : Int) := by omega
        go_wp2_with fail
        go_quiet (fail)
        go_wp2_with fail
        generalize hwx : wr.drewN _ = wx
        have hbx : Below w1.heap.size w1 wx := by rw [← hwx]; exact below_drewN hbw _
        have HX := Lib.hid (HHX.out wx hbx)
        have hhx : hi ≤ wx.heap.size := Nat.le_trans hhw1 hbx.size
        have r1 : j ≤ c := by omega
        have r3 : (j : Int) ≤ (c : Int) := by omega
        have r4 : (0 : Int) ≤ (j : Int) := by omega
        have r5 : (ps.length : Int) ≤ (c : Int) := by omega
        have r6 : (j : Int) ≤ (ps.length : Int) := by omega
        clear hwx hbw hbx x0 x1 x2 x3 x4 x5 hcell hbox HHX HVP HLOW
        by_cases hc1 : c = j
        · obtain ⟨H, hH⟩ : ∃ H, H = wx.heap.size := ⟨_, rfl⟩
          have hHs : H ≤ wx.heap.size := by omega
          have hgH : gb < H := by have := HX.out.2.1; omega
          have hwH : w.heap.size ≤ H := by have := HX.out.1.size; omega
          have HC : ∀ W, Below H wx W → (W.cell? ⟨gb, 0, none⟩ = some (.int .i64 q.ln) ∧ W.cell? ⟨gb, 1, none⟩ = some (.int .i64 q.bg) ∧ W.cell? ⟨gb, 2, none⟩ = some (.int .i64 q.en) ∧ W.cell? ⟨gb, 3, none⟩ = some (.int .i64 q.pg) ∧ W.cell? ⟨gb, 4, none⟩ = some (.int .i64 q.bd) ∧ W.cell? ⟨gb, 5, none⟩ = some (.int .i64 q.cs)) := fun W hW => HX.out.2.2.1.below hW hgH
          have RD : ∀ W, Below H wx W → Rd W lo hi 6 (some ⟨g, 0, none⟩) ps.length (passCells ps) := fun W hW => HX.out.2.2.2.below hW (by omega)
          have RT : ∀ W, Below H wx W → Rd W lo hi 6 (some ⟨g, 0, none⟩) j (passCells (ps.take j)) := fun W hW => rdP_take (RD W hW) rfl hj
          clear hH
          go_region_held3 (fun w' => (w'.cell? ⟨gb, 0, none⟩ = some (.int .i64 q.ln) ∧ w'.cell? ⟨gb, 1, none⟩ = some (.int .i64 q.bg) ∧ w'.cell? ⟨gb, 2, none⟩ = some (.int .i64 q.en) ∧ w'.cell? ⟨gb, 3, none⟩ = some (.int .i64 q.pg) ∧ w'.cell? ⟨gb, 4, none⟩ = some (.int .i64 q.bd) ∧ w'.cell? ⟨gb, 5, none⟩ = some (.int .i64 q.cs)) ∧ Below H wx w')
            ((first | exact ⟨HC _ (Below.refl _ _).drew, (Below.refl _ _).drew⟩ | exact ⟨HC _ L3, L3⟩ | exact ⟨HC _ L2, L2⟩ | exact ⟨HC _ L1, L1⟩ | exact ⟨HC _ (L1.alloc L1s _), L1.alloc L1s _⟩ | exact ⟨HC _ (((Below.refl _ _).drew).alloc hHs _), ((Below.refl _ _).drew).alloc hHs _⟩ | exact ⟨HC _ ((((Below.refl _ _).drew).alloc hHs _).alloc (by simp; omega) _), (((Below.refl _ _).drew).alloc hHs _).alloc (by simp; omega) _⟩))
            ((first | (refine step_cat _ (by rfl) (.tmp 28) (.tmp 31) 24 (by rfl) H 40 ie (.agg #[.int .i64 0, .int .i64 0, .int .i64 0, .int .i64 0, .int .i64 0, .int .i64 0]) 6 48 Try.underlying24 hie hez0 hez1 hez2 (by rfl) (by decide) (some ⟨wx.heap.size, 0, none⟩) 0 0 [] (by rfl) _ ((own_emptyP _).more (by first | (simp; omega) | omega) (Nat.le_refl _)) lo hi (some ⟨g, 0, none⟩) j j (passCells (ps.take j)) (by rfl) (RT _ (by first | assumption | exact And.right (by assumption))) (one_passes _) (by omega) (by decide) (by first | assumption | exact (by assumption : Below _ _ _).size | (simp; omega) | omega) ?_; intro A1 c1 v1 O1 b1 s1 k1; rw [Nat.zero_add] at O1; rw [List.nil_append] at O1; (try rw [Nat.zero_add]); have L1 : Below H wx v1 := b1 wx (by first | assumption | exact And.right (by assumption)); have L1s : H ≤ v1.heap.size := Nat.le_trans hHs L1.size) | (refine step_cat _ (by rfl) (.tmp 28) (.tmp 31) 24 (by rfl) H 40 ie (.agg #[.int .i64 0, .int .i64 0, .int .i64 0, .int .i64 0, .int .i64 0, .int .i64 0]) 6 48 Try.underlying24 hie hez0 hez1 hez2 (by rfl) (by decide) (some ⟨wx.heap.size, 0, none⟩) 0 0 [] (by rfl) _ (((own_emptyP _).below (below_alloc1 _ _) (Nat.le_refl _)).more (by first | (simp; omega) | omega) (Nat.le_refl _)) lo hi (some ⟨g, 0, none⟩) j j (passCells (ps.take j)) (by rfl) (RT _ (by first | assumption | exact And.right (by assumption))) (one_passes _) (by omega) (by decide) (by first | assumption | exact (by assumption : Below _ _ _).size | (simp; omega) | omega) ?_; intro A1 c1 v1 O1 b1 s1 k1; rw [Nat.zero_add] at O1; rw [List.nil_append] at O1; (try rw [Nat.zero_add]); have L1 : Below H wx v1 := b1 wx (by first | assumption | exact And.right (by assumption)); have L1s : H ≤ v1.heap.size := Nat.le_trans hHs L1.size) | (refine step_cat _ (by rfl) (.tmp 28) (.tmp 31) 24 (by rfl) H 40 ie (.agg #[.int .i64 0, .int .i64 0, .int .i64 0, .int .i64 0, .int .i64 0, .int .i64 0]) 6 48 Try.underlying24 hie hez0 hez1 hez2 (by rfl) (by decide) (some ⟨wx.heap.size + 1, 0, none⟩) 0 0 [] (by rfl) _ ((own_emptyPg _ (wx.heap.size + 1) (by simp)).more (by omega) (Nat.le_refl _)) lo hi (some ⟨g, 0, none⟩) j j (passCells (ps.take j)) (by rfl) (RT _ (by first | assumption | exact And.right (by assumption))) (one_passes _) (by omega) (by decide) (by first | assumption | exact (by assumption : Below _ _ _).size | (simp; omega) | omega) ?_; intro A1 c1 v1 O1 b1 s1 k1; rw [Nat.zero_add] at O1; rw [List.nil_append] at O1; (try rw [Nat.zero_add]); have L1 : Below H wx v1 := b1 wx (by first | assumption | exact And.right (by assumption)); have L1s : H ≤ v1.heap.size := Nat.le_trans hHs L1.size) | (refine step_cat _ (by rfl) (.tmp 32) (.tmp 34) 24 (by rfl) H 40 ie (.agg #[.int .i64 0, .int .i64 0, .int .i64 0, .int .i64 0, .int .i64 0, .int .i64 0]) 6 48 Try.underlying24 hie hez0 hez1 hez2 (by rfl) (by decide) A1 j c1 (passCells (ps.take j)) (by rfl) _ (O1.below (below_alloc1 _ _) (Nat.le_refl _)) _ _ (some ⟨_, 0, none⟩) 1 1 [.int .i64 q.ln, .int .i64 q.bg, .int .i64 q.en, .int .i64 q.pg, .int .i64 q.bd, .int .i64 q.cs] (by rfl) (rd_newP _ q) (one_six q) (by omega) (by decide) (by first | assumption | exact (by assumption : Below _ _ _).size | (simp; omega) | omega) ?_; intro A2 c2 v2 O2 b2 s2 k2; have L2 : Below H wx v2 := b2 wx (by first | assumption | exact And.right (by assumption)); have L2s : H ≤ v2.heap.size := Nat.le_trans hHs L2.size) | (refine step_cat _ (by rfl) (.tmp 32) (.tmp 34) 24 (by rfl) H 40 ie (.agg #[.int .i64 0, .int .i64 0, .int .i64 0, .int .i64 0, .int .i64 0, .int .i64 0]) 6 48 Try.underlying24 hie hez0 hez1 hez2 (by rfl) (by decide) A1 j c1 (passCells (ps.take j)) (by rfl) _ (O1) _ _ (some ⟨wx.heap.size, 0, none⟩) 1 1 [.int .i64 q.ln, .int .i64 q.bg, .int .i64 q.en, .int .i64 q.pg, .int .i64 q.bd, .int .i64 q.cs] (by rfl) (rd_keptP ((rd_newP _ q).below (below_alloc1 _ _) (by simp <;> omega)) (k1 _ (by simp <;> omega) (by simp <;> omega))) (one_six q) (by omega) (by decide) (by first | assumption | exact (by assumption : Below _ _ _).size | (simp; omega) | omega) ?_; intro A2 c2 v2 O2 b2 s2 k2; have L2 : Below H wx v2 := b2 wx (by first | assumption | exact And.right (by assumption)); have L2s : H ≤ v2.heap.size := Nat.le_trans hHs L2.size) | (refine step_cat _ (by rfl) (.tmp 32) (.tmp 34) 24 (by rfl) H 40 ie (.agg #[.int .i64 0, .int .i64 0, .int .i64 0, .int .i64 0, .int .i64 0, .int .i64 0]) 6 48 Try.underlying24 hie hez0 hez1 hez2 (by rfl) (by decide) A1 j c1 (passCells (ps.take j)) (by rfl) _ (O1) _ _ (some ⟨wx.heap.size + 1, 0, none⟩) 1 1 [.int .i64 q.ln, .int .i64 q.bg, .int .i64 q.en, .int .i64 q.pg, .int .i64 q.bd, .int .i64 q.cs] (by rfl) (rd_keptP (rd_newPg _ q (wx.heap.size + 1) (by simp)) (k1 _ (by simp <;> omega) (by simp <;> omega))) (one_six q) (by omega) (by decide) (by first | assumption | exact (by assumption : Below _ _ _).size | (simp; omega) | omega) ?_; intro A2 c2 v2 O2 b2 s2 k2; have L2 : Below H wx v2 := b2 wx (by first | assumption | exact And.right (by assumption)); have L2s : H ≤ v2.heap.size := Nat.le_trans hHs L2.size) | (refine step_cat _ (by rfl) (.tmp 35) (.tmp 38) 24 (by rfl) H 40 ie (.agg #[.int .i64 0, .int .i64 0, .int .i64 0, .int .i64 0, .int .i64 0, .int .i64 0]) 6 48 Try.underlying24 hie hez0 hez1 hez2 (by rfl) (by decide) A2 (j + 1) c2 _ (by rfl) _ O2 lo hi (some ⟨g, 0, none⟩) (ps.length - j) 0 (passCells (ps.drop j)) (by rfl) (rdP_tail0 rfl (by omega)) (one_passes _) (by omega) (by decide) (by first | assumption | exact (by assumption : Below _ _ _).size | (simp; omega) | omega) ?_; intro A3 c3 v3 O3 b3 s3 k3; have L3 : Below H wx v3 := b3 wx (by first | assumption | exact And.right (by assumption)))))
          all_goals
            obtain ⟨qs, hqs⟩ : ∃ qs, qs = putP ps j q := ⟨_, rfl⟩
            have hql : j + 1 + (ps.length - j) = qs.length := by rw [hqs, putP_length ps (by omega)]; omega
            have hqc : (passCells (ps.take j) ++ [.int .i64 q.ln, .int .i64 q.bg, .int .i64 q.en, .int .i64 q.pg, .int .i64 q.bd, .int .i64 q.cs]) ++ passCells (ps.drop j) = passCells qs := by rw [hqs]; exact (putP_cells ps j q).symm
            rw [hqc] at O3
            rw [hql] at O3 ⊢
            have HV := Lib.hid (show vPutPass ps q = if isPL qs = true then (qs, true) else ([], false) from by rw [hqs]; exact HVJ.out)
            have HL := Lib.hid (show qs.length ≤ 2000000 from by omega)
            clear hqs hql hqc O1 O2 b1 b2 b3 k1 k2 k3 s1 s2 s3 L1 L2
            rcases hgd : isPL qs with _ | _
            · have HE := Lib.hid (HV.out.trans (if_neg (by simp [hgd])))
              have HG := Lib.hid hgd
              clear hgd
              go_wp2_with fail
              refine (l11Good_any O3.rd (by have := HL.out; omega) (Nat.le_refl _)).mono ?_
              rintro e w4 ⟨rfl, B4⟩
              rw [HG.out]
              have hb4 := (HX.out.1.trans (L3.mono hwH)).trans (B4.mono (by have := L3.size; have := HX.out.1.size; omega))
              go_wp2_with fail
              go_ret2
              rw [HE.out]
              exact retPB_empty _ _ _ hb4
            · have HE := Lib.hid (HV.out.trans (if_pos hgd))
              have HG := Lib.hid hgd
              clear hgd
              go_wp2_with fail
              refine (l11Good_any O3.rd (by have := HL.out; omega) (Nat.le_refl _)).mono ?_
              rintro e w4 ⟨rfl, B4⟩
              rw [HG.out]
              have hb4 := (HX.out.1.trans (L3.mono hwH)).trans (B4.mono (by have := L3.size; have := HX.out.1.size; omega))
              go_wp2_with fail
              go_ret2
              rw [HE.out]
              exact ⟨A3, c3, rfl, (O3.below B4 (Nat.le_refl _)).more hwH B4.size, hb4⟩
        · obtain ⟨H, hH⟩ : ∃ H, H = wx.heap.size := ⟨_, rfl⟩
          have hHs : H ≤ wx.heap.size := by omega
          have hgH : gb < H := by have := HX.out.2.1; omega
          have hwH : w.heap.size ≤ H := by have := HX.out.1.size; omega
          have HC : ∀ W, Below H wx W → (W.cell? ⟨gb, 0, none⟩ = some (.int .i64 q.ln) ∧ W.cell? ⟨gb, 1, none⟩ = some (.int .i64 q.bg) ∧ W.cell? ⟨gb, 2, none⟩ = some (.int .i64 q.en) ∧ W.cell? ⟨gb, 3, none⟩ = some (.int .i64 q.pg) ∧ W.cell? ⟨gb, 4, none⟩ = some (.int .i64 q.bd) ∧ W.cell? ⟨gb, 5, none⟩ = some (.int .i64 q.cs)) := fun W hW => HX.out.2.2.1.below hW hgH
          have RD : ∀ W, Below H wx W → Rd W lo hi 6 (some ⟨g, 0, none⟩) ps.length (passCells ps) := fun W hW => HX.out.2.2.2.below hW (by omega)
          have RT : ∀ W, Below H wx W → Rd W lo hi 6 (some ⟨g, 0, none⟩) j (passCells (ps.take j)) := fun W hW => rdP_take (RD W hW) rfl hj
          clear hH
          go_region_held3 (fun w' => (w'.cell? ⟨gb, 0, none⟩ = some (.int .i64 q.ln) ∧ w'.cell? ⟨gb, 1, none⟩ = some (.int .i64 q.bg) ∧ w'.cell? ⟨gb, 2, none⟩ = some (.int .i64 q.en) ∧ w'.cell? ⟨gb, 3, none⟩ = some (.int .i64 q.pg) ∧ w'.cell? ⟨gb, 4, none⟩ = some (.int .i64 q.bd) ∧ w'.cell? ⟨gb, 5, none⟩ = some (.int .i64 q.cs)) ∧ Below H wx w')
            ((first | exact ⟨HC _ (Below.refl _ _).drew, (Below.refl _ _).drew⟩ | exact ⟨HC _ L3, L3⟩ | exact ⟨HC _ L2, L2⟩ | exact ⟨HC _ L1, L1⟩ | exact ⟨HC _ (L1.alloc L1s _), L1.alloc L1s _⟩ | exact ⟨HC _ (((Below.refl _ _).drew).alloc hHs _), ((Below.refl _ _).drew).alloc hHs _⟩ | exact ⟨HC _ ((((Below.refl _ _).drew).alloc hHs _).alloc (by simp; omega) _), (((Below.refl _ _).drew).alloc hHs _).alloc (by simp; omega) _⟩))
            ((first | (refine step_cat _ (by rfl) (.tmp 28) (.tmp 31) 24 (by rfl) H 40 ie (.agg #[.int .i64 0, .int .i64 0, .int .i64 0, .int .i64 0, .int .i64 0, .int .i64 0]) 6 48 Try.underlying24 hie hez0 hez1 hez2 (by rfl) (by decide) (some ⟨wx.heap.size, 0, none⟩) 0 0 [] (by rfl) _ ((own_emptyP _).more (by first | (simp; omega) | omega) (Nat.le_refl _)) lo hi (some ⟨g, 0, none⟩) j c (passCells (ps.take j)) (by rfl) (RT _ (by first | assumption | exact And.right (by assumption))) (one_passes _) (by omega) (by decide) (by first | assumption | exact (by assumption : Below _ _ _).size | (simp; omega) | omega) ?_; intro A1 c1 v1 O1 b1 s1 k1; rw [Nat.zero_add] at O1; rw [List.nil_append] at O1; (try rw [Nat.zero_add]); have L1 : Below H wx v1 := b1 wx (by first | assumption | exact And.right (by assumption)); have L1s : H ≤ v1.heap.size := Nat.le_trans hHs L1.size) | (refine step_cat _ (by rfl) (.tmp 28) (.tmp 31) 24 (by rfl) H 40 ie (.agg #[.int .i64 0, .int .i64 0, .int .i64 0, .int .i64 0, .int .i64 0, .int .i64 0]) 6 48 Try.underlying24 hie hez0 hez1 hez2 (by rfl) (by decide) (some ⟨wx.heap.size, 0, none⟩) 0 0 [] (by rfl) _ (((own_emptyP _).below (below_alloc1 _ _) (Nat.le_refl _)).more (by first | (simp; omega) | omega) (Nat.le_refl _)) lo hi (some ⟨g, 0, none⟩) j c (passCells (ps.take j)) (by rfl) (RT _ (by first | assumption | exact And.right (by assumption))) (one_passes _) (by omega) (by decide) (by first | assumption | exact (by assumption : Below _ _ _).size | (simp; omega) | omega) ?_; intro A1 c1 v1 O1 b1 s1 k1; rw [Nat.zero_add] at O1; rw [List.nil_append] at O1; (try rw [Nat.zero_add]); have L1 : Below H wx v1 := b1 wx (by first | assumption | exact And.right (by assumption)); have L1s : H ≤ v1.heap.size := Nat.le_trans hHs L1.size) | (refine step_cat _ (by rfl) (.tmp 28) (.tmp 31) 24 (by rfl) H 40 ie (.agg #[.int .i64 0, .int .i64 0, .int .i64 0, .int .i64 0, .int .i64 0, .int .i64 0]) 6 48 Try.underlying24 hie hez0 hez1 hez2 (by rfl) (by decide) (some ⟨wx.heap.size + 1, 0, none⟩) 0 0 [] (by rfl) _ ((own_emptyPg _ (wx.heap.size + 1) (by simp)).more (by omega) (Nat.le_refl _)) lo hi (some ⟨g, 0, none⟩) j c (passCells (ps.take j)) (by rfl) (RT _ (by first | assumption | exact And.right (by assumption))) (one_passes _) (by omega) (by decide) (by first | assumption | exact (by assumption : Below _ _ _).size | (simp; omega) | omega) ?_; intro A1 c1 v1 O1 b1 s1 k1; rw [Nat.zero_add] at O1; rw [List.nil_append] at O1; (try rw [Nat.zero_add]); have L1 : Below H wx v1 := b1 wx (by first | assumption | exact And.right (by assumption)); have L1s : H ≤ v1.heap.size := Nat.le_trans hHs L1.size) | (refine step_cat _ (by rfl) (.tmp 32) (.tmp 34) 24 (by rfl) H 40 ie (.agg #[.int .i64 0, .int .i64 0, .int .i64 0, .int .i64 0, .int .i64 0, .int .i64 0]) 6 48 Try.underlying24 hie hez0 hez1 hez2 (by rfl) (by decide) A1 j c1 (passCells (ps.take j)) (by rfl) _ (O1.below (below_alloc1 _ _) (Nat.le_refl _)) _ _ (some ⟨_, 0, none⟩) 1 1 [.int .i64 q.ln, .int .i64 q.bg, .int .i64 q.en, .int .i64 q.pg, .int .i64 q.bd, .int .i64 q.cs] (by rfl) (rd_newP _ q) (one_six q) (by omega) (by decide) (by first | assumption | exact (by assumption : Below _ _ _).size | (simp; omega) | omega) ?_; intro A2 c2 v2 O2 b2 s2 k2; have L2 : Below H wx v2 := b2 wx (by first | assumption | exact And.right (by assumption)); have L2s : H ≤ v2.heap.size := Nat.le_trans hHs L2.size) | (refine step_cat _ (by rfl) (.tmp 32) (.tmp 34) 24 (by rfl) H 40 ie (.agg #[.int .i64 0, .int .i64 0, .int .i64 0, .int .i64 0, .int .i64 0, .int .i64 0]) 6 48 Try.underlying24 hie hez0 hez1 hez2 (by rfl) (by decide) A1 j c1 (passCells (ps.take j)) (by rfl) _ (O1) _ _ (some ⟨wx.heap.size, 0, none⟩) 1 1 [.int .i64 q.ln, .int .i64 q.bg, .int .i64 q.en, .int .i64 q.pg, .int .i64 q.bd, .int .i64 q.cs] (by rfl) (rd_keptP ((rd_newP _ q).below (below_alloc1 _ _) (by simp <;> omega)) (k1 _ (by simp <;> omega) (by simp <;> omega))) (one_six q) (by omega) (by decide) (by first | assumption | exact (by assumption : Below _ _ _).size | (simp; omega) | omega) ?_; intro A2 c2 v2 O2 b2 s2 k2; have L2 : Below H wx v2 := b2 wx (by first | assumption | exact And.right (by assumption)); have L2s : H ≤ v2.heap.size := Nat.le_trans hHs L2.size) | (refine step_cat _ (by rfl) (.tmp 32) (.tmp 34) 24 (by rfl) H 40 ie (.agg #[.int .i64 0, .int .i64 0, .int .i64 0, .int .i64 0, .int .i64 0, .int .i64 0]) 6 48 Try.underlying24 hie hez0 hez1 hez2 (by rfl) (by decide) A1 j c1 (passCells (ps.take j)) (by rfl) _ (O1) _ _ (some ⟨wx.heap.size + 1, 0, none⟩) 1 1 [.int .i64 q.ln, .int .i64 q.bg, .int .i64 q.en, .int .i64 q.pg, .int .i64 q.bd, .int .i64 q.cs] (by rfl) (rd_keptP (rd_newPg _ q (wx.heap.size + 1) (by simp)) (k1 _ (by simp <;> omega) (by simp <;> omega))) (one_six q) (by omega) (by decide) (by first | assumption | exact (by assumption : Below _ _ _).size | (simp; omega) | omega) ?_; intro A2 c2 v2 O2 b2 s2 k2; have L2 : Below H wx v2 := b2 wx (by first | assumption | exact And.right (by assumption)); have L2s : H ≤ v2.heap.size := Nat.le_trans hHs L2.size) | (refine step_cat _ (by rfl) (.tmp 35) (.tmp 38) 24 (by rfl) H 40 ie (.agg #[.int .i64 0, .int .i64 0, .int .i64 0, .int .i64 0, .int .i64 0, .int .i64 0]) 6 48 Try.underlying24 hie hez0 hez1 hez2 (by rfl) (by decide) A2 (j + 1) c2 _ (by rfl) _ O2 lo hi (some ⟨g, j * 6, none⟩) (ps.length - j) (c - j) (passCells (ps.drop j)) (by rfl) (rdP_tail (RD _ (by first | assumption | exact And.right (by assumption))) rfl hj) (one_passes _) (by omega) (by decide) (by first | assumption | exact (by assumption : Below _ _ _).size | (simp; omega) | omega) ?_; intro A3 c3 v3 O3 b3 s3 k3; have L3 : Below H wx v3 := b3 wx (by first | assumption | exact And.right (by assumption)))))
          all_goals
            obtain ⟨qs, hqs⟩ : ∃ qs, qs = putP ps j q := ⟨_, rfl⟩
            have hql : j + 1 + (ps.length - j) = qs.length := by rw [hqs, putP_length ps (by omega)]; omega
            have hqc : (passCells (ps.take j) ++ [.int .i64 q.ln, .int .i64 q.bg, .int .i64 q.en, .int .i64 q.pg, .int .i64 q.bd, .int .i64 q.cs]) ++ passCells (ps.drop j) = passCells qs := by rw [hqs]; exact (putP_cells ps j q).symm
            rw [hqc] at O3
            rw [hql] at O3 ⊢
            have HV := Lib.hid (show vPutPass ps q = if isPL qs = true then (qs, true) else ([], false) from by rw [hqs]; exact HVJ.out)
            have HL := Lib.hid (show qs.length ≤ 2000000 from by omega)
            clear hqs hql hqc O1 O2 b1 b2 b3 k1 k2 k3 s1 s2 s3 L1 L2
            rcases hgd : isPL qs with _ | _
            · have HE := Lib.hid (HV.out.trans (if_neg (by simp [hgd])))
              have HG := Lib.hid hgd
              clear hgd
              go_wp2_with fail
              refine (l11Good_any O3.rd (by have := HL.out; omega) (Nat.le_refl _)).mono ?_
              rintro e w4 ⟨rfl, B4⟩
              rw [HG.out]
              have hb4 := (HX.out.1.trans (L3.mono hwH)).trans (B4.mono (by have := L3.size; have := HX.out.1.size; omega))
              go_wp2_with fail
              go_ret2
              rw [HE.out]
              exact retPB_empty _ _ _ hb4
            · have HE := Lib.hid (HV.out.trans (if_pos hgd))
              have HG := Lib.hid hgd
              clear hgd
              go_wp2_with fail
              refine (l11Good_any O3.rd (by have := HL.out; omega) (Nat.le_refl _)).mono ?_
              rintro e w4 ⟨rfl, B4⟩
              rw [HG.out]
              have hb4 := (HX.out.1.trans (L3.mono hwH)).trans (B4.mono (by have := L3.size; have := HX.out.1.size; omega))
              go_wp2_with fail
              go_ret2
              rw [HE.out]
              exact ⟨A3, c3, rfl, (O3.below B4 (Nat.le_refl _)).more hwH B4.size, hb4⟩

end Go.Proofs.Ytaehfcdcdjlanaa
