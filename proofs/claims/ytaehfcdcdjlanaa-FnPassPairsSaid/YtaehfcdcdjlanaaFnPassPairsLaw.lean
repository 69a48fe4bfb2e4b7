/-
  This file proves the walk of the law 'FnPassPairs': called with any code it returns true, and nothing that was in memory before has turned.
  Conditions: that the code reads as data, as the row's frame hands it over.
-/
import Derived.Test.YtaehfcdcdjlanaaPassH3
import Derived.Test.YtaehfcdcdjlanaaPassH4
import Derived.Test.YtaehfcdcdjlanaaPassLaw
import Derived.Test.YtaehfcdcdjlanaaLawHelpR
import Derived.Test.YtaehfcdcdjlanaaPassN
import Derived.Test.YtaehfcdcdjlanaaPutQ
import Derived.Deep.DeepCutAuto
namespace Go.Proofs.Ytaehfcdcdjlanaa
open Go.RowKit
set_option linter.unusedSimpArgs false
set_option linter.unusedVariables false

theorem Code8.drewN {w : World} {A : Option Addr} {xs : List Int} (h : Code8 w A xs) (n : Nat) : Code8 (w.drewN n) A xs := ⟨h.rd, h.by8, h.len⟩

set_option maxHeartbeats 4000000 in
set_option maxRecDepth 100000 in
theorem fnPassPairs_walk (A : Option Addr) (c : Nat) (xs : List Int) (w : World) (hrd : Rd w 0 w.heap.size 1 A xs.length (bytesV xs)) (hby : ∀ n ∈ xs, (Lit.int .u8 n).wf = true) :
    Calls Try.prog 6 #[.slice A xs.length c] w fun e w' => e = .returned (.bool true) ∧ Below w.heap.size w w' := by
  by_cases hbig : 65536 < xs.length
  · go_enter Try.func6, Try.ntmps6
    go_wp2_with fail
    refine (rBig_any).mono ?_
    rintro e w' ⟨rfl, rfl⟩
    rw [decide_eq_true hbig]
    go_wp2_with fail
    go_ret
    exact ⟨rfl, Below.refl _ _⟩
  have hcode : Code8 w A xs := ⟨hrd, fun x hx => by have h := hby x hx; simp [Lit.wf, IntKind.min, IntKind.max, IntKind.signed, IntKind.bits] at h; omega, by omega⟩
  have HB := Lib.hid hbig
  clear hrd hby hbig
  have BB : Below w.heap.size w w := Below.refl _ _
  go_enter Try.func6, Try.ntmps6
  go_wp2_with fail
  refine (rBig_any).mono ?_
  rintro e w' ⟨rfl, rfl⟩
  rw [decide_eq_false HB.out]
  go_wp2_with fail
  refine (drawOppositeOn_any hcode).mono ?_
  rintro e w1 ⟨A1, c1, ps, ln, rfl, hl1, O1, B1⟩
  have s_w1 := B1.size
  replace hcode := hcode.below B1
  replace BB := BB.trans (B1.mono BB.size)
  clear B1
  obtain ⟨v_OP, h_OP⟩ : ∃ v, vOppositeOn ps ln = v := ⟨_, rfl⟩
  have HOP := Lib.hid h_OP
  obtain ⟨L, ok⟩ := v_OP
  obtain ⟨hLl, hmem⟩ := opposite_law h_OP
  have HMEM := Lib.hid hmem
  clear h_OP hmem
  go_wp2_with fail
  refine (iOppositeOn (line := ln) O1.rd (by omega) (by omega)).mono ?_
  rintro e w2 h
  rw [HOP.out] at h
  obtain ⟨A2, c2, rfl, O2, B2⟩ := h
  have s_w2 := B2.size
  replace hcode := hcode.below B2
  replace O1 := O1.below B2 (by omega)
  replace BB := BB.trans (B2.mono BB.size)
  clear B2
  go_wp2_with fail
  refine (sOppositeOn (line := ln) O1.rd (by omega) (by omega)).mono ?_
  rintro e w3 h
  rw [HOP.out] at h
  obtain ⟨A3, c3, rfl, O3, B3⟩ := h
  have s_w3 := B3.size
  replace hcode := hcode.below B3
  replace O1 := O1.below B3 (by omega)
  replace O2 := O2.below B3 (by omega)
  replace BB := BB.trans (B3.mono BB.size)
  clear B3
  go_wp2_with fail
  refine (rTable_same A2 A3 c2 c3 _ _ _ _ L _ O2.rd O3.rd (by omega) (by omega) (by omega)).mono ?_
  rintro e w4 ⟨rfl, nq, hnq⟩
  have B4 := below_of_quiet (B := w3.heap.size) hnq
  clear hnq
  have s_w4 := B4.size
  replace hcode := hcode.below B4
  replace O1 := O1.below B4 (by omega)
  replace O2 := O2.below B4 (by omega)
  replace O3 := O3.below B4 (by omega)
  replace BB := BB.trans (B4.mono BB.size)
  clear B4
  clear O3
  go_wp2_with fail
  go_loopw [9] (fun i wr => ∃ k : Nat, k ≤ L.length ∧ i = .int .i64 k ∧ Code8 wr A xs ∧ Below w.heap.size w wr ∧ Own wr 40 w.heap.size w1.heap.size 6 A1 ps.length c1 (passCells ps) ∧ OwnT wr w1.heap.size w2.heap.size A2 L.length c2 L) (fun i _ => L.length - (intOf i).toNat)
  case atStart => exact ⟨0, Nat.zero_le _, rfl, hcode, BB, O1, O2⟩
  case round => as_aux_lemma =>
    clear hcode BB O1 O2 s_w1 s_w2 s_w3 s_w4 HOP
    obtain ⟨k, hk, rfl, hcode, BB, O1, O2⟩ := hrel
    by_cases hlt : k < L.length
    · obtain ⟨bt, ot, g, x, rfl, _, hx, hrow, hcells⟩ := O2.rd.geti hlt
      obtain ⟨j, m, p1, p2, hp1, hp2, l1, l2, rfl⟩ := HMEM.out x (List.mem_of_getElem? hx)
      obtain ⟨bg, og, eg, _, _, hgc⟩ := hcells.2 (by simp)
      injection eg with eg
      injection eg with eg1 eg2 eg3
      subst eg1
      subst eg2
      have d0 : wr.cell? ⟨g, 0, none⟩ = some (.int .i64 (j : Int)) := hgc 0 _ rfl
      have d1 : wr.cell? ⟨g, 1, none⟩ = some (.int .i64 (m : Int)) := hgc 1 _ rfl
      have hj := (List.getElem?_eq_some_iff.1 hp1).1
      have hm := (List.getElem?_eq_some_iff.1 hp2).1
      obtain ⟨b1, o1, p1', rfl, _, _, hp1', e0, _, _, _, _, _⟩ := Rd.getp O1.rd hj
      obtain ⟨b2, o2, p2', hA, _, _, hp2', f0, _, _, _, _, _⟩ := Rd.getp O1.rd hm
      injection hA with hA
      injection hA with hA1 hA2 hA3
      subst hA1
      subst hA2
      obtain rfl : p1 = p1' := by rw [hp1] at hp1'; injection hp1'
      obtain rfl : p2 = p2' := by rw [hp2] at hp2'; injection hp2'
      rw [l1] at e0
      rw [l2] at f0
      have q1 : (k : Int) < (L.length : Int) := by omega
      have q2 : (j : Int) < (ps.length : Int) := by omega
      have q3 : (m : Int) < (ps.length : Int) := by omega
      clear hx hp1 hp2 hp1' hp2' hgc hcells l1 l2 eg3 hA3
      go_wp2_with fail
      go_roundw
      case rel => exact ⟨k + 1, by omega, by go_num, hcode, BB, O1, O2⟩
      case measure => simp [intOf]; omega
    clear O1 O2 HMEM
    obtain ⟨y0, rfl⟩ : ∃ wz : World, wz = wr := ⟨_, rfl⟩
    go_wp2_with fail
    refine (drawLongestBreak_any hcode).mono ?_
    rintro e y1 ⟨A4, c4, ls, rfl, hll, O4, B5⟩
    have s_y1 := B5.size
    replace hcode := hcode.below B5
    replace BB := BB.trans (B5.mono BB.size)
    clear B5
    obtain ⟨v3, h3⟩ : ∃ v, vLongestBreak ls = v := ⟨_, rfl⟩
    have HLB := Lib.hid h3
    obtain ⟨a, b, fine⟩ := v3
    have HBRK := Lib.hid (fun (h : fine = true) => break_law (by rw [h3, h]))
    clear h3
    go_wp2_with fail
    refine (iLongestBreak O4.rd (by omega) (by omega)).mono ?_
    rintro e y2 h
    rw [HLB.out] at h
    obtain ⟨rfl, B6⟩ := h
    have s_y2 := B6.size
    replace hcode := hcode.below B6
    replace O4 := O4.below B6 (by omega)
    replace BB := BB.trans (B6.mono BB.size)
    clear B6
    go_wp2_with fail
    refine (sLongestBreak O4.rd (by omega) (by omega)).mono ?_
    rintro e y3 h
    rw [HLB.out] at h
    obtain ⟨rfl, B7⟩ := h
    have s_y3 := B7.size
    replace hcode := hcode.below B7
    replace O4 := O4.below B7 (by omega)
    replace BB := BB.trans (B7.mono BB.size)
    clear B7
    go_wp2_with fail
    go_loopw [17] (fun i wr => ∃ k : Nat, 1 ≤ k ∧ k ≤ max ls.length 1 ∧ i = .int .i64 k ∧ Code8 wr A xs ∧ Below w.heap.size w wr ∧ Own wr 40 y0.heap.size y1.heap.size 6 A4 ls.length c4 (passCells ls)) (fun i _ => ls.length - (intOf i).toNat)
    case atStart => exact ⟨1, Nat.le_refl _, by omega, rfl, hcode, BB, O4⟩
    case round => as_aux_lemma =>
      clear hcode BB O4 s_y1 s_y2 s_y3 HLB
      obtain ⟨k, hk1, hk, rfl, hcode, BB, O4⟩ := hrel
      obtain ⟨tb, htb⟩ : ∃ tb : Bool, tb = (decide (k < ls.length) && fine) := ⟨_, rfl⟩
      have HTB := Lib.hid htb
      clear htb
      go_upto_region 19 with fail
      go_cut [129] (fun s wx => s = .bool tb ∧ wx = wr)
      case first => as_aux_lemma =>
        by_cases hlt : k < ls.length
        · have q1 : (k : Int) < (ls.length : Int) := by omega
          have HT := Lib.hid (show tb = fine from by rw [HTB.out, decide_eq_true hlt]; rfl)
          go_wp2_with fail
          go_meet
          exact ⟨by rw [HT.out], rfl⟩
        · have q1 : ¬ (k : Int) < (ls.length : Int) := by omega
          have HT := Lib.hid (show tb = false from by rw [HTB.out, decide_eq_false hlt]; rfl)
          go_wp2_with fail
          go_meet
          exact ⟨by rw [HT.out], rfl⟩
      case rest => as_aux_lemma =>
        obtain ⟨rfl, rfl⟩ := hcut
        obtain ⟨x0, rfl⟩ : ∃ wz : World, wz = wc := ⟨_, rfl⟩
        rcases htb : tb with _ | _
        rotate_left
        · have h12 : k < ls.length ∧ fine = true := by have := HTB.out; rw [htb] at this; simpa using this.symm
          obtain ⟨hlt, hfi⟩ := h12
          obtain ⟨ha, hb, hok, hbest⟩ := HBRK.out hfi
          obtain ⟨j, rfl⟩ : ∃ j, k = j + 1 := ⟨k - 1, by omega⟩
          obtain ⟨b1, o1, p, rfl, _, _, hp, d0, d1, d2, d3, d4, d5⟩ := Rd.getp O4.rd hlt
          obtain ⟨b2, o2, p', hA, _, _, hp', e0, e1, e2, e3, e4, e5⟩ := Rd.getp O4.rd (show j < ls.length by omega)
          injection hA with hA
          injection hA with hA1 hA2 hA3
          subst hA1
          subst hA2
          have hb1 := isPs_bound (hok _ _ hp)
          have hb2 := isPs_bound (hok _ _ hp')
          have hno := hbest j p p' hp hp'
          have q3 : (((j + 1 : Nat) : Int)) < (ls.length : Int) := by omega
          have q4 : ((j + 1 : Nat) : Int) - 1 = (j : Int) := by omega
          have q5 : (j : Int) < (ls.length : Int) := by omega
          have q6 : IntKind.i64.wrap (((j + 1 : Nat) : Int) - 1) = (j : Int) := by rw [q4]; exact wr64 (by omega) (by omega)
          have q7 : IntKind.i64.wrap (p.bg - p'.en) = p.bg - p'.en := wr64 (by omega) (by omega)
          have q8 : IntKind.i64.wrap (b - a) = b - a := wr64 (by omega) (by omega)
          have q9 : decide (b - a < p.bg - p'.en) = false := decide_eq_false (by omega)
          clear hp hp' hok hbest hA3 HTB HBRK htb
          go_wp2_with fail
          go_quiet (fail)
          go_wp2_with fail
          go_roundw
          case rel => exact ⟨j + 1 + 1, by omega, by omega, by go_num, hcode.drewN _, below_drewN BB _, O4.drewN _⟩
          case measure => simp [intOf]; omega
        clear HTB HBRK O4 htb
        go_wp2_with fail
        refine (drawPutPass_any hcode).mono ?_
        rintro e x1 ⟨A5, c5, us, pq, rfl, hul, O5, B8⟩
        have s_x1 := B8.size
        replace hcode := hcode.below B8
        replace BB := BB.trans (B8.mono BB.size)
        clear B8
        have D := Holds6.new x1 pq
        have Bx := below_alloc1 x1 (.cells #[.int .i64 pq.ln, .int .i64 pq.bg, .int .i64 pq.en, .int .i64 pq.pg, .int .i64 pq.bd, .int .i64 pq.cs] 40)
        have hgl : x1.heap.size < (x1.alloc (.cells #[.int .i64 pq.ln, .int .i64 pq.bg, .int .i64 pq.en, .int .i64 pq.pg, .int .i64 pq.bd, .int .i64 pq.cs] 40)).heap.size := by simp
        obtain ⟨gb, hgb⟩ : ∃ gb, gb = x1.heap.size := ⟨_, rfl⟩
        obtain ⟨v5, h5⟩ : ∃ v, vPutPass us pq = v := ⟨_, rfl⟩
        have hmol := vPutPass_len0 us pq
        rw [h5] at hmol
        have HPP := Lib.hid h5
        obtain ⟨mo, told⟩ := v5
        have HPL := Lib.hid (fun (h : told = true) => put_law (by rw [h5, h]))
        simp only at hmol
        clear h5
        have HGB := Lib.hid hgb
        clear hgb
        obtain ⟨d0, d1, d2, d3, d4, d5⟩ := D
        go_wp2_with fail
        have D : Holds6 (x1.alloc (.cells #[.int .i64 pq.ln, .int .i64 pq.bg, .int .i64 pq.en, .int .i64 pq.pg, .int .i64 pq.bd, .int .i64 pq.cs] 40)) x1.heap.size pq := ⟨d0, d1, d2, d3, d4, d5⟩
        clear d0 d1 d2 d3 d4 d5
        generalize hx2 : x1.alloc (.cells #[.int .i64 pq.ln, .int .i64 pq.bg, .int .i64 pq.en, .int .i64 pq.pg, .int .i64 pq.bd, .int .i64 pq.cs] 40) = x2 at D Bx hgl ⊢
        clear hx2
        have s_x2 := Bx.size
        replace hcode := hcode.below Bx
        replace O5 := O5.below Bx (by omega)
        replace BB := BB.trans (Bx.mono BB.size)
        clear Bx
        rw [← HGB.out] at D hgl ⊢
        clear HGB
        refine (iPutPass (q := pq) O5 (by omega) (by omega)).mono ?_
        rintro e x3 h
        rw [HPP.out] at h
        obtain ⟨A6, c6, rfl, O6, B3⟩ := h
        replace D := D.below B3 hgl
        have s_x3 := B3.size
        replace hcode := hcode.below B3
        replace O5 := O5.below B3 (by omega)
        replace BB := BB.trans (B3.mono BB.size)
        clear B3
        obtain ⟨d0, d1, d2, d3, d4, d5⟩ := D
        go_wp2_with fail
        refine (sPutPass (q := pq) O5 (by omega) (by omega)).mono ?_
        rintro e x4 h
        rw [HPP.out] at h
        obtain ⟨A7, c7, rfl, O7, B4⟩ := h
        have D := (show Holds6 x3 gb pq from ⟨d0, d1, d2, d3, d4, d5⟩).below B4 (by omega)
        clear d0 d1 d2 d3 d4 d5
        have s_x4 := B4.size
        replace hcode := hcode.below B4
        replace O5 := O5.below B4 (by omega)
        replace O6 := O6.below B4 (by omega)
        replace BB := BB.trans (B4.mono BB.size)
        clear B4
        go_wp2_with fail
        refine (rPasses_same O6.rd O7.rd (by omega)).mono ?_
        rintro e x5 ⟨rfl, nq, hnq⟩
        have B9 := below_of_quiet (B := x4.heap.size) hnq
        clear hnq
        have s_x5 := B9.size
        replace hcode := hcode.below B9
        replace O5 := O5.below B9 (by omega)
        replace O6 := O6.below B9 (by omega)
        replace O7 := O7.below B9 (by omega)
        replace D := D.below B9 (by omega)
        replace BB := BB.trans (B9.mono BB.size)
        clear B9
        clear O7
        go_upto_if 174 with fail
        go_cut [] (fun wx => Code8 wx A xs ∧ Below w.heap.size w wx)
        case first => as_aux_lemma =>
          rcases told with _ | _
          · go_wp2_with fail
            go_meet
            exact ⟨hcode, BB⟩
          obtain ⟨X, Y, hX, hY, hXb, hYb, hdif, his⟩ := HPL.out rfl
          have hqb := isPs_bound his
          have HX := Lib.hid hX
          have HY := Lib.hid hY
          have HIS := Lib.hid his
          clear hX hY his HPL HPP
          obtain ⟨d0, d1, d2, d3, d4, d5⟩ := D
          go_wp2_with fail
          refine (iMinutesOn (line := pq.ln) O5.rd (by omega) (by omega)).mono ?_
          rintro e x6 h
          rw [HX.out] at h
          obtain ⟨rfl, B6⟩ := h
          have D := (show Holds6 x5 gb pq from ⟨d0, d1, d2, d3, d4, d5⟩).below B6 (by omega)
          have s_x6 := B6.size
          replace hcode := hcode.below B6
          replace O6 := O6.below B6 (by omega)
          replace BB := BB.trans (B6.mono BB.size)
          clear B6 O5 d0 d1 d2 d3 d4 d5
          obtain ⟨d0, d1, d2, d3, d4, d5⟩ := D
          go_wp2_with fail
          refine (iMinutesOn (line := pq.ln) O6.rd (by omega) (by omega)).mono ?_
          rintro e x7 h
          rw [HY.out] at h
          obtain ⟨rfl, B7⟩ := h
          have D := (show Holds6 x6 gb pq from ⟨d0, d1, d2, d3, d4, d5⟩).below B7 (by omega)
          have s_x7 := B7.size
          replace hcode := hcode.below B7
          replace BB := BB.trans (B7.mono BB.size)
          clear B7 O6 d0 d1 d2 d3 d4 d5
          obtain ⟨d0, d1, d2, d3, d4, d5⟩ := D
          have q1 : IntKind.i64.wrap (Y - X) = pq.en - pq.bg := by rw [hdif]; exact wr64 (by omega) (by omega)
          have q2 : IntKind.i64.wrap (pq.en - pq.bg) = pq.en - pq.bg := wr64 (by omega) (by omega)
          clear hdif HX HY
          go_wp2_with fail
          refine (isPass_any pq _).mono ?_
          rintro e x8 h
          rw [HIS.out] at h
          obtain ⟨rfl, B8⟩ := h
          replace hcode := hcode.below B8
          replace BB := BB.trans (B8.mono BB.size)
          clear B8
          go_wp2_with fail
          go_meet
          exact ⟨hcode, BB⟩
        case rest => as_aux_lemma =>
          clear hcode BB O5 O6 D HPP HPL hgl s_x1 s_x2 s_x3 s_x4 s_x5
          obtain ⟨hcode, BB⟩ := hcut
          obtain ⟨z0, rfl⟩ : ∃ wz : World, wz = wc := ⟨_, rfl⟩
          go_wp2_with fail
          refine (drawGoodShare_any hcode).mono ?_
          rintro e z1 ⟨A9, c9, vs, lw, rfl, hvl, O9, B10⟩
          have s_z1 := B10.size
          replace hcode := hcode.below B10
          replace BB := BB.trans (B10.mono BB.size)
          clear B10
          obtain ⟨v4, h4⟩ : ∃ v, vGoodShare vs lw = v := ⟨_, rfl⟩
          have HMN := Lib.hid h4
          obtain ⟨num, den, known⟩ := v4
          clear h4
          go_wp2_with fail
          refine (iGoodShare (line := lw) O9.rd (by omega) (by omega)).mono ?_
          rintro e z2 h
          rw [HMN.out] at h
          obtain ⟨rfl, B11⟩ := h
          have s_z2 := B11.size
          replace hcode := hcode.below B11
          replace O9 := O9.below B11 (by omega)
          replace BB := BB.trans (B11.mono BB.size)
          clear B11
          go_wp2_with fail
          refine (sGoodShare (line := lw) O9.rd (by omega) (by omega)).mono ?_
          rintro e z3 h
          rw [HMN.out] at h
          obtain ⟨rfl, B12⟩ := h
          have s_z3 := B12.size
          replace hcode := hcode.below B12
          replace O9 := O9.below B12 (by omega)
          replace BB := BB.trans (B12.mono BB.size)
          clear B12
          rcases known with _ | _
          · go_wp2_with fail
            go_ret
            exact ⟨rfl, BB⟩
          · go_wp2_with fail
            go_ret
            exact ⟨rfl, BB⟩

end Go.Proofs.Ytaehfcdcdjlanaa
