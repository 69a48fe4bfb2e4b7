/-
  This file proves contracts of NotTolerated, of the program and of the reference.
  Conditions: each contract's own hypotheses (that a slice reads as a list of crossings, that it is not too long).
-/
import Derived.Test.YtiegnhpccbnhhaaCrossC
namespace Go.Proofs.Ytiegnhpccbnhhaa
open Go.RowKit
set_option linter.unusedSimpArgs false
set_option linter.unusedVariables false

theorem l10Diff_any (p : GCrossing) (w : World) (hp : isCx p = true) : Calls Try.prog 61 #[.agg #[.int .i64 p.ln, .int .i64 p.cr, .int .i64 p.mn, .int .i64 p.ck]] w fun e w' => e = .returned (.int .i64 (p.ck - p.mn)) ∧ Below w.heap.size w w' := by
  have hb := isCx_bound hp
  have q1 : IntKind.i64.wrap (p.ck - p.mn) = p.ck - p.mn := wr64 (by omega) (by omega)
  go_enter Try.func61, Try.ntmps61
  go_wp2_with fail
  go_returns
  exact ⟨rfl, by go_grown⟩

def over (p : GCrossing) (pc : Int) : Int := 100 * absI (p.ck - p.mn) - pc * mostI 0 p.mn
theorem over_tol (p : GCrossing) (fx pc : Int) : tol fx pc p = !decide (100 * fx < over p pc) := by
  unfold tol over
  have : mostI 0 p.mn = max p.mn 0 := by rw [mostI_eq]; omega
  rw [this, Bool.eq_iff_iff]
  simp
  omega
set_option maxHeartbeats 2000000 in
theorem l10Over_any (p : GCrossing) (pc : Int) (w : World) (hp : isCx p = true) (h2 : 0 ≤ pc ∧ pc ≤ 100) :
    Calls Try.prog 54 #[.agg #[.int .i64 p.ln, .int .i64 p.cr, .int .i64 p.mn, .int .i64 p.ck], .int .i64 pc] w fun e w' => e = .returned (.int .i64 (over p pc)) ∧ Below w.heap.size w w' := by
  have hb := isCx_bound hp
  have HP := Lib.hid hp
  have ha := absI_nonneg (p.ck - p.mn)
  have ha' := absI_le (n := p.ck - p.mn) (b := 21000) (by omega) (by omega)
  have hm : mostI 0 p.mn = max 0 p.mn := mostI_eq _ _
  have m1 : 0 ≤ pc * mostI 0 p.mn := Int.mul_nonneg h2.1 (by omega)
  have m2 : pc * mostI 0 p.mn ≤ 100 * 20000 := Int.mul_le_mul h2.2 (by omega) (by omega) (by omega)
  have HE := Lib.hid (show over p pc = 100 * absI (p.ck - p.mn) - pc * mostI 0 p.mn from rfl)
  have q2 : IntKind.i64.wrap (100 * absI (p.ck - p.mn)) = 100 * absI (p.ck - p.mn) := wr64 (by omega) (by omega)
  have q4 : IntKind.i64.wrap (pc * mostI 0 p.mn) = pc * mostI 0 p.mn := wr64 (by omega) (by omega)
  have q5 : IntKind.i64.wrap (100 * absI (p.ck - p.mn) - pc * mostI 0 p.mn) = 100 * absI (p.ck - p.mn) - pc * mostI 0 p.mn := wr64 (by omega) (by omega)
  have hbx := below_alloc1 w (.cells #[.int .i64 p.ln, .int .i64 p.cr, .int .i64 p.mn, .int .i64 p.ck] 59)
  have D := Crossing_cells p w 59
  clear hm
  go_enter Try.func54, Try.ntmps54
  go_wp2_with fail
  generalize w.alloc (.cells #[.int .i64 p.ln, .int .i64 p.cr, .int .i64 p.mn, .int .i64 p.ck] 59) = wx at D hbx ⊢
  obtain ⟨d0, d1, d2, d3⟩ := D
  obtain ⟨N, hNN⟩ : ∃ N, N = wx.heap.size := ⟨_, rfl⟩
  have hN : N ≤ wx.heap.size := by omega
  have hw0 : w.heap.size < N := by rw [hNN]; exact World.block_lt_of_cell? wx _ d0
  have D0 : ∀ s : Bw N wx, s.v.cell? ⟨w.heap.size, 0, none⟩ = some (.int .i64 p.ln) := fun s => s.cell hw0 d0
  have D1 : ∀ s : Bw N wx, s.v.cell? ⟨w.heap.size, 1, none⟩ = some (.int .i64 p.cr) := fun s => s.cell hw0 d1
  have D2 : ∀ s : Bw N wx, s.v.cell? ⟨w.heap.size, 2, none⟩ = some (.int .i64 p.mn) := fun s => s.cell hw0 d2
  have D3 : ∀ s : Bw N wx, s.v.cell? ⟨w.heap.size, 3, none⟩ = some (.int .i64 p.ck) := fun s => s.cell hw0 d3
  clear d0 d1 d2 d3
  refine wp_region_bw (Below.refl N _) (by kernel_rfl) (by kernel_rfl) ?_
  repeat (go_big_quiet_step ((first | (go_at_call 61; exact bw_left hN (l10Diff_any _ _ HP.out)) | (go_at_call 67; exact bw_same (l10Size_any _ _ (by omega) (by omega))) | (go_at_call 53; exact bw_same (l1Most_any _ _ _)))))
  refine wpQuiet_nil ?_
  rintro _ ⟨⟨wz, hwz⟩, rfl⟩
  have hbz := hbx.trans (hwz.mono (by omega))
  go_wp2_with fail
  go_ret
  rw [HE.out]
  exact ⟨rfl, hbz⟩

end Go.Proofs.Ytiegnhpccbnhhaa
