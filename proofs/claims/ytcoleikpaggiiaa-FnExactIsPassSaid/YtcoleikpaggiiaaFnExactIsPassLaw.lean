/-
  This file proves the walk of the law 'FnExactIsPass': called with any pass it returns true, and nothing that was in memory before has turned.
  Conditions: that the argument reads as data, as the row's frame hands it over.
-/
import Derived.Test.YtcoleikpaggiiaaFramePass
namespace Go.Proofs.Ytcoleikpaggiiaa
open Go.RowKit
set_option linter.unusedSimpArgs false
set_option linter.unusedVariables false

set_option maxHeartbeats 1000000 in
theorem fnExactIsPass_walk (p : GPass) (w : World) (f : p.wf) :
    Calls Try.prog 3 #[p.val] w fun e w' => e = .returned (.bool true) ∧ Below w.heap.size w w' := by
  obtain ⟨b, hv⟩ : ∃ b, b = isPs p := ⟨_, rfl⟩
  have HV := Lib.hid hv
  clear hv f
  have BB := below_alloc1 w (.cells #[.int .i64 p.ln, .int .i64 p.bg, .int .i64 p.en, .int .i64 p.pg, .int .i64 p.bd, .int .i64 p.cs] 23)
  have hs0 : (w.alloc (.cells #[.int .i64 p.ln, .int .i64 p.bg, .int .i64 p.en, .int .i64 p.pg, .int .i64 p.bd, .int .i64 p.cs] 23)).heap.size = w.heap.size + 1 := by simp
  go_enter Try.func3, Try.ntmps3
  go_wp2_with fail
  refine (toPass_any p _).mono ?_
  rintro e w1 ⟨rfl, B1⟩
  rw [hs0] at B1
  have s1 := B1.size
  rw [hs0] at s1
  have BB1 := BB.trans (B1.mono (by omega))
  have C := pass_cells p w 23
  have k0 := (B1.cell (p := ⟨w.heap.size, 0, none⟩) (by simp)).trans C.1
  have k1 := (B1.cell (p := ⟨w.heap.size, 1, none⟩) (by simp)).trans C.2.1
  have k2 := (B1.cell (p := ⟨w.heap.size, 2, none⟩) (by simp)).trans C.2.2.1
  have k3 := (B1.cell (p := ⟨w.heap.size, 3, none⟩) (by simp)).trans C.2.2.2.1
  have k4 := (B1.cell (p := ⟨w.heap.size, 4, none⟩) (by simp)).trans C.2.2.2.2.1
  have k5 := (B1.cell (p := ⟨w.heap.size, 5, none⟩) (by simp)).trans C.2.2.2.2.2
  clear B1 hs0 C BB
  go_wp2_with fail
  refine (sIsPass p _).mono ?_
  rintro e w2 h
  rw [← HV.out] at h
  obtain ⟨rfl, B2⟩ := h
  have s2 := B2.size
  have BB2 := BB1.trans (B2.mono (by omega))
  replace k0 := (B2.cell (p := ⟨w.heap.size, 0, none⟩) (show w.heap.size < w1.heap.size by omega)).trans k0
  replace k1 := (B2.cell (p := ⟨w.heap.size, 1, none⟩) (show w.heap.size < w1.heap.size by omega)).trans k1
  replace k2 := (B2.cell (p := ⟨w.heap.size, 2, none⟩) (show w.heap.size < w1.heap.size by omega)).trans k2
  replace k3 := (B2.cell (p := ⟨w.heap.size, 3, none⟩) (show w.heap.size < w1.heap.size by omega)).trans k3
  replace k4 := (B2.cell (p := ⟨w.heap.size, 4, none⟩) (show w.heap.size < w1.heap.size by omega)).trans k4
  replace k5 := (B2.cell (p := ⟨w.heap.size, 5, none⟩) (show w.heap.size < w1.heap.size by omega)).trans k5
  clear B2 BB1
  go_wp2_with fail
  refine (toPass_any p _).mono ?_
  rintro e w3 ⟨rfl, B3⟩
  have s3 := B3.size
  have BB3 := BB2.trans (B3.mono (by omega))
  clear B3 BB2 k0 k1 k2 k3 k4 k5
  go_wp2_with fail
  refine (isPass_any p _).mono ?_
  rintro e w4 h
  rw [← HV.out] at h
  obtain ⟨rfl, B4⟩ := h
  have BB4 := BB3.trans (B4.mono (by omega))
  clear B4 BB3
  go_wp2_with fail
  go_ret
  exact ⟨rfl, BB4⟩

end Go.Proofs.Ytcoleikpaggiiaa
