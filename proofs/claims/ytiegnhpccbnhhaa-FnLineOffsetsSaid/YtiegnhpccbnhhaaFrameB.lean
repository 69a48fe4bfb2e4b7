/-
  This file proves what the frames of the great laws share: a slice of bytes that came in as an argument reads as a list of bytes.
  Conditions: that the argument can be read as data.
-/
import Derived.Test.YtiegnhpccbnhhaaFrame
import Derived.Test.YtiegnhpccbnhhaaDraw
namespace Go.Proofs.Ytiegnhpccbnhhaa
open Go.ChangeShapes Go.WideShapes Go.ChangeAt Go.RowKit
set_option linter.unusedVariables false
set_option linter.unusedSimpArgs false

theorem rows_u8 {H : Type} {enc : TypeId × Value → H} {W : World} {spare : Nat → Bool} {held : Bool} {base : Nat} {a : Option Addr} {len cap : Nat} {d : DataW H} {p : List MemPlace}
    (h : DataW.Trod enc Try.prog W base spare held 47 (.slice a len cap) d p) :
    ∃ xs : List Int, len = xs.length ∧ Rd W 0 W.heap.size 1 a xs.length (bytesV xs) ∧ ∀ n ∈ xs, (Lit.int .u8 n).wf = true := by
  obtain ⟨fuel, hf⟩ := h
  rcases open_ints Try.underlying47 Try.underlying5 (by kernel_rfl) hf with ⟨hcs, _⟩ | ⟨x, l, c, zs, hcs, _, hl, hm, hz, _, hcell, hwz⟩
  · simp [Value.cells] at hcs
    obtain ⟨rfl, rfl, rfl⟩ := hcs
    exact ⟨[], rfl, Rd.nil_, fun n hn => by cases hn⟩
  · simp [Value.cells] at hcs
    obtain ⟨rfl, rfl, rfl⟩ := hcs
    have hle : len ≤ zs.length := by rw [hz]; split <;> omega
    have hlen : (zs.take len).length = len := by simp; omega
    refine ⟨zs.take len, hlen.symm, ?_, fun n hn => hwz n (List.mem_of_mem_take hn)⟩
    have := rd_of_cells hle hcell
    rw [hlen]
    exact this

end Go.Proofs.Ytiegnhpccbnhhaa
