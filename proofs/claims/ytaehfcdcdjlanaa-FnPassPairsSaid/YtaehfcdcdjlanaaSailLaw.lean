/-
  This file proves plain facts on rising lists of integers, for the lines that were sailed.
  Conditions: none.
-/
import Derived.Test.YtaehfcdcdjlanaaBase
namespace Go.Proofs.Ytaehfcdcdjlanaa
open Go.RowKit
set_option linter.unusedSimpArgs false
set_option linter.unusedVariables false

/-- Two rising lists with the same members are one. -/
theorem strict_unique : ∀ (l l' : List Int), l.Pairwise (· < ·) → l'.Pairwise (· < ·) → (∀ x, x ∈ l ↔ x ∈ l') → l = l'
  | [], [], _, _, _ => rfl
  | [], b :: t', _, _, h => by have := (h b).2 (by simp); simp at this
  | a :: t, [], _, _, h => by have := (h a).1 (by simp); simp at this
  | a :: t, b :: t', h1, h2, h => by
    obtain ⟨ha, ht⟩ := List.pairwise_cons.1 h1
    obtain ⟨hb, ht'⟩ := List.pairwise_cons.1 h2
    have hab : a = b := by
      have e1 := (h a).1 (by simp)
      have e2 := (h b).2 (by simp)
      rw [List.mem_cons] at e1 e2
      rcases e1 with e1 | e1
      · exact e1
      · rcases e2 with e2 | e2
        · exact e2.symm
        · have := hb a e1; have := ha b e2; omega
    subst hab
    have := strict_unique t t' ht ht' (fun x => by
      have hx := h x
      rw [List.mem_cons, List.mem_cons] at hx
      constructor
      · intro hm
        rcases hx.1 (.inr hm) with e | e
        · have := ha x hm; omega
        · exact e
      · intro hm
        rcases hx.2 (.inr hm) with e | e
        · have := hb x hm; omega
        · exact e)
    rw [this]
/-- Equal neighbours struck. -/
def comp : List Int → List Int
  | [] => []
  | [a] => [a]
  | a :: b :: t => if a = b then comp (b :: t) else a :: comp (b :: t)
theorem mem_comp : ∀ (l : List Int) (x : Int), x ∈ comp l ↔ x ∈ l
  | [], x => by simp [comp]
  | [a], x => by simp [comp]
  | a :: b :: t, x => by
    unfold comp
    split
    · rename_i h
      subst h
      rw [mem_comp (a :: t) x]
      simp
    · rw [List.mem_cons, mem_comp (b :: t) x]
      simp
theorem comp_rising : ∀ (l : List Int), l.Pairwise (· ≤ ·) → (comp l).Pairwise (· < ·)
  | [], _ => by simp [comp]
  | [a], _ => by simp [comp]
  | a :: b :: t, h => by
    obtain ⟨ha, ht⟩ := List.pairwise_cons.1 h
    have ih := comp_rising (b :: t) ht
    unfold comp
    split
    · exact ih
    · rename_i hne
      refine List.pairwise_cons.2 ⟨fun x hx => ?_, ih⟩
      have hm := (mem_comp (b :: t) x).1 hx
      have h1 := ha b (by simp)
      rw [List.mem_cons] at hm
      rcases hm with rfl | hm
      · omega
      · have h2 := (List.pairwise_cons.1 ht).1 x hm
        omega

end Go.Proofs.Ytaehfcdcdjlanaa
