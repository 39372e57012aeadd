/-
  CutLink's result is small.
-/
import Derived.Test.YtglpcphkdgmdeaaTabIM
import Derived.Test.YtglpcphkdgmdeaaRouCut
namespace Go.Proofs.Ytglpcphkdgmdeaa
open Go.RowKit
set_option linter.unusedVariables false

theorem cutL_rows (rows : List (List Int)) (fr to : Int) : (cutL rows fr to).length ≤ 10 ∧ ∀ r ∈ cutL rows fr to, r.length ≤ 10 := by
  by_cases h : CostsOk rows ∧ StOk rows.length fr ∧ StOk rows.length to
  · rw [cutL_yes h]
    obtain ⟨hc, ⟨f0, f1⟩, _⟩ := h
    refine ⟨by rw [List.length_set]; exact hc.1, fun r hr => ?_⟩
    have hrow : ∀ q ∈ rows, q.length ≤ 10 := fun q hq => by
      obtain ⟨i, hi, rfl⟩ := List.getElem_of_mem hq
      have := (hc.2 i _ (List.getElem?_eq_getElem hi)).1
      have := hc.1
      omega
    rcases List.mem_or_eq_of_mem_set hr with hr | rfl
    · exact hrow r hr
    · rw [List.length_set, List.getD_eq_getElem?_getD, List.getElem?_eq_getElem (by omega)]
      exact hrow _ (List.getElem_mem _)
  · rw [cutL_no h]; simp
theorem lenRI_le (m : Nat) : ∀ rows : List (List Int), (∀ r ∈ rows, r.length ≤ m) → lenRI rows ≤ rows.length * m := by
  intro rows
  induction rows with
  | nil => intro _; simp [lenRI]
  | cons r rs ih =>
    intro h
    have h1 := h r (List.mem_cons_self ..)
    have h2 := ih (fun q hq => h q (List.mem_cons_of_mem _ hq))
    rw [lenRI, List.length_cons, Int.natCast_add, Int.add_mul]
    omega
theorem cutL_len (rows : List (List Int)) (fr to : Int) : (cutL rows fr to).length ≤ 1048576 := by have := (cutL_rows rows fr to).1; omega
theorem cutL_row (rows : List (List Int)) (fr to : Int) : ∀ r ∈ cutL rows fr to, r.length ≤ 1000000000 := fun r hr => by have := (cutL_rows rows fr to).2 r hr; omega
theorem cutL_sum (rows : List (List Int)) (fr to : Int) : lenRI (cutL rows fr to) ≤ 1048576 := by
  have h1 := (cutL_rows rows fr to).1
  have h2 := lenRI_le 10 _ (cutL_rows rows fr to).2
  omega
end Go.Proofs.Ytglpcphkdgmdeaa
