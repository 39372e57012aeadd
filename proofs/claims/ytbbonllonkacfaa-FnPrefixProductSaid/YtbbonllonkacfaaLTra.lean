/-
  Small facts for the laws of the transform.
-/
import Derived.Test.YtbbonllonkacfaaTraD
namespace Go.Proofs.Ytbbonllonkacfaa
open Go.RowKit
set_option linter.unusedVariables false

theorem forward_ok {xs : List Int} (h : forward xs ≠ []) : ptsOk xs = true := by
  unfold forward at h
  split at h
  · assumption
  · exact absurd rfl h
theorem backward_ok {xs : List Int} (h : backward xs ≠ []) : ptsOk xs = true := by
  unfold backward at h
  split at h
  · assumption
  · exact absurd rfl h
theorem forward_len (xs : List Int) : (forward xs).length ≤ 16 := by unfold forward; split <;> simp [dft]
theorem backward_len (xs : List Int) : (backward xs).length ≤ 16 := by unfold backward; split <;> simp [dft]
theorem ne_nil {V W : List Int} {n : Nat} (hV : V = W) (hl : V.length = n) (hn : 0 < n) : W ≠ [] := by
  rintro rfl
  subst hV
  simp at hl
  omega
end Go.Proofs.Ytbbonllonkacfaa
