/-
  The reference's GroupSize, walked.
-/
import Derived.Test.YtgccpjhkgkhllaaDoorSloV
namespace Go.Proofs.YtgccpjhkgkhllaaDoor
open Go.RowKit
set_option linter.unusedVariables false

theorem bestX_max {rows : List (List Bool)} {n : Nat} (hc : ConfOk rows) (hl : rows.length = n) : IsMax rows (2 ^ rows.length - 1) (bestX rows n (2 ^ n)) := by
  have h10 : n ≤ 10 := by rw [← hl]; exact hc.1
  have hp : 0 < 2 ^ n := Nat.pow_pos (by omega)
  have pop10 : ∀ x, x < 2 ^ n → popN x 10 = popN x n := fun x hx => by
    have := popN_stop hx (10 - n)
    rwa [show n + (10 - n) = 10 by omega] at this
  have inl : ∀ S, Ins S (2 ^ n - 1) → S < 2 ^ n := fun S hS => Nat.lt_pow_two_of_testBit S (fun i hi => by
    cases h : S.testBit i with
    | false => rfl
    | true => have := bit_lt (n := n) (by omega) (hS i h); omega)
  obtain ⟨⟨S, s1, s2, s3⟩, h⟩ := bestX_spec rows n (2 ^ n)
  have hSl : S < 2 ^ n := by omega
  refine ⟨⟨S, ?_, fun j hj => ?_, by rw [pop10 S hSl]; exact s3⟩, fun T hT hTi => ?_⟩
  · rcases s2 with s2 | s2
    · exact (clq_iff hc hl hSl).1 s2
    · subst s2; intro i j hi; simp at hi
  · rw [hl, Nat.testBit_two_pow_sub_one]; simpa using bit_lt hSl hj
  · rw [hl] at hTi
    have hTl := inl T hTi
    rw [pop10 T hTl]
    exact h T hTl ((clq_iff hc hl hTl).2 hT)
theorem groupZ_best {rows : List (List Bool)} {n : Nat} (hc : ConfOk rows) (hl : rows.length = n) : groupZ rows = (bestX rows n (2 ^ n) : Int) :=
  groupZ_yes hc (bestX_max hc hl)
end Go.Proofs.YtgccpjhkgkhllaaDoor
