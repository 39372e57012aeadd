/-
  SETS OF STATIONS AS NUMBERS: how many bits are set; the lowest bit; the number without it.
-/
import Derived.Test.YtgccpjhkgkhllaaDoorOnes
import Derived.Test.YtgccpjhkgkhllaaDoorSloQ
import Derived.Test.YtgccpjhkgkhllaaDoorSloI
namespace Go.Proofs.YtgccpjhkgkhllaaDoor
open Go.RowKit
set_option linter.unusedVariables false

theorem popN_mono {a b : Nat} (h : ∀ j, a.testBit j = true → b.testBit j = true) : ∀ k, popN a k ≤ popN b k
  | 0 => Nat.le_refl _
  | k + 1 => by
    have ih := popN_mono h k
    have hk := h k
    rw [popN, popN]
    cases ha : a.testBit k with
    | false => simp; omega
    | true => rw [hk ha]; simp; omega
/-- One bit more. -/
theorem popN_del {a b i : Nat} (hi : a.testBit i = true) (h : ∀ j, a.testBit j = true → j ≠ i → b.testBit j = true) : ∀ k, popN a k ≤ popN b k + 1 ∧ (k ≤ i → popN a k ≤ popN b k)
  | 0 => ⟨Nat.le_succ _, fun _ => Nat.le_refl _⟩
  | k + 1 => by
    obtain ⟨h1, h2⟩ := popN_del hi h k
    rw [popN, popN]
    by_cases hki : k = i
    · subst hki
      have := h2 (Nat.le_refl _)
      exact ⟨by split <;> split <;> omega, fun hh => by omega⟩
    · have hb : (if a.testBit k = true then 1 else 0) ≤ (if b.testBit k = true then 1 else 0) := by
        split
        · rename_i hk; rw [if_pos (h k hk hki)]; exact Nat.le_refl _
        · exact Nat.zero_le _
      exact ⟨by omega, fun hh => by have := h2 (by omega); omega⟩
/-- The number without its lowest bit. -/
theorem testBit_low {x : Nat} (h0 : x ≠ 0) (hx : x < 2 ^ 64) : x.testBit (Lib.ctz 64 x) = true ∧ ∀ j, (x &&& (x - 1)).testBit j = (x.testBit j && decide (j ≠ Lib.ctz 64 x)) := by
  obtain ⟨m, hm, _⟩ := Lib.ctzFrom_spec 64 x (by omega) hx
  have hc : Lib.ctz 64 x = Lib.ctzFrom 64 x := by unfold Lib.ctz; rw [if_neg h0]
  rw [hc]
  obtain ⟨c, hcc⟩ : ∃ c, Lib.ctzFrom 64 x = c := ⟨_, rfl⟩
  rw [hcc] at hm ⊢
  have hp : 0 < 2 ^ c := Nat.pow_pos (by omega)
  have e1 : x - 1 = 2 ^ c * (2 * m) + (2 ^ c - 1) := by rw [hm, Nat.mul_add]; omega
  have b1 : ∀ j, x.testBit j = (decide (c ≤ j) && (2 * m + 1).testBit (j - c)) := fun j => by rw [hm, Nat.testBit_two_pow_mul]
  refine ⟨by rw [b1]; simp, fun j => ?_⟩
  rw [Nat.testBit_and, b1, e1, Nat.testBit_two_pow_mul_add _ (by omega)]
  by_cases hj : j < c
  · have : decide (c ≤ j) = false := by simp; omega
    rw [this]; simp
  · rw [if_neg hj]
    by_cases hjc : j = c
    · subst hjc; simp
    · obtain ⟨d, hd⟩ : ∃ d, j - c = d + 1 := ⟨j - c - 1, by omega⟩
      rw [hd, Nat.testBit_succ, Nat.testBit_succ]
      have q1 : (2 * m + 1) / 2 = m := by omega
      have q2 : (2 * m) / 2 = m := by omega
      rw [q1, q2]
      simp [hjc]
end Go.Proofs.YtgccpjhkgkhllaaDoor
