/-
  Plain facts on the greatest group: its bounds, and when it is at least 2.
-/
import Derived.Test.YtgccpjhkgkhllaaDoorSloW
namespace Go.Proofs.YtgccpjhkgkhllaaDoor
open Go.RowKit
set_option linter.unusedVariables false

theorem popN_ex {x : Nat} : ∀ k, 1 ≤ popN x k → ∃ i, i < k ∧ x.testBit i = true
  | 0, h => by simp [popN] at h
  | k + 1, h => by
    rw [popN] at h
    by_cases hb : x.testBit k = true
    · exact ⟨k, by omega, hb⟩
    · rw [if_neg hb] at h
      obtain ⟨i, h1, h2⟩ := popN_ex k (by omega)
      exact ⟨i, by omega, h2⟩
theorem popN_two {x : Nat} : ∀ k, 2 ≤ popN x k → ∃ i j, j < i ∧ i < k ∧ x.testBit i = true ∧ x.testBit j = true
  | 0, h => by simp [popN] at h
  | k + 1, h => by
    rw [popN] at h
    by_cases hb : x.testBit k = true
    · rw [if_pos hb] at h
      obtain ⟨j, h1, h2⟩ := popN_ex (x := x) k (by omega)
      exact ⟨k, j, h1, by omega, hb, h2⟩
    · rw [if_neg hb] at h
      obtain ⟨i, j, h1, h2, h3⟩ := popN_two (x := x) k (by omega)
      exact ⟨i, j, h1, by omega, h3⟩
/-- Station i is in conflict with one of the first j. -/
def anyR (rows : List (List Bool)) (i : Nat) : Nat → Bool
  | 0 => false
  | j + 1 => anyR rows i j || cf rows i j
/-- One of the first i stations is in conflict with one below it. -/
def anyT (rows : List (List Bool)) : Nat → Bool
  | 0 => false
  | i + 1 => anyT rows i || anyR rows i i
theorem anyR_iff (rows : List (List Bool)) (i : Nat) : ∀ k, anyR rows i k = true ↔ ∃ j, j < k ∧ cf rows i j = true
  | 0 => ⟨fun h => (by cases h), fun ⟨j, h, _⟩ => by omega⟩
  | k + 1 => by
    rw [anyR, Bool.or_eq_true, anyR_iff rows i k]
    constructor
    · rintro (⟨j, h1, h2⟩ | h)
      · exact ⟨j, by omega, h2⟩
      · exact ⟨k, by omega, h⟩
    · rintro ⟨j, h1, h2⟩
      by_cases hj : j = k
      · subst hj; exact .inr h2
      · exact .inl ⟨j, by omega, h2⟩
theorem anyT_iff (rows : List (List Bool)) : ∀ k, anyT rows k = true ↔ ∃ i j, j < i ∧ i < k ∧ cf rows i j = true
  | 0 => ⟨fun h => (by cases h), fun ⟨i, j, _, h, _⟩ => by omega⟩
  | k + 1 => by
    rw [anyT, Bool.or_eq_true, anyT_iff rows k, anyR_iff]
    constructor
    · rintro (⟨i, j, h1, h2, h3⟩ | ⟨j, h1, h2⟩)
      · exact ⟨i, j, h1, by omega, h3⟩
      · exact ⟨k, j, h1, by omega, h2⟩
    · rintro ⟨i, j, h1, h2, h3⟩
      by_cases hi : i = k
      · subst hi; exact .inr ⟨j, h1, h3⟩
      · exact .inl ⟨i, j, h1, by omega, h3⟩
theorem isMax_any {rows : List (List Bool)} {n b : Nat} (hc : ConfOk rows) (hl : rows.length = n) (h : IsMax rows (2 ^ rows.length - 1) b) : b ≤ n ∧ (b = 0 ↔ n = 0) ∧ (2 ≤ b ↔ anyT rows n = true) := by
  have h10 : n ≤ 10 := by rw [← hl]; exact hc.1
  have hp : 0 < 2 ^ n := Nat.pow_pos (by omega)
  rw [hl] at h
  have pop10 : ∀ x, x < 2 ^ n → popN x 10 = popN x n := fun x hx => by
    have := popN_stop hx (10 - n)
    rwa [show n + (10 - n) = 10 by omega] at this
  have inl : ∀ S, Ins S (2 ^ n - 1) → S < 2 ^ n := fun S hS => Nat.lt_pow_two_of_testBit S (fun i hi => by
    cases h : S.testBit i with
    | false => rfl
    | true => have := bit_lt (n := n) (by omega) (hS i h); omega)
  obtain ⟨⟨S, s1, s2, s3⟩, hle⟩ := h
  have hSl := inl S s2
  rw [pop10 S hSl] at s3
  have hbn : b ≤ n := by rw [← s3]; exact popN_le S n
  have one : ∀ i, i < 10 → popN (2 ^ i) 10 = 1 := fun i hi => by
    have := popN_add (S := 0) (i := i) (by simp) 10
    rw [Nat.zero_or, popN_zero, if_pos hi] at this
    exact this
  refine ⟨hbn, ⟨fun h0 => ?_, fun h0 => by omega⟩, ⟨fun h2 => ?_, fun ha => ?_⟩⟩
  · refine Nat.le_antisymm (Nat.not_lt.1 fun hn => ?_) (Nat.zero_le _)
    have := hle (2 ^ 0) (fun i j hi hj hne => by
      rw [Nat.testBit_two_pow] at hi hj
      simp at hi hj; omega) (fun j hj => by
      rw [Nat.testBit_two_pow] at hj
      rw [Nat.testBit_two_pow_sub_one]
      simp at hj ⊢; omega)
    rw [one 0 (by omega)] at this
    omega
  · rw [← s3] at h2
    obtain ⟨i, j, h1, h3, h4, h5⟩ := popN_two n h2
    exact (anyT_iff rows n).2 ⟨i, j, h1, h3, s1 i j h4 h5 (by omega)⟩
  · obtain ⟨i, j, h1, h3, h4⟩ := (anyT_iff rows n).1 ha
    have hji : cf rows j i = true := by rw [← (hc.2.2 i j (by omega) (by omega)).1]; exact h4
    have bits : ∀ v, (2 ^ i ||| 2 ^ j).testBit v = true → v = i ∨ v = j := fun v hv => by
      rw [Nat.testBit_or, Nat.testBit_two_pow, Nat.testBit_two_pow] at hv
      simp at hv; omega
    have := hle (2 ^ i ||| 2 ^ j) (fun u v hu hv hne => by
      rcases bits u hu with rfl | rfl
      · rcases bits v hv with rfl | rfl
        · exact absurd rfl hne
        · exact h4
      · rcases bits v hv with rfl | rfl
        · exact hji
        · exact absurd rfl hne) (fun v hv => by
      rw [Nat.testBit_two_pow_sub_one]
      have := bits v hv
      simp; omega)
    rw [popN_add (by rw [Nat.testBit_two_pow]; simp; omega), one i (by omega), if_pos (by omega)] at this
    omega
theorem groupZ_any {rows : List (List Bool)} {n : Nat} (hc : ConfOk rows) (hl : rows.length = n) : ∃ b : Nat, groupZ rows = (b : Int) ∧ b ≤ n ∧ (b = 0 ↔ n = 0) ∧ (2 ≤ b ↔ anyT rows n = true) :=
  ⟨_, groupZ_best hc hl, isMax_any hc hl (bestX_max hc hl)⟩
end Go.Proofs.YtgccpjhkgkhllaaDoor
