/-
  What the reference's GroupSize reckons: the greatest number of set bits among the numbers whose set bits are all in conflict.
-/
import Derived.Test.YtgccpjhkgkhllaaDoorSloU
namespace Go.Proofs.YtgccpjhkgkhllaaDoor
open Go.RowKit
set_option linter.unusedVariables false

/-- Station i is in conflict with every one of the first j that is in x. -/
def okR (rows : List (List Bool)) (x i : Nat) : Nat → Bool
  | 0 => true
  | j + 1 => okR rows x i j && (!x.testBit j || cf rows i j)
/-- The first i stations that are in x are all in conflict. -/
def okA (rows : List (List Bool)) (x : Nat) : Nat → Bool
  | 0 => true
  | i + 1 => okA rows x i && (!x.testBit i || okR rows x i i)
/-- The greatest group among the numbers below x. -/
def bestX (rows : List (List Bool)) (n : Nat) : Nat → Nat
  | 0 => 0
  | x + 1 => if okA rows x n = true then max (bestX rows n x) (popN x n) else bestX rows n x
theorem okR_iff (rows : List (List Bool)) (x i : Nat) : ∀ j, okR rows x i j = true ↔ ∀ b, b < j → x.testBit b = true → cf rows i b = true
  | 0 => ⟨fun _ b hb => by omega, fun _ => rfl⟩
  | j + 1 => by
    rw [okR, Bool.and_eq_true, okR_iff rows x i j, Bool.or_eq_true]
    constructor
    · rintro ⟨h1, h2⟩ b hb hx
      by_cases hbj : b = j
      · subst hbj
        rcases h2 with h2 | h2
        · rw [hx] at h2; cases h2
        · exact h2
      · exact h1 b (by omega) hx
    · intro h
      refine ⟨fun b hb hx => h b (by omega) hx, ?_⟩
      cases hx : x.testBit j with
      | false => exact .inl rfl
      | true => exact .inr (h j (by omega) hx)
theorem okA_iff (rows : List (List Bool)) (x : Nat) : ∀ i, okA rows x i = true ↔ ∀ a, a < i → x.testBit a = true → ∀ b, b < a → x.testBit b = true → cf rows a b = true
  | 0 => ⟨fun _ a ha => by omega, fun _ => rfl⟩
  | i + 1 => by
    rw [okA, Bool.and_eq_true, okA_iff rows x i, Bool.or_eq_true]
    constructor
    · rintro ⟨h1, h2⟩ a ha hx b hb hxb
      by_cases hai : a = i
      · subst hai
        rcases h2 with h2 | h2
        · rw [hx] at h2; cases h2
        · exact (okR_iff rows x a a).1 h2 b hb hxb
      · exact h1 a (by omega) hx b hb hxb
    · intro h
      refine ⟨fun a ha hx => h a (by omega) hx, ?_⟩
      cases hx : x.testBit i with
      | false => exact .inl rfl
      | true => exact .inr ((okR_iff rows x i i).2 (fun b hb hxb => h i (by omega) hx b hb hxb))
theorem bit_lt {x n j : Nat} (hx : x < 2 ^ n) (h : x.testBit j = true) : j < n := by
  rcases Nat.lt_or_ge j n with hj | hj
  · exact hj
  · rw [Nat.testBit_lt_two_pow (Nat.lt_of_lt_of_le hx (Nat.pow_le_pow_right (by omega) hj))] at h
    cases h
theorem clq_iff {rows : List (List Bool)} {n x : Nat} (hc : ConfOk rows) (hl : rows.length = n) (hx : x < 2 ^ n) : okA rows x n = true ↔ Clq rows x := by
  rw [okA_iff]
  constructor
  · intro h i j hi hj hne
    have hi' := bit_lt hx hi
    have hj' := bit_lt hx hj
    rcases Nat.lt_trichotomy j i with h1 | h1 | h1
    · exact h i hi' hi j h1 hj
    · exact absurd h1 hne
    · rw [(hc.2.2 i j (by omega) (by omega)).1]; exact h j hj' hj i h1 hi
  · intro h a ha hxa b hb hxb
    exact h a b hxa hxb (by omega)
theorem popN_stop {x n : Nat} (hx : x < 2 ^ n) : ∀ k, popN x (n + k) = popN x n
  | 0 => rfl
  | k + 1 => by
    rw [← Nat.add_assoc, popN, popN_stop hx k]
    cases h : x.testBit (n + k) with
    | false => simp
    | true => have := bit_lt hx h; omega
theorem bestX_spec (rows : List (List Bool)) (n : Nat) : ∀ m, (∃ S, (S < m ∨ S = 0) ∧ (okA rows S n = true ∨ S = 0) ∧ popN S n = bestX rows n m) ∧ ∀ S, S < m → okA rows S n = true → popN S n ≤ bestX rows n m
  | 0 => ⟨⟨0, .inr rfl, .inr rfl, popN_zero n⟩, fun S h => by omega⟩
  | m + 1 => by
    obtain ⟨⟨S, s1, s2, s3⟩, h⟩ := bestX_spec rows n m
    rw [bestX]
    by_cases ho : okA rows m n = true
    · rw [if_pos ho]
      refine ⟨?_, fun T hT hO => ?_⟩
      · by_cases hle : popN m n ≤ bestX rows n m
        · rw [Nat.max_eq_left hle]; exact ⟨S, by omega, s2, s3⟩
        · rw [Nat.max_eq_right (by omega)]; exact ⟨m, .inl (by omega), .inl ho, rfl⟩
      · by_cases hTm : T = m
        · subst hTm; exact Nat.le_max_right _ _
        · exact Nat.le_trans (h T (by omega) hO) (Nat.le_max_left _ _)
    · rw [if_neg ho]
      refine ⟨⟨S, by omega, s2, s3⟩, fun T hT hO => ?_⟩
      by_cases hTm : T = m
      · subst hTm; exact absurd hO ho
      · exact h T (by omega) hO
end Go.Proofs.YtgccpjhkgkhllaaDoor
