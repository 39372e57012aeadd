/-
  THE GREATEST GROUP INSIDE A SET, in plain Lean: what each round of largestGroup keeps.
-/
import Derived.Test.YtgccpjhkgkhllaaDoorSloR
namespace Go.Proofs.YtgccpjhkgkhllaaDoor
open Go.RowKit
set_option linter.unusedVariables false

def Clq (rows : List (List Bool)) (S : Nat) : Prop := ∀ i j, S.testBit i = true → S.testBit j = true → j ≠ i → cf rows i j = true
def Ins (S M : Nat) : Prop := ∀ j, S.testBit j = true → M.testBit j = true
def IsMax (rows : List (List Bool)) (M b : Nat) : Prop := (∃ S, Clq rows S ∧ Ins S M ∧ popN S 10 = b) ∧ ∀ S, Clq rows S → Ins S M → popN S 10 ≤ b
theorem IsMax.uniq {rows : List (List Bool)} {M b b' : Nat} (h : IsMax rows M b) (h' : IsMax rows M b') : b = b' := by
  obtain ⟨S, s1, s2, s3⟩ := h.1
  obtain ⟨T, t1, t2, t3⟩ := h'.1
  have := h.2 T t1 t2
  have := h'.2 S s1 s2
  omega
def GInv (rows : List (List Bool)) (mask best rest : Nat) : Prop :=
  Ins rest mask ∧ (∃ S, Clq rows S ∧ Ins S mask ∧ popN S 10 = best) ∧ ∀ S, Clq rows S → Ins S mask → popN S 10 ≤ best ∨ Ins S rest
theorem popN_zero : ∀ k, popN 0 k = 0
  | 0 => rfl
  | k + 1 => by rw [popN, popN_zero k]; simp
theorem ginv_start (rows : List (List Bool)) (mask : Nat) : GInv rows mask 0 mask :=
  ⟨fun _ h => h, ⟨0, fun i j h => by simp at h, fun j h => by simp at h, popN_zero _⟩, fun S _ h => .inr h⟩
theorem ginv_stop {rows : List (List Bool)} {mask best rest : Nat} (h : GInv rows mask best rest) (hp : popN rest 10 ≤ best) : IsMax rows mask best :=
  ⟨h.2.1, fun S hS hi => by
    rcases h.2.2 S hS hi with h1 | h1
    · exact h1
    · exact Nat.le_trans (popN_mono h1 10) hp⟩
theorem popN_add {S i : Nat} (hi : S.testBit i = false) : ∀ k, popN (S ||| 2 ^ i) k = popN S k + (if i < k then 1 else 0)
  | 0 => by simp [popN]
  | k + 1 => by
    rw [popN, popN, popN_add hi k, Nat.testBit_or, Nat.testBit_two_pow]
    by_cases hk : i = k
    · subst hk; rw [hi]; simp
    · have : decide (i = k) = false := by simp [hk]
      rw [this, Bool.or_false]
      by_cases hlt : i < k
      · rw [if_pos hlt, if_pos (show i < k + 1 by omega)]; omega
      · rw [if_neg hlt, if_neg (show ¬ i < k + 1 by omega)]; omega
theorem ginv_step {rows : List (List Bool)} {mask best rest i R v : Nat} (h : GInv rows mask best rest) (h10 : i < 10) (hi : rest.testBit i = true) (hlow : ∀ j, (rest &&& (rest - 1)).testBit j = (rest.testBit j && decide (j ≠ i)))
    (hR : ∀ j, mask.testBit j = true → R.testBit j = cf rows i j) (hsym : ∀ j, mask.testBit j = true → cf rows j i = cf rows i j) (hii : cf rows i i = false) (hv : IsMax rows (rest &&& R) v) :
    GInv rows mask (max best (1 + v)) (rest &&& (rest - 1)) := by
  obtain ⟨g1, g2, g3⟩ := h
  refine ⟨fun j hj => ?_, ?_, fun S hS hSm => ?_⟩
  · rw [hlow, Bool.and_eq_true] at hj; exact g1 j hj.1
  · by_cases hb : 1 + v ≤ best
    · rw [Nat.max_eq_left hb]; exact g2
    · rw [Nat.max_eq_right (by omega)]
      obtain ⟨S, s1, s2, s3⟩ := hv.1
      have hin : ∀ j, S.testBit j = true → rest.testBit j = true ∧ R.testBit j = true := fun j hj => by have := s2 j hj; rw [Nat.testBit_and, Bool.and_eq_true] at this; exact this
      have hSi : S.testBit i = false := by
        cases hc : S.testBit i with
        | false => rfl
        | true => have := (hin i hc).2; rw [hR i (g1 i hi), hii] at this; cases this
      have ht : ∀ j, (S ||| 2 ^ i).testBit j = true → S.testBit j = true ∨ j = i := fun j hj => by
        rw [Nat.testBit_or, Nat.testBit_two_pow, Bool.or_eq_true] at hj
        rcases hj with hj | hj
        · exact .inl hj
        · exact .inr (of_decide_eq_true hj).symm
      refine ⟨S ||| 2 ^ i, fun a b ha hb hab => ?_, fun j hj => ?_, by rw [popN_add hSi, if_pos h10, s3]; omega⟩
      · rcases ht a ha with ha' | rfl
        · rcases ht b hb with hb' | rfl
          · exact s1 a b ha' hb' hab
          · have := hin a ha'
            rw [hsym a (g1 a this.1), ← hR a (g1 a this.1)]; exact this.2
        · rcases ht b hb with hb' | rfl
          · have := hin b hb'
            rw [← hR b (g1 b this.1)]; exact this.2
          · exact absurd rfl hab
      · rcases ht j hj with hj' | rfl
        · exact g1 j (hin j hj').1
        · exact g1 _ hi
  · rcases g3 S hS hSm with h1 | h1
    · exact .inl (by omega)
    · cases hSi : S.testBit i with
      | false => exact .inr (fun j hj => by rw [hlow, h1 j hj]; simp; intro e; subst e; rw [hSi] at hj; cases hj)
      | true =>
        have hT := hv.2 (S &&& R) (fun a b ha hb hab => by rw [Nat.testBit_and, Bool.and_eq_true] at ha hb; exact hS a b ha.1 hb.1 hab) (fun j hj => by rw [Nat.testBit_and, Bool.and_eq_true] at hj ⊢; exact ⟨h1 j hj.1, hj.2⟩)
        have hd := (popN_del (b := S &&& R) hSi (fun j hj hne => by rw [Nat.testBit_and, hj, hR j (hSm j hj), hS i j hSi hj hne]; rfl) 10).1
        exact .inl (by omega)
end Go.Proofs.YtgccpjhkgkhllaaDoor
