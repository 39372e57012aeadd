/-
  The number of slots, in plain Lean: a list's number as its elements come in; a group needs as many; without the last station not more; the greedy slots are not fewer.
-/
import Derived.Test.YtgccpjhkgkhllaaDoorSloY
import Derived.Test.YtgccpjhkgkhllaaDoorSloQ
import Derived.Test.YtgccpjhkgkhllaaDoorSmall
namespace Go.Proofs.YtgccpjhkgkhllaaDoor
open Go.RowKit
set_option linter.unusedVariables false

theorem mostS_snoc : ∀ (xs : List Nat) (x : Nat), mostS (xs ++ [x]) = max (mostS xs) (x + 1)
  | [], x => by simp [mostS]
  | y :: l, x => by rw [List.cons_append, mostS, mostS, mostS_snoc l x]; omega
theorem mostS_take {xs : List Nat} {k : Nat} (h : k < xs.length) : mostS (xs.take (k + 1)) = max (mostS (xs.take k)) (xs.getD k 0 + 1) := by
  have e : xs[k]? = some (xs.getD k 0) := by rw [List.getD_eq_getElem?_getD, List.getElem?_eq_getElem h]; rfl
  rw [List.take_add_one, e]
  exact mostS_snoc _ _
theorem mostS_bound {xs : List Nat} {m : Nat} (h : ∀ i, xs.getD i 0 < m) : mostS xs ≤ m := mostS_le fun i _ => h i
/-- The members of a set, downward. -/
def bitsL (S : Nat) : Nat → List Nat
  | 0 => []
  | k + 1 => if S.testBit k = true then k :: bitsL S k else bitsL S k
theorem bitsL_len (S : Nat) : ∀ k, (bitsL S k).length = popN S k
  | 0 => rfl
  | k + 1 => by
    rw [bitsL, popN]
    split
    · rw [List.length_cons, bitsL_len S k]
    · rw [bitsL_len S k]; rfl
theorem bitsL_mem {S i : Nat} : ∀ k, i ∈ bitsL S k → i < k ∧ S.testBit i = true
  | 0, h => by simp [bitsL] at h
  | k + 1, h => by
    rw [bitsL] at h
    split at h
    · rename_i hk
      rcases List.mem_cons.1 h with rfl | h
      · exact ⟨by omega, hk⟩
      · have := bitsL_mem k h; exact ⟨by omega, this.2⟩
    · have := bitsL_mem k h; exact ⟨by omega, this.2⟩
theorem bitsL_pair {rows : List (List Bool)} {S : Nat} (h : Clq rows S) : ∀ k, (bitsL S k).Pairwise (fun a b => cf rows a b = true ∧ b < a)
  | 0 => List.Pairwise.nil
  | k + 1 => by
    rw [bitsL]
    split
    · rename_i hk
      refine List.Pairwise.cons (fun b hb => ?_) (bitsL_pair h k)
      obtain ⟨b1, b2⟩ := bitsL_mem k hb
      exact ⟨h k b hk b2 (by omega), b1⟩
    · exact bitsL_pair h k
theorem group_best {rows : List (List Bool)} {b m : Nat} {xs : List Nat} (h : IsMax rows (2 ^ rows.length - 1) b) (hcol : Col rows m xs) (hl : xs.length = rows.length) : b ≤ m := by
  obtain ⟨S, s1, s2, s3⟩ := h.1
  rw [← s3, ← bitsL_len]
  refine group_le hcol hl _ (fun i hi => ?_) (bitsL_pair s1 10)
  have h1 := s2 i (bitsL_mem 10 hi).2
  rw [Nat.testBit_two_pow_sub_one] at h1
  simpa using h1
theorem groupZ_le {rows : List (List Bool)} (hc : ConfOk rows) : ∃ b : Nat, groupZ rows = (b : Int) ∧ b ≤ bestM rows :=
  ⟨_, groupZ_best hc rfl, group_best (bestX_max hc rfl) (best_col rows) (best_len rows)⟩
theorem small_len {rows : List (List Bool)} {m : Nat} (hm : m ≤ rows.length) : (smallT rows m).length = m := by unfold smallT; simp; omega
theorem small_best {rows : List (List Bool)} {m : Nat} (hm : m ≤ rows.length) : bestM (smallT rows m) ≤ bestM rows := by
  have hl := small_len hm
  have hx : ((bestL rows).take m).length = m := by rw [List.length_take, best_len]; omega
  have hb := best_col rows
  refine best_least (xs := (bestL rows).take m) ⟨fun i hi => ?_, fun i j hi hj hcf => ?_⟩ (by rw [hx, hl])
  · rw [hx] at hi
    rw [getD_take hi]
    exact hb.1 i (by rw [best_len]; omega)
  · rw [hx] at hi
    rw [getD_take hi, getD_take (by omega)]
    rw [cf_small hi (by omega) hm] at hcf
    exact hb.2 i j (by rw [best_len]; omega) hj hcf
theorem best_greedy (rows : List (List Bool)) : bestM rows ≤ mostS (greedyL rows rows.length) :=
  best_least ⟨fun i hi => lt_mostS hi, (greedy_col rows.length).2⟩ (greedy_len rows rows.length)
end Go.Proofs.YtgccpjhkgkhllaaDoor
