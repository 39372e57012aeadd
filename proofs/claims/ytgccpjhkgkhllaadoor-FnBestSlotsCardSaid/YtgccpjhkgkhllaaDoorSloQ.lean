/-
  WHAT THE GREEDY SLOTS ARE: valid; the first is 0; a station's slot is at most the number of earlier stations with which it is in conflict.
-/
import Derived.Test.YtgccpjhkgkhllaaDoorSloC
import Derived.Test.YtgccpjhkgkhllaaDoorSloB
namespace Go.Proofs.YtgccpjhkgkhllaaDoor
open Go.RowKit
set_option linter.unusedVariables false

theorem sub_len : ∀ (l1 l2 : List Nat), l1.Nodup → (∀ x ∈ l1, x ∈ l2) → l1.length ≤ l2.length
  | [], _, _, _ => Nat.zero_le _
  | a :: l, l2, hn, hs => by
    have ha := hs a (by simp)
    obtain ⟨h1, h2⟩ := List.nodup_cons.1 hn
    have ih := sub_len l (l2.erase a) h2 (fun x hx => (List.mem_erase_of_ne (fun e => h1 (by rw [← e]; exact hx))).2 (hs x (List.mem_cons_of_mem _ hx)))
    rw [List.length_erase_of_mem ha] at ih
    have hp := List.length_pos_of_mem ha
    rw [List.length_cons]
    omega
/-- How many of the first stations are in conflict with station i. -/
def cntC (rows : List (List Bool)) (i : Nat) : Nat → Nat
  | 0 => 0
  | j + 1 => cntC rows i j + (if cf rows i j = true then 1 else 0)
theorem cntC_len (rows : List (List Bool)) (i : Nat) : ∀ k, ((List.range k).filter fun j => cf rows i j).length = cntC rows i k
  | 0 => rfl
  | k + 1 => by
    rw [List.range_succ, List.filter_append, List.length_append, cntC_len rows i k, cntC]
    cases h : cf rows i k <;> simp [h]
theorem cntC_le (rows : List (List Bool)) (i : Nat) : ∀ k, cntC rows i k ≤ k
  | 0 => Nat.le_refl _
  | k + 1 => by have := cntC_le rows i k; rw [cntC]; split <;> omega
theorem free_le (rows : List (List Bool)) (ss : List Nat) (i : Nat) : freeS rows ss i ≤ cntC rows i ss.length := by
  obtain ⟨_, _, h⟩ := freeS_spec rows ss i
  have hs := sub_len (List.range (freeS rows ss i)) (((List.range ss.length).filter fun j => cf rows i j).map fun j => ss.getD j 0) List.nodup_range (fun x hx => by
    obtain ⟨j, hj, hc, he⟩ := usedB_iff.1 (h x (List.mem_range.1 hx))
    exact List.mem_map.2 ⟨j, List.mem_filter.2 ⟨List.mem_range.2 hj, hc⟩, he⟩)
  rw [List.length_range, List.length_map, cntC_len] at hs
  exact hs
theorem greedy_at (rows : List (List Bool)) : ∀ k i, i < k → (greedyL rows k).getD i 0 = freeS rows (greedyL rows i) i
  | 0, i, h => by omega
  | k + 1, i, h => by
    rw [greedyL, getD_snoc, greedy_len]
    by_cases hi : i < k
    · rw [if_pos hi]; exact greedy_at rows k i hi
    · have e : i = k := by omega
      subst e
      rw [if_neg (by omega), if_pos rfl]
theorem greedy_cnt (rows : List (List Bool)) {k i : Nat} (h : i < k) : (greedyL rows k).getD i 0 ≤ cntC rows i i := by
  rw [greedy_at rows k i h]
  have := free_le rows (greedyL rows i) i
  rwa [greedy_len] at this
theorem greedy_first (rows : List (List Bool)) {k : Nat} (h : 0 < k) : (greedyL rows k).getD 0 0 = 0 := by
  have := greedy_cnt rows h
  rw [cntC] at this
  omega
theorem castL_getD (xs : List Nat) (i : Nat) : (castL xs).getD i 0 = ((xs.getD i 0 : Nat) : Int) := by
  unfold castL
  simp only [List.getD_eq_getElem?_getD, List.getElem?_map]
  cases xs[i]? <;> rfl
/-- A colouring with at most ten slots is a valid list of slots. -/
theorem col_ok {rows : List (List Bool)} {m : Nat} {xs : List Nat} (hc : ConfOk rows) (hm : m ≤ 10) (h : Col rows m xs) (hl : xs.length = rows.length) : SlotsOk rows (castL xs) := by
  refine ⟨hc, by rw [castL_len, hl], fun i hi => ?_⟩
  have h1 := h.1 i (by omega)
  unfold SlotOk
  rw [castL_getD]
  refine ⟨by omega, by omega, fun j hj hcf => ?_⟩
  rw [castL_getD]
  have key : ∀ a b, a < rows.length → b < a → cf rows a b = true → xs.getD a 0 ≠ xs.getD b 0 := fun a b ha hb hab => h.2 a b (by omega) hb hab
  rcases Nat.lt_trichotomy j i with hji | rfl | hij
  · have := key i j hi hji hcf; omega
  · rw [(hc.2.2 j j hj hj).2 rfl] at hcf; cases hcf
  · have := key j i hj hij (by rw [← (hc.2.2 i j hi hj).1]; exact hcf); omega
theorem greedy_ok {rows : List (List Bool)} (hc : ConfOk rows) : slotsB rows (castL (greedyL rows rows.length)) = true :=
  slotsB_yes (col_ok hc hc.1 (greedy_col rows.length) (greedy_len rows _))
end Go.Proofs.YtgccpjhkgkhllaaDoor
