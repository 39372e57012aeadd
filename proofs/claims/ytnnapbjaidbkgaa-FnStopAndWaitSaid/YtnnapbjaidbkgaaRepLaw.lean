/-
  The plain law of StopAndWait.
-/
import Derived.Test.YtnnapbjaidbkgaaRepA
namespace Go.Proofs.Ytnnapbjaidbkgaa
open Go.RowKit
set_option linter.unusedVariables false

/-- How many of the first t transmissions are lost. -/
def goneN (lost : List Bool) : Nat → Int
  | 0 => 0
  | t + 1 => goneN lost t + if lostB lost t = true then 1 else 0
theorem goneN_bd (lost : List Bool) : ∀ t : Nat, 0 ≤ goneN lost t ∧ goneN lost t ≤ t := by
  intro t
  induction t with
  | zero => simp [goneN]
  | succ t ih => rw [goneN]; split <;> omega
theorem goneN_far (lost : List Bool) : ∀ m : Nat, goneN lost (lost.length + m) = goneN lost lost.length := by
  intro m
  induction m with
  | zero => rfl
  | succ m ih =>
    rw [show lost.length + (m + 1) = (lost.length + m) + 1 by omega, goneN, ih]
    have : lostB lost (lost.length + m) = false := by rw [lostB, List.getD_eq_getElem?_getD, List.getElem?_eq_none (by omega)]; rfl
    rw [if_neg (by rw [this]; exact Bool.false_ne_true)]; omega
def sumL : List Int → Int
  | [] => 0
  | y :: ys => y + sumL ys
theorem sumL_snoc : ∀ (a : List Int) (y : Int), sumL (a ++ [y]) = sumL a + y := by
  intro a
  induction a with
  | nil => intro y; simp [sumL]
  | cons x a ih => intro y; simp only [List.cons_append, sumL, ih]; omega
theorem sumL_set : ∀ (a : List Int) (k : Nat), k < a.length → sumL (a.set k (a.getD k 0 + 1)) = sumL a + 1 := by
  intro a
  induction a with
  | nil => intro k h; simp at h
  | cons x a ih =>
    intro k h
    cases k with
    | zero => simp [sumL]; omega
    | succ k =>
      have := ih k (by simpa using h)
      simp only [List.set_cons_succ, List.getD_cons_succ, sumL, this]; omega
theorem sumL_rep (n : Nat) : sumL (List.replicate n 0) = 0 := by
  induction n with
  | zero => rfl
  | succ n ih => rw [List.replicate_succ, sumL, ih]; rfl
theorem getD_set' (a : List Int) (k i : Nat) (v : Int) (hk : k < a.length) : (a.set k v).getD i 0 = if k = i then v else a.getD i 0 := by
  rw [List.getD_eq_getElem?_getD, List.getElem?_set]
  split
  · rename_i h; subst h; simp
  · rw [List.getD_eq_getElem?_getD]
theorem swr_props (n : Nat) (lost un : List Bool) : ∀ (f t k : Nat) (ys ys' : List Int) (t' : Nat), swr n lost un f t k ys = some (ys', t') → k ≤ n → ys.length = n → (∀ i, 0 ≤ ys.getD i 0) → (∀ i, i < k → 1 ≤ ys.getD i 0) → sumL ys + goneN lost t = t →
    ys'.length = n ∧ (∀ i, i < n → 1 ≤ ys'.getD i 0) ∧ sumL ys' + goneN lost t' = t' ∧ t' ≤ t + f := by
  intro f
  induction f with
  | zero =>
    intro t k ys ys' t' h hk hl h0 h1 hs
    rw [swr] at h
    split at h
    · cases h
    · injection h with h
      injection h with e1 e2
      subst e1 e2
      exact ⟨hl, fun i hi => h1 i (by omega), hs, by omega⟩
  | succ f ih =>
    intro t k ys ys' t' h hk hl h0 h1 hs
    rw [swr] at h
    split at h
    · rename_i hkn
      split at h
      · rename_i hlo
        obtain ⟨a, b, c, d⟩ := ih _ _ _ _ _ h hk hl h0 h1 (by rw [goneN, if_pos hlo]; omega)
        exact ⟨a, b, c, by omega⟩
      · rename_i hlo
        have hg : ∀ i, (ys.set k (ys.getD k 0 + 1)).getD i 0 = if k = i then ys.getD k 0 + 1 else ys.getD i 0 := fun i => getD_set' _ _ _ _ (by omega)
        obtain ⟨a, b, c, d⟩ := ih _ _ _ _ _ h (by split <;> omega) (by rw [List.length_set]; exact hl) (fun i => by
            rw [hg]; have := h0 k; have := h0 i; split <;> omega) (fun i hi => by
            rw [hg]
            have := h0 k
            split
            · omega
            · split at hi
              · exact h1 i hi
              · exact h1 i (by omega)) (by rw [goneN, if_neg hlo, sumL_set _ _ (by omega)]; omega)
        exact ⟨a, b, c, by omega⟩
    · injection h with h
      injection h with e1 e2
      subst e1 e2
      exact ⟨hl, fun i hi => h1 i (by omega), hs, by omega⟩
theorem swr_once (n : Nat) (lost : List Bool) : ∀ (f t k : Nat) (ys ys' : List Int) (t' : Nat), swr n lost [] f t k ys = some (ys', t') → k ≤ n → ys.length = n → (∀ i, ys.getD i 0 = if i < k then 1 else 0) → ys'.length = n ∧ ∀ i, i < n → ys'.getD i 0 = 1 := by
  intro f
  induction f with
  | zero =>
    intro t k ys ys' t' h hk hl h1
    rw [swr] at h
    split at h
    · cases h
    · injection h with h
      injection h with e1 e2
      subst e1 e2
      exact ⟨hl, fun i hi => by rw [h1, if_pos (by omega)]⟩
  | succ f ih =>
    intro t k ys ys' t' h hk hl h1
    rw [swr] at h
    split at h
    · rename_i hkn
      split at h
      · exact ih _ _ _ _ _ h hk hl h1
      · rw [if_neg (show ¬ lostB [] t = true by simp [lostB])] at h
        refine ih _ _ _ _ _ h (by omega) (by rw [List.length_set]; exact hl) (fun i => ?_)
        rw [getD_set' _ _ _ _ (by omega)]
        have hk1 := h1 k
        rw [if_neg (by omega)] at hk1
        split
        · rename_i e; rw [hk1, if_pos (by omega)]; omega
        · rw [h1]
          (repeat' split) <;> first | rfl | omega
    · injection h with h
      injection h with e1 e2
      subst e1 e2
      exact ⟨hl, fun i hi => by rw [h1, if_pos (by omega)]⟩
/-- Either nothing was sent, or every message arrived. -/
theorem stopWait_cases (n : Int) (lost un : List Bool) : stopWait n lost un = ([], 0) ∨ ∃ N : Nat, n = N ∧ 1 ≤ N ∧ N ≤ 30 ∧ ∃ (ys : List Int) (t : Nat), stopWait n lost un = (ys, (t : Int)) ∧ ys.length = N ∧ (∀ i, i < N → 1 ≤ ys.getD i 0) ∧ sumL ys + goneN lost t = t ∧ t ≤ 300 := by
  by_cases hv : 0 ≤ n ∧ n ≤ 30
  · obtain ⟨N, rfl⟩ := Int.eq_ofNat_of_zero_le hv.1
    rw [stopWait, if_pos hv, Int.toNat_natCast]
    by_cases h0 : N = 0
    · subst h0; exact .inl rfl
    · cases hs : swr N lost un 300 0 0 (List.replicate N 0) with
      | none => exact .inl rfl
      | some p =>
        obtain ⟨ys, t⟩ := p
        obtain ⟨a, b, c, d⟩ := swr_props N lost un _ _ _ _ _ _ hs (by omega) (by simp) (fun i => by rw [List.getD_eq_getElem?_getD, List.getElem?_replicate]; split <;> simp) (fun i hi => by omega) (by rw [sumL_rep]; rfl)
        exact .inr ⟨N, rfl, by omega, by omega, ys, t, rfl, a, b, c, by omega⟩
  · exact .inl (by rw [stopWait, if_neg hv])
theorem stopWait_once (N : Nat) (lost : List Bool) (hN : 1 ≤ N) (hN2 : N ≤ 30) : (stopWait (N : Int) lost []).1 = [] ∨ ((stopWait (N : Int) lost []).1.length = N ∧ ∀ i, i < N → (stopWait (N : Int) lost []).1.getD i 0 = 1) := by
  rw [stopWait, if_pos (by omega), Int.toNat_natCast]
  cases hs : swr N lost [] 300 0 0 (List.replicate N 0) with
  | none => exact .inl rfl
  | some p =>
    obtain ⟨ys, t⟩ := p
    exact .inr (swr_once N lost _ _ _ _ _ _ hs (by omega) (by simp) (fun i => by rw [List.getD_eq_getElem?_getD, List.getElem?_replicate]; split <;> simp))
end Go.Proofs.Ytnnapbjaidbkgaa
