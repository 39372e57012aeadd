/-
  Plain facts on lonely senders: each is alone in its slot; one sender more in the slot of one of them leaves one less.
-/
import Derived.Test.YtnebmfdjcikegaaAccA
namespace Go.Proofs.Ytnebmfdjcikegaa
open Go.RowKit Go.Maps
set_option linter.unusedVariables false

theorem cnt_one {ss : List Int} {x : Int} {i : Nat} : ∀ {k : Nat}, i < k → ss.getD i 0 = x → 1 ≤ cntN ss x k
  | k + 1, hi, hx => by
    rw [cntN]
    by_cases hik : i = k
    · subst hik; rw [if_pos hx]; omega
    · have := cnt_one (k := k) (i := i) (by omega) hx; omega
theorem cnt_two {ss : List Int} {x : Int} {i j : Nat} : ∀ {k : Nat}, i < k → j < k → i ≠ j → ss.getD i 0 = x → ss.getD j 0 = x → 2 ≤ cntN ss x k
  | k + 1, hi, hj, hne, hx, hy => by
    rw [cntN]
    by_cases hik : i = k
    · subst hik
      rw [if_pos hx]
      have := cnt_one (ss := ss) (x := x) (i := j) (k := i) (by omega) hy
      omega
    · by_cases hjk : j = k
      · subst hjk
        rw [if_pos hy]
        have := cnt_one (ss := ss) (x := x) (i := i) (k := j) (by omega) hx
        omega
      · have := cnt_two (k := k) (ss := ss) (x := x) (i := i) (j := j) (by omega) (by omega) hne hx hy
        omega
theorem aloneL_get {ss : List Int} : ∀ {m k : Nat} {I : Int}, (aloneL ss m)[k]? = some I → ∃ i : Nat, I = (i : Int) ∧ i < m ∧ cntN ss (ss.getD i 0) ss.length = 1
  | 0, k, I, h => by simp [aloneL] at h
  | m + 1, k, I, h => by
    rw [aloneL] at h
    by_cases hc : cntN ss (ss.getD m 0) ss.length = 1
    · rw [if_pos hc] at h
      rcases Nat.lt_or_ge k (aloneL ss m).length with hk | hk
      · rw [List.getElem?_append_left hk] at h
        obtain ⟨i, h1, h2, h3⟩ := aloneL_get h
        exact ⟨i, h1, by omega, h3⟩
      · rw [List.getElem?_append_right hk] at h
        have : I = (m : Int) := by
          cases hz : k - (aloneL ss m).length with
          | zero => rw [hz] at h; simp at h; exact h.symm
          | succ z => rw [hz] at h; simp at h
        exact ⟨m, this, by omega, hc⟩
    · rw [if_neg hc] at h
      obtain ⟨i, h1, h2, h3⟩ := aloneL_get h
      exact ⟨i, h1, by omega, h3⟩
theorem getD_app {ss : List Int} {X : Int} {k : Nat} (hk : k < ss.length) : (ss ++ [X]).getD k 0 = ss.getD k 0 := by
  rw [List.getD_eq_getElem?_getD, List.getD_eq_getElem?_getD, List.getElem?_append_left hk]
theorem getD_end (ss : List Int) (X : Int) : (ss ++ [X]).getD ss.length 0 = X := by simp
theorem cnt_app {ss : List Int} {X x : Int} : ∀ {k : Nat}, k ≤ ss.length → cntN (ss ++ [X]) x k = cntN ss x k
  | 0, _ => rfl
  | k + 1, h => by rw [cntN, cntN, cnt_app (by omega), getD_app (by omega)]
theorem cnt_more (ss : List Int) (X x : Int) : cntN (ss ++ [X]) x (ss ++ [X]).length = cntN ss x ss.length + (if X = x then 1 else 0) := by
  rw [List.length_append, List.length_singleton, cntN, cnt_app (Nat.le_refl _), getD_end]
theorem more_len {ss : List Int} {i0 : Nat} (h0 : i0 < ss.length) (hc : cntN ss (ss.getD i0 0) ss.length = 1) : (aloneL (ss ++ [ss.getD i0 0]) (ss.length + 1)).length + 1 = (aloneL ss ss.length).length := by
  have key : ∀ k, k ≤ ss.length → (aloneL (ss ++ [ss.getD i0 0]) k).length + (if i0 < k then 1 else 0) = (aloneL ss k).length := by
    intro k
    induction k with
    | zero => intro _; simp [aloneL]
    | succ k ih =>
      intro hk
      have ih := ih (by omega)
      rw [aloneL, aloneL, getD_app (by omega), cnt_more]
      by_cases hki : k = i0
      · subst hki
        rw [if_pos rfl, hc, if_neg (by omega), if_pos rfl, if_pos (by omega)]
        rw [if_neg (by omega)] at ih
        rw [List.length_append, List.length_singleton]; omega
      · have hne : ¬ ss.getD i0 0 = ss.getD k 0 := fun e => by
          have := cnt_two (ss := ss) (x := ss.getD i0 0) (i := i0) (j := k) (k := ss.length) h0 (by omega) (by omega) rfl e.symm
          omega
        rw [if_neg hne, Nat.add_zero]
        have h4 : (i0 < k + 1) ↔ (i0 < k) := by omega
        simp only [h4]
        split
        · rw [List.length_append, List.length_append, List.length_singleton]; omega
        · exact ih
  have := key ss.length (Nat.le_refl _)
  rw [if_pos h0] at this
  rw [aloneL, getD_end, cnt_more, if_pos rfl, hc, if_neg (by omega)]
  exact this
theorem choices_more {ss : List Int} {X : Int} (h : ChoicesOk ss) (hX : SlotIn X) (h8 : ss.length ≠ 8) : ChoicesOk (ss ++ [X]) :=
  ⟨by have := h.1; simp; omega, fun x hx => by
    rcases List.mem_append.1 hx with hx | hx
    · exact h.2 x hx
    · rw [List.mem_singleton] at hx; subst hx; exact hX⟩
end Go.Proofs.Ytnebmfdjcikegaa
