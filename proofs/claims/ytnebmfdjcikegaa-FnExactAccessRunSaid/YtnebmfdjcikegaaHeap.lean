/-
  A HEAP OF SENDERS, ordered by their slots, in plain Lean: what up and down keep, round by round; what Pop and Push give. No program in sight.
-/
import Derived.Test.YtnebmfdjcikegaaBase
namespace Go.Proofs.Ytnebmfdjcikegaa
open Go.RowKit
set_option linter.unusedVariables false

structure Snd where
  slot : Int
  number : Int
  seed : Int
  fails : Int
def d0 : Snd := ⟨0, 0, 0, 0⟩
def gt (L : List Snd) (i : Nat) : Snd := L.getD i d0
def sl (L : List Snd) (i : Nat) : Int := (gt L i).slot
def swp (L : List Snd) (i j : Nat) : List Snd := (L.set i (gt L j)).set j (gt L i)
theorem swp_len (L : List Snd) (i j : Nat) : (swp L i j).length = L.length := by simp [swp]
theorem gt_some {L : List Snd} {i : Nat} (h : i < L.length) : L[i]? = some (gt L i) := by
  unfold gt; rw [List.getD_eq_getElem?_getD, List.getElem?_eq_getElem h]; rfl
theorem gt_of {L : List Snd} {i : Nat} {s : Snd} (h : L[i]? = some s) : gt L i = s := by
  unfold gt; rw [List.getD_eq_getElem?_getD, h]; rfl
theorem swp_gt {L : List Snd} {i j : Nat} (hi : i < L.length) (hj : j < L.length) (k : Nat) : gt (swp L i j) k = if k = j then gt L i else if k = i then gt L j else gt L k := by
  unfold swp
  unfold gt
  simp only [List.getD_eq_getElem?_getD, List.getElem?_set, List.length_set]
  by_cases h1 : k = j
  · subst h1
    simp [hj]
  · by_cases h2 : k = i
    · subst h2
      simp [Ne.symm h1, h1, hi]
    · simp [h1, h2, Ne.symm h1, Ne.symm h2]
theorem swp_perm {L : List Snd} {i j : Nat} (hi : i < L.length) (hj : j < L.length) : (swp L i j).Perm L := by
  have h := List.set_set_perm hi hj
  have e1 : L[j] = gt L j := by have := gt_some hj; rw [List.getElem?_eq_getElem hj] at this; injection this
  have e2 : L[i] = gt L i := by have := gt_some hi; rw [List.getElem?_eq_getElem hi] at this; injection this
  rw [e1, e2] at h
  exact h
theorem swp_sl {L : List Snd} {i j : Nat} (hi : i < L.length) (hj : j < L.length) (k : Nat) : sl (swp L i j) k = if k = j then sl L i else if k = i then sl L j else sl L k := by
  unfold sl
  rw [swp_gt hi hj]
  split
  · rfl
  · split <;> rfl

/-- The first n are a heap. -/
def Hp (L : List Snd) (n : Nat) : Prop := ∀ k, 0 < k → k < n → sl L ((k - 1) / 2) ≤ sl L k
theorem Hp.least {L : List Snd} {n : Nat} (h : Hp L n) : ∀ k, k < n → sl L 0 ≤ sl L k := by
  intro k
  induction k using Nat.strongRecOn with
  | _ k ih =>
    intro hk
    by_cases h0 : k = 0
    · subst h0; exact Int.le_refl _
    · exact Int.le_trans (ih ((k - 1) / 2) (by omega) (by omega)) (h k (by omega) hk)
theorem Hp.mono {L : List Snd} {n m : Nat} (h : Hp L n) (hm : m ≤ n) : Hp L m := fun k h0 hk => h k h0 (by omega)
theorem gt_take {L : List Snd} {m k : Nat} (h : k < m) : gt (L.take m) k = gt L k := by
  unfold gt
  simp only [List.getD_eq_getElem?_getD, List.getElem?_take, if_pos h]
theorem Hp.take {L : List Snd} {n : Nat} (h : Hp L n) : Hp (L.take n) n := fun k h0 hk => by
  unfold sl
  rw [gt_take hk, gt_take (by omega)]
  exact h k h0 hk

/-- While an element goes down: it is a heap but for i's children. -/
def DI (L : List Snd) (n i : Nat) : Prop :=
  (∀ k, 0 < k → k < n → (k - 1) / 2 ≠ i → sl L ((k - 1) / 2) ≤ sl L k) ∧ (0 < i → ∀ k, 0 < k → k < n → (k - 1) / 2 = i → sl L ((i - 1) / 2) ≤ sl L k)
theorem di_start {L : List Snd} {n : Nat} (h : Hp L (n + 1)) (hl : n + 1 ≤ L.length) : DI (swp L 0 n) n 0 :=
  ⟨fun k h0 hk hp => by
    rw [swp_sl (by omega) (by omega), swp_sl (by omega) (by omega), if_neg (by omega), if_neg (by omega), if_neg (by omega), if_neg (by omega)]
    exact h k h0 (by omega), fun h0 => absurd h0 (Nat.lt_irrefl _)⟩
theorem di_leaf {L : List Snd} {n i : Nat} (h : DI L n i) (hn : n ≤ 2 * i + 1) : Hp L n := fun k h0 hk => h.1 k h0 hk (by omega)
theorem di_stop {L : List Snd} {n i j : Nat} (h : DI L n i) (hj : j = 2 * i + 1 ∨ j = 2 * i + 2) (hjn : j < n) (hmin : ∀ k, 0 < k → k < n → (k - 1) / 2 = i → sl L j ≤ sl L k) (hs : ¬ sl L j < sl L i) : Hp L n := fun k h0 hk => by
  by_cases hp : (k - 1) / 2 = i
  · have := hmin k h0 hk hp
    rw [hp]
    omega
  · exact h.1 k h0 hk hp
theorem di_step {L : List Snd} {n i j : Nat} (h : DI L n i) (hj : j = 2 * i + 1 ∨ j = 2 * i + 2) (hjn : j < n) (hl : n ≤ L.length) (hmin : ∀ k, 0 < k → k < n → (k - 1) / 2 = i → sl L j ≤ sl L k) (hs : sl L j < sl L i) : DI (swp L i j) n j := by
  have hg := swp_sl (L := L) (i := i) (j := j) (by omega) (by omega)
  refine ⟨fun k h0 hk hp => ?_, fun _ k h0 hk hp => ?_⟩
  · rw [hg, hg]
    by_cases h1 : (k - 1) / 2 = i
    · rw [if_neg (by omega), if_pos h1]
      by_cases h2 : k = j
      · rw [if_pos h2]; omega
      · rw [if_neg h2, if_neg (by omega)]
        exact hmin k h0 hk h1
    · rw [if_neg hp, if_neg h1]
      by_cases h2 : k = j
      · omega
      · rw [if_neg h2]
        by_cases h3 : k = i
        · rw [if_pos h3]
          subst h3
          exact h.2 h0 j (by omega) hjn (by omega)
        · rw [if_neg h3]
          exact h.1 k h0 hk h1
  · have e : (j - 1) / 2 = i := by omega
    rw [hg, hg, e, if_neg (by omega), if_pos rfl, if_neg (by omega), if_neg (by omega)]
    rw [← hp]
    exact h.1 k h0 hk (by omega)

/-- While an element goes up: it is a heap but for j and its parent. -/
def UI (L : List Snd) (n j : Nat) : Prop :=
  (∀ k, 0 < k → k < n → k ≠ j → sl L ((k - 1) / 2) ≤ sl L k) ∧ (0 < j → ∀ k, 0 < k → k < n → (k - 1) / 2 = j → sl L ((j - 1) / 2) ≤ sl L k)
theorem gt_app {L : List Snd} {s : Snd} {k : Nat} (h : k < L.length) : gt (L ++ [s]) k = gt L k := by
  unfold gt
  simp only [List.getD_eq_getElem?_getD]
  rw [List.getElem?_append_left h]
theorem ui_start {L : List Snd} {s : Snd} (h : Hp L L.length) : UI (L ++ [s]) (L.length + 1) L.length :=
  ⟨fun k h0 hk hp => by
    unfold sl
    rw [gt_app (by omega), gt_app (by omega)]
    exact h k h0 (by omega), fun h0 k _ hk hp => by omega⟩
theorem ui_top {L : List Snd} {n : Nat} (h : UI L n 0) : Hp L n := fun k h0 hk => h.1 k h0 hk (by omega)
theorem ui_stop {L : List Snd} {n j : Nat} (h : UI L n j) (hs : ¬ sl L j < sl L ((j - 1) / 2)) : Hp L n := fun k h0 hk => by
  by_cases hp : k = j
  · subst hp; omega
  · exact h.1 k h0 hk hp
theorem ui_step {L : List Snd} {n j : Nat} (h : UI L n j) (h0j : 0 < j) (hjn : j < n) (hl : n ≤ L.length) (hs : sl L j < sl L ((j - 1) / 2)) : UI (swp L ((j - 1) / 2) j) n ((j - 1) / 2) := by
  obtain ⟨i, hi⟩ : ∃ i, (j - 1) / 2 = i := ⟨_, rfl⟩
  rw [hi] at hs ⊢
  have hg := swp_sl (L := L) (i := i) (j := j) (by omega) (by omega)
  refine ⟨fun k h0 hk hp => ?_, fun hi0 k h0 hk hp => ?_⟩
  · rw [hg, hg]
    by_cases h2 : k = j
    · subst h2
      rw [if_neg (by omega), if_pos hi, if_pos rfl]
      omega
    · rw [if_neg h2, if_neg hp]
      by_cases h3 : (k - 1) / 2 = j
      · rw [if_pos h3, ← hi]
        exact h.2 h0j k h0 hk h3
      · rw [if_neg h3]
        by_cases h4 : (k - 1) / 2 = i
        · rw [if_pos h4]
          have := h.1 k h0 hk h2
          rw [h4] at this
          omega
        · rw [if_neg h4]
          exact h.1 k h0 hk h2
  · have hii := h.1 i hi0 (by omega) (by omega)
    rw [hg, hg, if_neg (by omega), if_neg (by omega)]
    by_cases h2 : k = j
    · rw [if_pos h2]; exact hii
    · rw [if_neg h2, if_neg (by omega)]
      have := h.1 k h0 hk h2
      rw [hp] at this
      omega
end Go.Proofs.Ytnebmfdjcikegaa
