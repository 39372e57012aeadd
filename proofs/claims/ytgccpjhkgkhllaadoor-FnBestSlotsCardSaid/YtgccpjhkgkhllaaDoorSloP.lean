/-
  SLOTS, PLAIN: greedy slots, the search, the best slots. No program in sight.
-/
import Derived.Test.YtgccpjhkgkhllaaDoorSloA
namespace Go.Proofs.YtgccpjhkgkhllaaDoor
open Go.RowKit
set_option linter.unusedVariables false

/-- Has an earlier station in conflict with i the slot s? -/
def usedB (rows : List (List Bool)) (ss : List Nat) (i s : Nat) : Bool := (List.range ss.length).any fun j => cf rows i j && (ss.getD j 0 == s)
section
variable {rows : List (List Bool)} {ss : List Nat} {i s n : Nat}
theorem usedB_iff : usedB rows ss i s = true ↔ ∃ j, j < ss.length ∧ cf rows i j = true ∧ ss.getD j 0 = s := by
  unfold usedB
  simp only [List.any_eq_true, List.mem_range, Bool.and_eq_true, beq_iff_eq]
theorem usedB_no : usedB rows ss i s = false ↔ ∀ j, j < ss.length → cf rows i j = true → ss.getD j 0 ≠ s := by
  rw [← Bool.not_eq_true, usedB_iff]
  constructor
  · intro h j hj hc he; exact h ⟨j, hj, hc, he⟩
  · rintro h ⟨j, hj, hc, he⟩; exact h j hj hc he
theorem pigeon : ∀ (m : Nat) (l : List Nat), (∀ s, s < m → s ∈ l) → m ≤ l.length
  | 0, _, _ => Nat.zero_le _
  | m + 1, l, h => by
    have hm := h m (by omega)
    have := pigeon m (l.erase m) (fun s hs => (List.mem_erase_of_ne (by omega)).2 (h s (by omega)))
    rw [List.length_erase_of_mem hm] at this
    have := List.length_pos_of_mem hm
    omega
theorem pigeon_inj : ∀ (m : Nat) (l : List Nat), (∀ x ∈ l, x < m) → l.Nodup → l.length ≤ m
  | 0, l, h, _ => by
    cases l with
    | nil => simp
    | cons x l => have := h x (by simp); omega
  | m + 1, l, h, hd => by
    by_cases hm : m ∈ l
    · have := pigeon_inj m (l.erase m) (fun x hx => by
        have h1 := h x (List.mem_of_mem_erase hx)
        have h2 : x ≠ m := fun e => by subst e; exact (List.Nodup.not_mem_erase hd) hx
        omega) (hd.erase m)
      rw [List.length_erase_of_mem hm] at this
      omega
    · have := pigeon_inj m l (fun x hx => by
        have h1 := h x hx
        have h2 : x ≠ m := fun e => by subst e; exact hm hx
        omega) hd
      omega
theorem free_exists (rows : List (List Bool)) (ss : List Nat) (i : Nat) : ∃ s, s ≤ ss.length ∧ usedB rows ss i s = false := by
  refine Classical.byContradiction fun hn => ?_
  have := pigeon (ss.length + 1) ss (fun s hs => by
    have : usedB rows ss i s = true := by
      cases h : usedB rows ss i s with
      | true => rfl
      | false => exact absurd ⟨s, by omega, h⟩ hn
    obtain ⟨j, hj, _, he⟩ := usedB_iff.1 this
    rw [← he, List.getD_eq_getElem?_getD, List.getElem?_eq_getElem hj]
    exact List.getElem_mem _)
  omega
/-- The smallest slot that station i may have after the slots ss. -/
def freeS (rows : List (List Bool)) (ss : List Nat) (i : Nat) : Nat := ((List.range (ss.length + 1)).find? fun s => !usedB rows ss i s).getD 0
theorem least_of {p : Nat → Bool} : ∀ (m : Nat), (∃ s, s ≤ m ∧ p s = true) → ∃ s, s ≤ m ∧ p s = true ∧ ∀ u, u < s → p u = false
  | 0, ⟨s, hs, hp⟩ => ⟨s, hs, hp, fun u hu => by omega⟩
  | m + 1, ⟨s, hs, hp⟩ => by
    by_cases h : ∃ s, s ≤ m ∧ p s = true
    · obtain ⟨t, ht, h1, h2⟩ := least_of m h
      exact ⟨t, by omega, h1, h2⟩
    · refine ⟨s, hs, hp, fun u hu => ?_⟩
      cases hq : p u with
      | false => rfl
      | true => exact absurd ⟨u, by omega, hq⟩ h
theorem freeS_spec (rows : List (List Bool)) (ss : List Nat) (i : Nat) : freeS rows ss i ≤ ss.length ∧ usedB rows ss i (freeS rows ss i) = false ∧ ∀ u, u < freeS rows ss i → usedB rows ss i u = true := by
  obtain ⟨s, hs, hp⟩ := free_exists rows ss i
  obtain ⟨t, ht, h1, h2⟩ := least_of (p := fun s => !usedB rows ss i s) ss.length ⟨s, hs, by simp [hp]⟩
  have e : freeS rows ss i = t := by
    unfold freeS
    rw [(List.find?_range_eq_some (p := fun s => !usedB rows ss i s)).2 ⟨h1, List.mem_range.2 (by omega), fun j hj => by simp [h2 j hj]⟩]
    rfl
  rw [e]
  refine ⟨ht, by simpa using h1, fun u hu => by simpa using h2 u hu⟩
def greedyL (rows : List (List Bool)) : Nat → List Nat
  | 0 => []
  | i + 1 => greedyL rows i ++ [freeS rows (greedyL rows i) i]
theorem greedy_len (rows : List (List Bool)) : ∀ k, (greedyL rows k).length = k
  | 0 => rfl
  | k + 1 => by rw [greedyL, List.length_append, greedy_len rows k]; rfl
/-- The first complete list that goes on from ss with slots below most: d stations are left. -/
def search (rows : List (List Bool)) (most : Nat) : Nat → List Nat → Option (List Nat)
  | 0, ss => some ss
  | d + 1, ss => (List.range most).findSome? fun s => if usedB rows ss ss.length s then none else search rows most d (ss ++ [s])
theorem search_len {most : Nat} : ∀ (d : Nat) (ss : List Nat) {xs : List Nat}, search rows most d ss = some xs → xs.length = ss.length + d
  | 0, ss, xs, h => by rw [search] at h; injection h with h; subst h; rfl
  | d + 1, ss, xs, h => by
    rw [search, List.findSome?_eq_some_iff] at h
    obtain ⟨_, s, _, _, h, _⟩ := h
    split at h
    · cases h
    · have := search_len d _ h
      rw [List.length_append] at this
      simp at this
      omega
/-- Slots of the first stations, all below most, none that are in conflict equal. -/
def Col (rows : List (List Bool)) (most : Nat) (xs : List Nat) : Prop := (∀ i, i < xs.length → xs.getD i 0 < most) ∧ ∀ i j, i < xs.length → j < i → cf rows i j = true → xs.getD i 0 ≠ xs.getD j 0
theorem getD_snoc {xs : List Nat} {x i : Nat} : (xs ++ [x]).getD i 0 = if i < xs.length then xs.getD i 0 else if i = xs.length then x else 0 := by
  simp only [List.getD_eq_getElem?_getD]
  by_cases h : i < xs.length
  · rw [List.getElem?_append_left h, if_pos h]
  · rw [List.getElem?_append_right (by omega), if_neg h]
    by_cases h2 : i = xs.length
    · subst h2; simp
    · rw [if_neg h2, List.getElem?_eq_none (by simp; omega)]; rfl
theorem col_snoc {most x : Nat} {xs : List Nat} (h : Col rows most xs) (hx : x < most) (hf : usedB rows xs xs.length x = false) : Col rows most (xs ++ [x]) := by
  refine ⟨fun i hi => ?_, fun i j hi hj hc => ?_⟩
  · rw [List.length_append] at hi
    simp at hi
    rw [getD_snoc]
    by_cases h2 : i < xs.length
    · rw [if_pos h2]; exact h.1 i h2
    · rw [if_neg h2, if_pos (by omega)]; exact hx
  · rw [List.length_append] at hi
    simp at hi
    rw [getD_snoc, getD_snoc]
    by_cases h2 : i < xs.length
    · rw [if_pos h2, if_pos (by omega)]; exact h.2 i j h2 hj hc
    · have hi' : i = xs.length := by omega
      subst hi'
      rw [if_neg (by omega), if_pos rfl, if_pos hj]
      exact fun e => usedB_no.1 hf j hj hc e.symm
theorem search_sound {most : Nat} : ∀ (d : Nat) (ss : List Nat) {xs : List Nat}, Col rows most ss → search rows most d ss = some xs → Col rows most xs
  | 0, ss, xs, hc, h => by rw [search] at h; injection h with h; subst h; exact hc
  | d + 1, ss, xs, hc, h => by
    rw [search, List.findSome?_eq_some_iff] at h
    obtain ⟨l1, s, l2, hl, h, _⟩ := h
    have hs : s < most := List.mem_range.1 (by rw [hl]; simp)
    split at h
    · cases h
    · rename_i hu
      exact search_sound d _ (col_snoc hc hs (by simpa using hu)) h
theorem getD_take {xs : List Nat} {k i : Nat} (h : i < k) : (xs.take k).getD i 0 = xs.getD i 0 := by
  simp only [List.getD_eq_getElem?_getD, List.getElem?_take, if_pos h]
/-- If slots of all stations go on from ss, the search finds some. -/
theorem search_complete {most : Nat} {xs : List Nat} (hc : Col rows most xs) : ∀ (d k : Nat), xs.length = k + d → search rows most d (xs.take k) ≠ none
  | 0, k, hk => by rw [search]; simp
  | d + 1, k, hk => by
    rw [search]
    intro h
    rw [List.findSome?_eq_none_iff] at h
    have hl : (xs.take k).length = k := by rw [List.length_take]; omega
    have hkx : k < xs.length := by omega
    have := h (xs.getD k 0) (List.mem_range.2 (hc.1 k hkx))
    have hu : usedB rows (xs.take k) (xs.take k).length (xs.getD k 0) = false := usedB_no.2 fun j hj hcf => by
      rw [hl] at hj hcf
      rw [getD_take hj]
      exact fun e => hc.2 k j hkx hj hcf e.symm
    rw [hu, if_neg (by simp)] at this
    have e : xs.take k ++ [xs.getD k 0] = xs.take (k + 1) := by
      rw [List.take_add_one, List.getD_eq_getElem?_getD, List.getElem?_eq_getElem hkx]; rfl
    rw [e] at this
    exact search_complete hc d (k + 1) (by omega) this
theorem greedy_col : ∀ k, Col rows k (greedyL rows k)
  | 0 => ⟨fun i hi => by simp [greedyL] at hi, fun i j hi => by simp [greedyL] at hi⟩
  | k + 1 => by
    obtain ⟨h1, h2, _⟩ := freeS_spec rows (greedyL rows k) k
    rw [greedy_len] at h1
    have ih := greedy_col k
    rw [greedyL]
    refine col_snoc ⟨fun i hi => Nat.lt_succ_of_lt (ih.1 i hi), ih.2⟩ (by omega) ?_
    rw [greedy_len]
    exact h2
/-- With as many slots as stations the search succeeds. -/
theorem search_all (rows : List (List Bool)) (n : Nat) : search rows n n [] ≠ none := by
  have := search_complete (greedy_col (rows := rows) n) n 0 (by rw [greedy_len]; omega)
  simpa using this
/-- The smallest number of slots, and the slots. -/
def bestM (rows : List (List Bool)) : Nat := ((List.range (rows.length + 1)).find? fun m => (search rows m rows.length []).isSome).getD 0
def bestL (rows : List (List Bool)) : List Nat := (search rows (bestM rows) rows.length []).getD []
theorem bestM_spec (rows : List (List Bool)) : bestM rows ≤ rows.length ∧ search rows (bestM rows) rows.length [] = some (bestL rows) ∧ ∀ u, u < bestM rows → search rows u rows.length [] = none := by
  have h := search_all rows rows.length
  obtain ⟨t, ht, h1, h2⟩ := least_of (p := fun m => (search rows m rows.length []).isSome) rows.length ⟨rows.length, Nat.le_refl _, by
    cases hs : search rows rows.length rows.length [] with
    | none => exact absurd hs h
    | some x => rfl⟩
  have e : bestM rows = t := by
    unfold bestM
    rw [(List.find?_range_eq_some (p := fun m => (search rows m rows.length []).isSome)).2 ⟨h1, List.mem_range.2 (by omega), fun j hj => by simp [h2 j hj]⟩]
    rfl
  unfold bestL
  rw [e]
  refine ⟨ht, ?_, fun u hu => by simpa using h2 u hu⟩
  obtain ⟨x, hx⟩ := Option.isSome_iff_exists.1 h1
  rw [hx]; rfl
theorem best_len (rows : List (List Bool)) : (bestL rows).length = rows.length := by
  have := search_len _ _ (bestM_spec rows).2.1
  simpa using this
theorem col_nil : Col rows n [] := ⟨fun i hi => by simp at hi, fun i j hi => by simp at hi⟩
theorem best_col (rows : List (List Bool)) : Col rows (bestM rows) (bestL rows) := search_sound _ _ col_nil (bestM_spec rows).2.1
/-- No slots need fewer. -/
theorem best_least {m : Nat} {xs : List Nat} (h : Col rows m xs) (hl : xs.length = rows.length) : bestM rows ≤ m := by
  refine Nat.not_lt.1 fun hlt => ?_
  have := search_complete h rows.length 0 (by omega)
  simp at this
  exact this ((bestM_spec rows).2.2 m hlt)
/-- One more than the greatest slot. -/
def mostS : List Nat → Nat
  | [] => 0
  | x :: l => max (x + 1) (mostS l)
theorem mostS_le {m : Nat} : ∀ {xs : List Nat}, (∀ i, i < xs.length → xs.getD i 0 < m) → mostS xs ≤ m
  | [], _ => Nat.zero_le _
  | x :: l, h => by
    rw [mostS]
    have h0 := h 0 (by simp)
    have := mostS_le (xs := l) (m := m) (fun i hi => by have := h (i + 1) (by simpa using hi); simpa using this)
    have h0' : x < m := by simpa using h0
    omega
theorem lt_mostS : ∀ {xs : List Nat} {i : Nat}, i < xs.length → xs.getD i 0 < mostS xs
  | x :: l, 0, _ => by rw [mostS]; simp; omega
  | x :: l, i + 1, h => by
    rw [mostS]
    have := lt_mostS (xs := l) (i := i) (by simpa using h)
    simp only [List.getD_cons_succ]
    omega
theorem best_most (rows : List (List Bool)) : mostS (bestL rows) = bestM rows := by
  have h1 := mostS_le (best_col rows).1
  have h2 := best_least (m := mostS (bestL rows)) ⟨fun i hi => lt_mostS hi, (best_col rows).2⟩ (best_len rows)
  omega
/-- A set of stations that are all in conflict with each other needs as many slots. -/
theorem group_le {m : Nat} {xs : List Nat} (h : Col rows m xs) (hl : xs.length = rows.length) (g : List Nat) (hg : ∀ i ∈ g, i < rows.length) (hd : g.Pairwise (fun a b => cf rows a b = true ∧ b < a)) : g.length ≤ m := by
  have := pigeon_inj m (g.map fun i => xs.getD i 0) (fun x hx => by
    obtain ⟨i, hi, rfl⟩ := List.mem_map.1 hx
    exact h.1 i (by rw [hl]; exact hg i hi)) (by
    rw [List.nodup_iff_pairwise_ne, List.pairwise_map]
    exact hd.imp_of_mem fun {a b} ha hb hab => h.2 a b (by rw [hl]; exact hg a ha) hab.2 hab.1)
  simpa using this
end
end Go.Proofs.YtgccpjhkgkhllaaDoor
