/-
  FROM THE READING OF AN ARGUMENT TO WHAT A WALK IS TOLD: a slice of slices of integers or of bools that came in.
-/
import Derived.Test.YtgccpjhkgkhllaaDoorFrame
import Derived.Test.YtgccpjhkgkhllaaDoorTab
namespace Go.Proofs.YtgccpjhkgkhllaaDoor
open Go.RowKit Go.ChangeShapes Go.WideShapes Go.ChangeAt
set_option linter.unusedVariables false

section
variable {H : Type} {enc : TypeId × Value → H} {P : Program} {w : World} {sp : Nat → Bool} {held : Bool}
theorem open_rowsV {α : Type} {f : α → Value} {t e q : TypeId} {A : Option Addr} {n c : Nat} {d : DataW H} {ps : List MemPlace} (ht : P.underlying t = some (.slice e)) (he : P.underlying e = some (.slice q)) (ce : P.cellsOf e = 1) (cq : P.cellsOf q = 1)
    (elem : ∀ {A : Option Addr} {n c : Nat} {d : DataW H} {ps : List MemPlace}, DataW.Trod enc P w 0 sp held e (.slice A n c) d ps → ∃ zs : List α, RV w w.heap.size A n (zs.map f) ∧ n ≤ c ∧ c ≤ maxLen)
    (h : DataW.Trod enc P w 0 sp held t (.slice A n c) d ps) : ∃ rows : List (List α), RVV w w.heap.size A n (rows.map fun r => r.map f) ∧ n ≤ c ∧ c ≤ maxLen := by
  obtain ⟨fuel, hf⟩ := h
  rcases Deep.open_slice1 ht ce hf with ⟨hcs, _⟩ | ⟨x, l, cap, m, k, V, D, Pl, hcs, _, hl, hm, hmm, _, hx⟩
  · simp [Value.cells] at hcs
    obtain ⟨rfl, rfl, rfl⟩ := hcs
    exact ⟨[], RVV.none_, Nat.le_refl _, by simp⟩
  · simp [Value.cells] at hcs
    obtain ⟨rfl, rfl, rfl⟩ := hcs
    have hz' : n ≤ m := by rw [hmm]; split <;> omega
    obtain ⟨y, hy⟩ := Deep.choose_lt (α := (Option Addr × Nat × Nat) × List α) (p := fun i y => V i = slv y.1 ∧ RV w w.heap.size y.1.1 y.1.2.1 (y.2.map f) ∧ y.1.2.1 ≤ y.1.2.2 ∧ y.1.2.2 ≤ maxLen) (n := m) (fun i hi => by
      have hVi : ∃ A' n' c', V i = .slice A' n' c' := by
        rcases Deep.open_slice1 he cq (hx i hi).2 with ⟨hcs, _⟩ | ⟨x', l', cap', _, _, _, _, _, hcs, _⟩
        · exact ⟨none, 0, 0, by simpa using hcs⟩
        · exact ⟨_, _, _, by simpa using hcs⟩
      obtain ⟨A', n', c', hV⟩ := hVi
      have h2 := (hx i hi).2
      rw [hV] at h2
      obtain ⟨zs, r1, r2, r3⟩ := elem (A := A') (n := n') (c := c') (d := D i) (ps := Pl i) ⟨k, by simpa [Value.cells] using h2⟩
      exact ⟨((A', n', c'), zs), hV, r1, r2, r3⟩)
    refine ⟨(List.range n).map fun i => (y i).2, ⟨(List.range n).map fun i => (y i).1, ?_, by simp, ?_⟩, hl, hm⟩
    · have := rv_of_cells (V := V) hz' (fun i hi => (hx i hi).1)
      have e : ((List.range n).map fun i => (y i).1).map slv = (List.range n).map V := by
        simp only [List.map_map]
        apply List.map_congr_left
        intro i hi
        have := List.mem_range.1 hi
        exact (hy i (by omega)).1.symm
      rw [e]
      exact this
    · intro j dd vs hd hv
      simp only [List.map_map] at hv
      rw [List.getElem?_map] at hd hv
      by_cases hj : j < n
      · rw [List.getElem?_range hj] at hd hv
        simp at hd hv
        subst hd hv
        exact (hy j (by omega)).2
      · rw [List.getElem?_eq_none (by simpa using hj)] at hd
        cases hd
theorem open_rowsI {t e q : TypeId} {A : Option Addr} {n c : Nat} {d : DataW H} {ps : List MemPlace} (ht : P.underlying t = some (.slice e)) (he : P.underlying e = some (.slice q)) (hq : P.underlying q = some (.int .i64)) (ce : P.cellsOf e = 1) (cq : P.cellsOf q = 1)
    (h : DataW.Trod enc P w 0 sp held t (.slice A n c) d ps) : ∃ rows : List (List Int), RII w w.heap.size A n rows ∧ n ≤ c ∧ c ≤ maxLen :=
  open_rowsV ht he ce cq (fun h => by obtain ⟨zs, a, _, b, c⟩ := open_rowI he hq cq h; exact ⟨zs, a, b, c⟩) h
theorem open_rowsT {t e q : TypeId} {A : Option Addr} {n c : Nat} {d : DataW H} {ps : List MemPlace} (ht : P.underlying t = some (.slice e)) (he : P.underlying e = some (.slice q)) (hq : P.underlying q = some .bool) (ce : P.cellsOf e = 1) (cq : P.cellsOf q = 1)
    (h : DataW.Trod enc P w 0 sp held t (.slice A n c) d ps) : ∃ rows : List (List Bool), RTT w w.heap.size A n rows ∧ n ≤ c ∧ c ≤ maxLen :=
  open_rowsV ht he ce cq (fun h => open_rowT he hq cq h) h
end
end Go.Proofs.YtgccpjhkgkhllaaDoor
