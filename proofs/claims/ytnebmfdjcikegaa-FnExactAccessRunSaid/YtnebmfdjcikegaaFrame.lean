/-
  FROM THE READING OF AN ARGUMENT TO WHAT A WALK IS TOLD: a slice of integers or of bools that came in.
-/
import Derived.Test.YtnebmfdjcikegaaBase
import Derived.ProofKit
import Derived.OpenShut
import Derived.ChangeOld
import Derived.Deep.Slices
namespace Go.Proofs.Ytnebmfdjcikegaa
open Go.RowKit Go.ChangeShapes Go.WideShapes Go.ChangeAt
set_option linter.unusedVariables false

section
variable {H : Type} {enc : TypeId × Value → H} {P : Program} {w : World} {sp : Nat → Bool} {held : Bool}
theorem rv_of_cells {x : Addr} {n m : Nat} {V : Nat → Value} (hm : n ≤ m) (hc : ∀ i, i < m → w.cell? (x.add i) = some (V i)) : RV w w.heap.size (some x) n ((List.range n).map V) := by
  refine ⟨by simp, fun hn => ?_⟩
  obtain ⟨b, o, spot⟩ := x
  have h0 := hc 0 (by omega)
  have hspot : spot = none := by
    have := World.cell?_spot h0
    simpa [Addr.add] using this
  subst hspot
  have hadd : ∀ i, (⟨b, o, none⟩ : Addr).add i = ⟨b, o + i, none⟩ := by intro i; unfold Addr.add; split <;> simp_all
  refine ⟨b, o, rfl, ?_, fun j u hu => ?_⟩
  · rw [hadd] at h0
    exact World.block_lt_of_cell? w _ h0
  · have hj : j < n := by
      rcases Nat.lt_or_ge j n with h | h
      · exact h
      · rw [List.getElem?_eq_none (by simpa using h)] at hu; cases hu
    have := hc j (by omega)
    rw [hadd] at this
    rw [this, ← hu]
    simp [hj]
theorem open_rowI {t e : TypeId} {k : IntKind} {A : Option Addr} {n c : Nat} {d : DataW H} {ps : List MemPlace} (ht : P.underlying t = some (.slice e)) (he : P.underlying e = some (.int k)) (hc : P.cellsOf e = 1)
    (h : DataW.Trod enc P w 0 sp held t (.slice A n c) d ps) : ∃ zs : List Int, RV w w.heap.size A n (zs.map (Value.int k)) ∧ (∀ x ∈ zs, (Lit.int k x).wf = true) ∧ n ≤ c ∧ c ≤ maxLen := by
  obtain ⟨fuel, hf⟩ := h
  rcases open_ints ht he hc hf with ⟨hcs, _⟩ | ⟨x, l, cap, zs, hcs, _, hl, hm, hz, _, hcell, hwz⟩
  · simp [Value.cells] at hcs
    obtain ⟨rfl, rfl, rfl⟩ := hcs
    exact ⟨[], RV.none_, by simp, Nat.le_refl _, by simp⟩
  · simp [Value.cells] at hcs
    obtain ⟨rfl, rfl, rfl⟩ := hcs
    have hz' : n ≤ zs.length := by rw [hz]; split <;> omega
    refine ⟨zs.take n, ?_, fun x hx => hwz x (List.mem_of_mem_take hx), hl, hm⟩
    have e : (zs.take n).map (Value.int k) = (List.range n).map fun i => Value.int k (zs.getD i 0) := by
      apply List.ext_getElem?
      intro i
      by_cases hi : i < n
      · have hi' : i < zs.length := by omega
        simp [hi, hi']
      · simp [hi]
        omega
    rw [e]
    exact rv_of_cells hz' hcell
theorem open_rowT {t e : TypeId} {A : Option Addr} {n c : Nat} {d : DataW H} {ps : List MemPlace} (ht : P.underlying t = some (.slice e)) (he : P.underlying e = some .bool) (hc : P.cellsOf e = 1)
    (h : DataW.Trod enc P w 0 sp held t (.slice A n c) d ps) : ∃ zs : List Bool, RT w w.heap.size A n zs ∧ n ≤ c ∧ c ≤ maxLen := by
  obtain ⟨fuel, hf⟩ := h
  rcases Deep.open_slice1 ht hc hf with ⟨hcs, _⟩ | ⟨x, l, cap, m, k, V, D, Pl, hcs, _, hl, hm, hmm, _, hx⟩
  · simp [Value.cells] at hcs
    obtain ⟨rfl, rfl, rfl⟩ := hcs
    exact ⟨[], RV.none_, Nat.le_refl _, by simp⟩
  · simp [Value.cells] at hcs
    obtain ⟨rfl, rfl, rfl⟩ := hcs
    have hz' : n ≤ m := by rw [hmm]; split <;> omega
    obtain ⟨f, hf⟩ := Deep.choose_lt (α := Bool) (p := fun i b => V i = .bool b) (n := m) (fun i hi => by
      obtain ⟨b, hb, _⟩ := DataW.trod_bool he (hx i hi).2
      exact ⟨b, by injection hb⟩)
    refine ⟨(List.range n).map f, ?_, hl, hm⟩
    have := rv_of_cells (V := V) hz' (fun i hi => (hx i hi).1)
    unfold RT
    have e : ((List.range n).map f).map Value.bool = (List.range n).map V := by
      simp only [List.map_map]
      apply List.map_congr_left
      intro i hi
      have := List.mem_range.1 hi
      exact (hf i (by omega)).symm
    rw [e]
    exact this
end
end Go.Proofs.Ytnebmfdjcikegaa
