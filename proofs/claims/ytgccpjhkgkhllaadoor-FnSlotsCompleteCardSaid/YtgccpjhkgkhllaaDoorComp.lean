/-
  The table in which all stations are in conflict: its greedy slots and its best slots are 0, 1, 2 and so on; its greatest group has all stations.
-/
import Derived.Test.YtgccpjhkgkhllaaDoorSloY
import Derived.Test.YtgccpjhkgkhllaaDoorSloQ
namespace Go.Proofs.YtgccpjhkgkhllaaDoor
open Go.RowKit
set_option linter.unusedVariables false

def compR (n i : Nat) : List Bool := (List.range n).map fun (t : Nat) => ((t : Int) != (i : Int))
def compT (n : Nat) : List (List Bool) := (List.range n).map (compR n)
theorem compT_len (n : Nat) : (compT n).length = n := by simp [compT]
theorem compT_cf {n i j : Nat} (hi : i < n) (hj : j < n) : cf (compT n) i j = ((j : Int) != (i : Int)) := by
  unfold cf compT compR
  simp [List.getD_eq_getElem?_getD, hi, hj]
theorem compT_ok {n : Nat} (h : n ≤ 7) : ConfOk (compT n) := by
  refine ⟨by rw [compT_len]; omega, fun i r hr => ?_, fun i j hi hj => ?_⟩
  · rw [compT_len]
    unfold compT at hr
    rw [List.getElem?_map] at hr
    cases hx : (List.range n)[i]? with
    | none => rw [hx] at hr; simp at hr
    | some q => rw [hx] at hr; simp at hr; subst hr; simp [compR]
  · rw [compT_len] at hi hj
    refine ⟨?_, fun e => ?_⟩
    · rw [compT_cf hi hj, compT_cf hj hi]
      by_cases h : (i : Int) = (j : Int)
      · rw [h]
      · have h1 : ((j : Int) != (i : Int)) = true := by simp; omega
        have h2 : ((i : Int) != (j : Int)) = true := by simp; omega
        rw [h1, h2]
    · subst e; rw [compT_cf hi hi]; simp
theorem comp_greedy8 : ∀ n : Fin 8, greedyL (compT n.val) n.val = List.range n.val := by decide +kernel
theorem comp_best8 : ∀ n : Fin 8, bestL (compT n.val) = List.range n.val := by decide +kernel
theorem comp_group8 : ∀ n : Fin 8, bestX (compT n.val) n.val (2 ^ n.val) = n.val := by decide +kernel
theorem comp_greedy {n : Nat} (h : n ≤ 7) : greedyI (compT n) = castL (List.range n) := by
  rw [greedyI_yes (compT_ok h), compT_len, comp_greedy8 ⟨n, by omega⟩]
theorem comp_best {n : Nat} (h : n ≤ 7) : bestI (compT n) = castL (List.range n) := by
  rw [bestI_yes (compT_ok h) (by rw [compT_len]; exact h), comp_best8 ⟨n, by omega⟩]
theorem comp_group {n : Nat} (h : n ≤ 7) : groupZ (compT n) = (n : Int) := by
  rw [groupZ_best (compT_ok h) (compT_len n), comp_group8 ⟨n, by omega⟩]
end Go.Proofs.YtgccpjhkgkhllaaDoor
