/-
  FROM THE ROW's CONDITION ON THE LIBRARY's TABLES TO WHAT A WALK IS TOLD; a world that meets the condition.
-/
import Derived.Test.YtgccpjhkgkhllaaDoorRows
import Derived.Test.YtgccpjhkgkhllaaDoorTz
import Derived.ProofKit
import Derived.LaidMore
import Derived.LaidHandle
import Derived.MakeChecks
import Derived.Lib.LaidTab
import Derived.Stop.LaidErr
namespace Go.Proofs.YtgccpjhkgkhllaaDoor
open Go.ChangeShapes Go.WideShapes Go.ChangeAt Go.RowKit
set_option linter.unusedVariables false

/-- What every row of this seat lists. -/
abbrev laidTwo : List (String × DataW Unit) := [("math/bits.deBruijn32tab", Rows.laid_math_bits_deBruijn32tab), ("math/bits.deBruijn64tab", Rows.laid_math_bits_deBruijn64tab)]
theorem tabN : Tryd.prog.globalNamed "math/bits.deBruijn64tab" = some 1 := by kernel_rfl
theorem tabT : (Tryd.prog.globals[1]?).map (·.type) = some 64 := by kernel_rfl
theorem tabE : Tryd.prog.cellsOf 5 = 1 := by kernel_rfl
theorem tabC : Tryd.prog.cellsOf 64 = 64 := by kernel_rfl
theorem tabD : (Rows.laid_math_bits_deBruijn64tab : DataW Unit) = Lib.tabData .u8 (Lib.deBruijn64tab.map Int.ofNat) := by kernel_rfl
theorem tab_of_laid {W : World} (h : laidMetH Tryd.prog laidTwo W) : TabW W := by
  rw [MakeChecks.laidMetH_plain _ _ _ (by kernel_rfl)] at h
  have h2 := laidMet.tail h
  rw [tabD] at h2
  have hT := Lib.tabIs_of_head tabN tabT Tryd.underlying64 Tryd.underlying5 tabE tabC h2
  intro j hj
  have hl : Lib.deBruijn64tab.length = 64 := by decide
  rw [hT.cell tabN j (by rw [List.length_map, hl]; exact hj)]
  simp [List.getD_eq_getElem?_getD, hl, hj]
theorem door_met (os : Os) (args : Array Value) : laidMetH Tryd.prog laidTwo ((World.doorLaid Tryd.prog 400 os).forCall (fun _ _ => 0) ⟨#[], args, []⟩).memory :=
  laidMetH_of_parts3 (fuel := 8) (laidMet_of_run' 8 (by kernel_rfl) (by kernel_rfl)) (by kernel_rfl) (by kernel_rfl)
end Go.Proofs.YtgccpjhkgkhllaaDoor
