/-
  What the drawing helpers promise: an int with P, a slice of ints of the call's own with P.
-/
import Derived.Test.YtgkkanamnhochaaDraw
namespace Go.Proofs.Ytgkkanamnhochaa
open Go.RowKit
set_option linter.unusedVariables false

theorem infoD : (Try.prog.info? 3).map (fun i => (i.zero, i.size, i.bytes)) = some (some (.int .i64 0), 1, 8) := by kernel_rfl

/-- The call returned an int with P; the reader has picked at most m times more; nothing else that was there has turned. -/
def DrawI (P : Int → Prop) (m g p : Nat) (w : World) (e : Ending) (w' : World) : Prop :=
  ∃ x : Int, e = .returned (.int .i64 x) ∧ P x ∧ (∃ q, q ≤ p + m ∧ Rd w' g q) ∧ Only g (g + 1) w w'
/-- The call returned a slice of ints of its own, with P. -/
def DrawS (P : List Int → Prop) (m g p : Nat) (w : World) (e : Ending) (w' : World) : Prop :=
  ∃ A n c xs, e = .returned (.slice A n c) ∧ OwnI w' 3 w.heap.size w'.heap.size A n c xs ∧ P xs ∧ (∃ q, q ≤ p + m ∧ Rd w' g q) ∧ Only g (g + 1) w w'
end Go.Proofs.Ytgkkanamnhochaa
