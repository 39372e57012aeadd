/-
  A value that is a slice of ints, as a fact that stands in all later worlds.
-/
import Derived.Test.YtdcljfpgjifijaaProg
import Derived.Test.YtdcljfpgjifijaaBase
namespace Go.Proofs.Ytdcljfpgjifijaa
open Go.RowKit
set_option linter.unusedVariables false

/-- v is a slice that reads as xs. -/
def IsI (w : World) (v : Value) (xs : List Int) : Prop := ∃ A n c, v = .slice A n c ∧ RI w w.heap.size A n xs
theorem IsI.below {w w' : World} {v : Value} {xs : List Int} (h : IsI w v xs) (hb : Below w.heap.size w w') : IsI w' v xs := by
  obtain ⟨A, n, c, e, r⟩ := h
  exact ⟨A, n, c, e, RV.next r hb⟩
theorem isI_call {P : Program} {f : FuncId} {args : Array Value} {w : World} {t : TypeId} {xs ys : List Int} (he : xs = ys) (h : Calls P f args w fun e w' => RetI t w e w' xs) :
    Calls P f args w fun e w' => ∃ v, e = .returned v ∧ IsI w' v ys ∧ Below w.heap.size w w' := by
  subst he
  refine h.mono ?_
  rintro e w' ⟨A, n, c, rfl, o, hb⟩
  exact ⟨_, rfl, ⟨A, n, c, rfl, OwnI.ri o⟩, hb⟩
theorem isI_made (w : World) (t : TypeId) (n : Nat) (hn : n ≤ maxLen) : IsI (w.alloc (.cells (madeCells #[.int .i64 0] n) t)) (.slice (some ⟨w.heap.size, 0, none⟩) n n) (List.replicate n 0) :=
  ⟨_, n, n, rfl, OwnI.ri (ownV_blk (blk_made w t n (0 : Int) rfl) (Nat.zero_le _) (by simp) (by simp) hn)⟩
end Go.Proofs.Ytdcljfpgjifijaa
