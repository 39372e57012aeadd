/-
  FROM THE READING OF AN ARGUMENT TO WHAT A WALK IS TOLD: links that came in by value.
-/
import Derived.Test.YtajnpmnedghckaaFrameT
import Derived.Lib.SmallJoins
namespace Go.Proofs.Ytajnpmnedghckaa
open Go.RowKit Go.ChangeShapes Go.WideShapes Go.ChangeAt Go.Joins Go.Deep
set_option linter.unusedVariables false

section
variable {H : Type} {enc : TypeId × Value → H} {P : Program} {w : World} {sp : Nat → Bool} {held : Bool}
theorem open_links {r : Reach} {b0 : Nat} {t e q : TypeId} {f0 f1 f2 : Field} {v : Value} {d : DataW H} {p : List MemPlace} (hs : P.underlying t = some (.struct #[f0, f1, f2])) (hone : oneCellFields P #[f0, f1, f2] = true) (hC : P.cellsOf t = 3)
    (h0 : P.underlying f0.type = some (.slice e)) (he : P.underlying e = some (.slice q)) (hq : P.underlying q = some (.int .i64)) (h1 : P.underlying f1.type = some (.int .i64)) (h2 : P.underlying f2.type = some (.int .i64)) (ce : P.cellsOf e = 1) (cq : P.cellsOf q = 1)
    (hv : Value.okWide P w r b0 t v) (h : DataW.Trod enc P w 0 sp held t v d p) :
    ∃ (A : Option Addr) (n c : Nat) (N G : Int) (rows : List (List Int)), v = .agg #[.slice A n c, .int .i64 N, .int .i64 G] ∧ RII w w.heap.size A n rows ∧ n ≤ c ∧ c ≤ maxLen := by
  obtain ⟨v0, v1, v2, y0, y1, y2, m, rfl, _, _, t0, t1, t2⟩ := open_agg3 hs hone hC hv h
  have e0 : ∃ A n c, v0 = .slice A n c := by
    rcases Deep.open_slice1 h0 ce t0 with ⟨hcs, _⟩ | ⟨x', l', cap', _, _, _, _, _, hcs, _⟩
    · exact ⟨none, 0, 0, by simpa using hcs⟩
    · exact ⟨_, _, _, by simpa using hcs⟩
  obtain ⟨A, n, c, rfl⟩ := e0
  have e1 : ∃ N, v1 = .int .i64 N := by
    obtain ⟨N, hN, _⟩ := DataW.trod_int h1 t1
    exact ⟨N, by simpa using hN⟩
  have e2 : ∃ N, v2 = .int .i64 N := by
    obtain ⟨N, hN, _⟩ := DataW.trod_int h2 t2
    exact ⟨N, by simpa using hN⟩
  obtain ⟨N, rfl⟩ := e1
  obtain ⟨G, rfl⟩ := e2
  obtain ⟨rows, hr, hl, hm⟩ := open_rowsI (P := P) (A := A) (n := n) (c := c) (d := y0.1) (ps := y0.2) h0 he hq ce cq ⟨m, by simpa [Value.cells] using t0⟩
  exact ⟨A, n, c, N, G, rows, rfl, hr, hl, hm⟩
end
end Go.Proofs.Ytajnpmnedghckaa
