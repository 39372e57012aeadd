/-
  The protocols' methods, walked.
-/
import Derived.Test.YtnnapbjaidbkgaaRepB
import Derived.Handy
namespace Go.Proofs.Ytnnapbjaidbkgaa
open Go.RowKit
set_option linter.unusedVariables false

/-- The receiver that accepts in order waits for message nx. -/
def InO (w : World) (g nx : Nat) : Prop := Blk w g 52 #[.int .i64 (nx : Int)]
theorem inAccept_any (g nx m : Nat) (w : World) (h : InO w g nx) (hnx : nx ≤ 1000) (hm : m ≤ 1000) :
    Calls Try.prog 54 #[.pointer (some ⟨g, 0, none⟩), .int .i64 (m : Int)] w fun e w' => e = .returned (.tuple #[]) ∧ InO w' g (if nx = m then m + 1 else nx) ∧ Only g (g + 1) w w' ∧ w'.heap.size = w.heap.size := by
  have c0 : w.cell? ⟨g, 0, none⟩ = some (.int .i64 (nx : Int)) := by rw [Blk.cell h]; rfl
  have f0 : w.frozen? ⟨g, 0, none⟩ = false := Blk.frozen h 0
  have hlt := Blk.lt h
  by_cases hq : nx = m
  · subst hq
    have hqq : ((nx : Int) == (nx : Int)) = true := by simp
    have hb := Blk.set_ h 0 (.int .i64 (((nx + 1 : Nat)) : Int))
    have ho := Only.setCell (p := ⟨g, 0, none⟩) (Only.refl g (g + 1) w) (Nat.le_refl _) (Nat.lt_succ_self _) (.int .i64 (((nx + 1 : Nat)) : Int))
    rw [show (((nx + 1 : Nat)) : Int) = (nx : Int) + 1 by omega] at hb ho
    have HB := hid (And.intro hb ho)
    clear hb ho
    go_enter Try.func54, Try.ntmps54
    go_wp2
    go_returns
    refine ⟨rfl, ?_, HB.out.2, by simp [World.setCell]⟩
    have := HB.out.1
    unfold InO
    rw [show (((nx + 1 : Nat)) : Int) = (nx : Int) + 1 by omega]
    simpa using this
  · have hqq : ((m : Int) == (nx : Int)) = false := by simp; omega
    have HH := hid h
    clear h
    go_enter Try.func54, Try.ntmps54
    go_wp2
    go_returns
    exact ⟨rfl, HH.out, Only.refl _ _ _, rfl⟩
theorem inAccepted_any (g nx m : Nat) (w : World) (h : InO w g nx) (hnx : nx ≤ 1000) (hm : m ≤ 1000) :
    Calls Try.prog 55 #[.pointer (some ⟨g, 0, none⟩), .int .i64 (m : Int)] w fun e w' => e = .returned (.bool (decide (m < nx))) ∧ w = w' := by
  have c0 : w.cell? ⟨g, 0, none⟩ = some (.int .i64 (nx : Int)) := by rw [Blk.cell h]; rfl
  go_enter Try.func55, Try.ntmps55
  go_wp2
  go_ret
  exact ⟨ret_bool (by simp), rfl⟩
def AnO (w : World) (g : Nat) (d : Nat → Bool) : Prop := Blk w g 57 ((List.range 30).map fun j => Value.bool (d j)).toArray
theorem anyAccepted_any (g m : Nat) (d : Nat → Bool) (w : World) (h : AnO w g d) (hm : m < 30) :
    Calls Try.prog 57 #[.pointer (some ⟨g, 0, none⟩), .int .i64 (m : Int)] w fun e w' => e = .returned (.bool (d m)) ∧ w = w' := by
  have c0 : w.cell? ⟨g, m, none⟩ = some (.bool (d m)) := by rw [Blk.cell h]; simp [hm]
  go_enter Try.func57, Try.ntmps57
  go_wp2
  go_ret
  exact ⟨rfl, rfl⟩
theorem anyAccept_any (g m : Nat) (d : Nat → Bool) (w : World) (h : AnO w g d) (hm : m < 30) :
    Calls Try.prog 56 #[.pointer (some ⟨g, 0, none⟩), .int .i64 (m : Int)] w fun e w' => e = .returned (.tuple #[]) ∧ AnO w' g (updB d m true) ∧ Only g (g + 1) w w' ∧ w'.heap.size = w.heap.size := by
  have c0 : w.cell? ⟨g, m, none⟩ = some (.bool (d m)) := by rw [Blk.cell h]; simp [hm]
  have f0 : w.frozen? ⟨g, m, none⟩ = false := Blk.frozen h m
  have hb := Blk.set_ h m (.bool true)
  have ho := Only.setCell (p := ⟨g, m, none⟩) (Only.refl g (g + 1) w) (Nat.le_refl _) (Nat.lt_succ_self _) (.bool true)
  have HB := hid (And.intro hb ho)
  clear hb ho
  go_enter Try.func56, Try.ntmps56
  go_wp2
  go_returns
  refine ⟨rfl, ?_, HB.out.2, by simp [World.setCell]⟩
  have := HB.out.1
  unfold AnO
  have e : ((List.range 30).map fun j => Value.bool (updB d m true j)).toArray = (((List.range 30).map fun j => Value.bool (d j)).toArray).setIfInBounds m (.bool true) := by
    apply Array.ext
    · simp
    · intro i h1 h2
      simp [updB]
      by_cases hi : i = m
      · subst hi; simp
      · have hi' : ¬ m = i := fun e => hi e.symm
        simp [hi, hi']
  rw [e]
  exact this
end Go.Proofs.Ytnnapbjaidbkgaa
