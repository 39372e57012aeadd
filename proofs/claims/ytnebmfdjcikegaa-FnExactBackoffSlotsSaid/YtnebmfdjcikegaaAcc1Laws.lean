/-
  FnExactNextSeed and FnExactBackoffSlots, walked: the program's function returns what the reference's returns.
-/
import Derived.Test.YtnebmfdjcikegaaAcc1
namespace Go.Proofs.Ytnebmfdjcikegaa
open Go.RowKit

theorem fnExactNextSeed_walk (a0 : Int) (_w0 : (Lit.int .i64 a0).wf = true) (w : World) :
    Calls Try.prog 4 #[.int .i64 a0] w fun e w' => e = .returned (.bool true) ∧ Below w.heap.size w w' := by
  have hne : (nextSeed a0 != nextSeed a0) = false := by simp
  go_enter Try.func4, Try.ntmps4
  go_wp2_with fail
  refine (nextSeed_spec a0 _).mono ?_
  rintro e w1 ⟨rfl, rfl⟩
  go_wp2_with fail
  refine (nextSeed_impl a0 _).mono ?_
  rintro e w1 ⟨rfl, rfl⟩
  go_wp2
  go_ret
  exact ⟨rfl, Below.refl _ _⟩

theorem fnExactBackoffSlots_walk (a0 : Int) (_w0 : (Lit.int .i64 a0).wf = true) (a1 : Int) (_w1 : (Lit.int .i64 a1).wf = true) (w : World) :
    Calls Try.prog 3 #[.int .i64 a0, .int .i64 a1] w fun e w' => e = .returned (.bool true) ∧ Below w.heap.size w w' := by
  have hne : (backoff a0 a1 != backoff a0 a1) = false := by simp
  go_enter Try.func3, Try.ntmps3
  go_wp2_with fail
  refine (backoff_spec a0 a1 _).mono ?_
  rintro e w1 ⟨rfl, rfl⟩
  go_wp2_with fail
  refine (backoff_impl a0 a1 _).mono ?_
  rintro e w1 ⟨rfl, rfl⟩
  go_wp2
  go_ret
  exact ⟨rfl, Below.refl _ _⟩
end Go.Proofs.Ytnebmfdjcikegaa
