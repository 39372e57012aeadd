/-
  The reference's l1In, walked: is n in lo..hi?
-/
import Derived.Test.YtgccpjhkgkhllaaProg
import Derived.Test.YtgccpjhkgkhllaaBase
namespace Go.Proofs.Ytgccpjhkgkhllaa
open Go.RowKit
set_option linter.unusedVariables false

theorem l1In_yes (n lo hi : Int) (w : World) (h1 : lo ≤ n) (h2 : n ≤ hi) : Calls Try.prog 31 #[.int .i64 n, .int .i64 lo, .int .i64 hi] w fun e w' => e = .returned (.bool true) ∧ w = w' := by
  go_enter Try.func31, Try.ntmps31
  go_wp2
  go_ret
  exact ⟨ret_bool (by first | rfl | (simp; omega)), rfl⟩
theorem l1In_no (n lo hi : Int) (w : World) (h : n < lo ∨ hi < n) : Calls Try.prog 31 #[.int .i64 n, .int .i64 lo, .int .i64 hi] w fun e w' => e = .returned (.bool false) ∧ w = w' := by
  by_cases h1 : lo ≤ n
  · have h2 : hi < n := by omega
    go_enter Try.func31, Try.ntmps31
    go_wp2
    go_ret
    exact ⟨ret_bool (by first | rfl | (simp; omega)), rfl⟩
  · go_enter Try.func31, Try.ntmps31
    go_wp2
    go_ret
    exact ⟨ret_bool (by first | rfl | (simp; omega)), rfl⟩
theorem l1In_any (n lo hi : Int) (w : World) : Calls Try.prog 31 #[.int .i64 n, .int .i64 lo, .int .i64 hi] w fun e w' => e = .returned (.bool (decide (lo ≤ n ∧ n ≤ hi))) ∧ w = w' := by
  by_cases h : lo ≤ n ∧ n ≤ hi
  · exact (l1In_yes n lo hi w h.1 h.2).mono fun _ _ ⟨he, hw⟩ => ⟨he.trans (ret_bool (by simp [h])), hw⟩
  · exact (l1In_no n lo hi w (by omega)).mono fun _ _ ⟨he, hw⟩ => ⟨he.trans (ret_bool (by first | rfl | (simp; omega) | simp [h])), hw⟩
end Go.Proofs.Ytgccpjhkgkhllaa
