/-
  NextSeed and BackoffSlots, the program's and the reference's, walked.
-/
import Derived.Test.YtnebmfdjcikegaaProg
import Derived.Test.YtnebmfdjcikegaaBase
import Derived.Outline
namespace Go.Proofs.Ytnebmfdjcikegaa
open Go.RowKit
set_option linter.unusedVariables false

def nextSeed (s : Int) : Int := if 0 ≤ s ∧ s ≤ 2047 then (1229 * s + 1) % 2048 else 0
def backoff (s a : Int) : Int := if 0 ≤ s ∧ s ≤ 2047 ∧ 1 ≤ a ∧ a ≤ 100 then s / 8 % (2 ^ (min a 6).toNat) else -1

theorem nextSeed_impl (s : Int) (w : World) : Calls Try.prog 13 #[.int .i64 s] w fun e w' => e = .returned (.int .i64 (nextSeed s)) ∧ w = w' := by
  by_cases h0 : 0 ≤ s
  · by_cases h1 : s ≤ 2047
    · go_enter Try.func13, Try.ntmps13
      go_wp2
      go_ret
      exact ⟨ret_int (by simp [nextSeed, h0, h1]), rfl⟩
    · go_enter Try.func13, Try.ntmps13
      go_wp2
      go_ret
      exact ⟨ret_int (by rw [nextSeed, if_neg (by omega)]), rfl⟩
  · go_enter Try.func13, Try.ntmps13
    go_wp2
    go_ret
    exact ⟨ret_int (by rw [nextSeed, if_neg (by omega)]), rfl⟩

theorem nextSeed_spec (s : Int) (w : World) : Calls Try.prog 12 #[.int .i64 s] w fun e w' => e = .returned (.int .i64 (nextSeed s)) ∧ w = w' := by
  by_cases h0 : 0 ≤ s
  · by_cases h1 : s ≤ 2047
    · go_enter Try.func12, Try.ntmps12
      go_wp2
      go_ret
      exact ⟨ret_int (by simp [nextSeed, h0, h1]), rfl⟩
    · go_enter Try.func12, Try.ntmps12
      go_wp2
      go_ret
      exact ⟨ret_int (by rw [nextSeed, if_neg (by omega)]), rfl⟩
  · go_enter Try.func12, Try.ntmps12
    go_wp2
    go_ret
    exact ⟨ret_int (by rw [nextSeed, if_neg (by omega)]), rfl⟩

theorem backoff_impl (s a : Int) (w : World) : Calls Try.prog 11 #[.int .i64 s, .int .i64 a] w fun e w' => e = .returned (.int .i64 (backoff s a)) ∧ w = w' := by
  have hw : wrap64 64 = 64 := IntWalk.wrap64_in 64 ⟨by omega, by omega⟩
  by_cases h0 : 0 ≤ s
  · by_cases h1 : s ≤ 2047
    · by_cases h2 : 1 ≤ a
      · by_cases h3 : a ≤ 100
        · by_cases h6 : 6 ≤ a
          · rcases (show a = 6 ∨ 6 < a by omega) with rfl | h7
            · go_enter Try.func11, Try.ntmps11
              go_wp2
              go_ret
              exact ⟨ret_int (by rw [backoff, if_pos (by omega)]; rfl), rfl⟩
            · go_enter Try.func11, Try.ntmps11
              go_wp2
              go_ret
              refine ⟨ret_int ?_, rfl⟩
              rw [backoff, if_pos (by omega), show min a 6 = 6 by omega]
              rfl
          · rcases (show a = 1 ∨ a = 2 ∨ a = 3 ∨ a = 4 ∨ a = 5 by omega) with rfl | rfl | rfl | rfl | rfl
            all_goals
              go_enter Try.func11, Try.ntmps11
              go_wp2
              go_ret
              exact ⟨ret_int (by rw [backoff, if_pos (by omega)]; rfl), rfl⟩
        · go_enter Try.func11, Try.ntmps11
          go_wp2
          go_ret
          exact ⟨ret_int (by rw [backoff, if_neg (by omega)]), rfl⟩
      · go_enter Try.func11, Try.ntmps11
        go_wp2
        go_ret
        exact ⟨ret_int (by rw [backoff, if_neg (by omega)]), rfl⟩
    · go_enter Try.func11, Try.ntmps11
      go_wp2
      go_ret
      exact ⟨ret_int (by rw [backoff, if_neg (by omega)]), rfl⟩
  · go_enter Try.func11, Try.ntmps11
    go_wp2
    go_ret
    exact ⟨ret_int (by rw [backoff, if_neg (by omega)]), rfl⟩

theorem backoff_spec (s a : Int) (w : World) : Calls Try.prog 10 #[.int .i64 s, .int .i64 a] w fun e w' => e = .returned (.int .i64 (backoff s a)) ∧ w = w' := by
  have hw : wrap64 64 = 64 := IntWalk.wrap64_in 64 ⟨by omega, by omega⟩
  by_cases h0 : 0 ≤ s
  · by_cases h1 : s ≤ 2047
    · by_cases h2 : 1 ≤ a
      · by_cases h3 : a ≤ 100
        · by_cases h6 : 6 ≤ a
          · rcases (show a = 6 ∨ 6 < a by omega) with rfl | h7
            · go_enter Try.func10, Try.ntmps10
              go_wp2
              go_ret
              exact ⟨ret_int (by rw [backoff, if_pos (by omega)]; rfl), rfl⟩
            · go_enter Try.func10, Try.ntmps10
              go_wp2
              go_ret
              refine ⟨ret_int ?_, rfl⟩
              rw [backoff, if_pos (by omega), show min a 6 = 6 by omega]
              rfl
          · rcases (show a = 1 ∨ a = 2 ∨ a = 3 ∨ a = 4 ∨ a = 5 by omega) with rfl | rfl | rfl | rfl | rfl
            all_goals
              go_enter Try.func10, Try.ntmps10
              go_wp2
              go_ret
              exact ⟨ret_int (by rw [backoff, if_pos (by omega)]; rfl), rfl⟩
        · go_enter Try.func10, Try.ntmps10
          go_wp2
          go_ret
          exact ⟨ret_int (by rw [backoff, if_neg (by omega)]), rfl⟩
      · go_enter Try.func10, Try.ntmps10
        go_wp2
        go_ret
        exact ⟨ret_int (by rw [backoff, if_neg (by omega)]), rfl⟩
    · go_enter Try.func10, Try.ntmps10
      go_wp2
      go_ret
      exact ⟨ret_int (by rw [backoff, if_neg (by omega)]), rfl⟩
  · go_enter Try.func10, Try.ntmps10
    go_wp2
    go_ret
    exact ⟨ret_int (by rw [backoff, if_neg (by omega)]), rfl⟩

end Go.Proofs.Ytnebmfdjcikegaa
