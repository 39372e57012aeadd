/-
  heldIntSS, walked.
-/
import Derived.Test.YtglpcphkdgmdeaaTabIM
namespace Go.Proofs.Ytglpcphkdgmdeaa
open Go.RowKit
set_option linter.unusedVariables false

set_option maxHeartbeats 800000 in
theorem heldIntSS_yes (A : Option Addr) (n c B : Nat) (rows : List (List Int)) (k0 : Int) (w : World) (h : RII w B A n (marksRI k0 rows)) (hn : n ≤ 1048576) (hr : lenRI rows ≤ 1048576) (hk0 : 0 ≤ k0) (hk1 : k0 ≤ 1000000000) :
    Calls Try.prog 16 #[.slice A n c, .int .i64 k0] w fun e w' => e = .returned (.int .i64 (k0 + lenRI rows)) ∧ w = w' := by
  have HL : Hid (rows.length = n) := hid (by rw [← RII.len h, marksRI_len])
  obtain ⟨T, HT⟩ : ∃ T, Hid (T = lenRI rows) := ⟨_, hid rfl⟩
  have hT : T ≤ 1048576 := by rw [HT.out]; exact hr
  clear hr
  go_enter Try.func16, Try.ntmps16
  go_wp2
  go_loop [1, 5] (fun kk i => ∃ (j : Nat) (S : Int), j ≤ n ∧ i = .int .i64 j ∧ kk = .int .i64 (k0 + S) ∧ 0 ≤ S ∧ S ≤ 1048576 ∧ Hid (S = lenRI (rows.take j))) (fun _ i => n - (intOf i).toNat)
  case atStart => exact ⟨0, 0, Nat.zero_le _, rfl, by simp, Int.le_refl _, by omega, hid rfl⟩
  case round =>
    obtain ⟨j, S, hj, rfl, rfl, S0, S1, HSS⟩ := hrel
    by_cases hlt : j < n
    · obtain ⟨b, o, A', n', c', r0, rfl, hb, hx, hcl, hrr, hn', hc'⟩ := RII.at_ h hlt
      have hjr : j < rows.length := by rw [HL.out]; exact hlt
      have hrow : rows[j]? = some rows[j] := List.getElem?_eq_getElem hjr
      obtain ⟨r, Hr⟩ : ∃ r, Hid (r = rows[j]) := ⟨_, hid rfl⟩
      rw [← Hr.out] at hrow
      have hmk := marksRI_get rows k0 j r hrow
      rw [hx] at hmk
      injection hmk with hmk
      subst hmk
      have hrl : r.length = n' := by have := RI.len hrr; rwa [marks_len] at this
      rw [hrl, ← HSS.out] at hrr
      have htake : lenRI (rows.take (j + 1)) = S + n' := by rw [take_snoc _ _ _ hrow, lenRI_snoc, hrl, HSS.out]
      have hS2 : S + n' ≤ 1048576 := by have := lenRI_take rows (j + 1); have := HT.out; omega
      have hcon := heldIntS_yes A' n' c' B (k0 + S) w hrr (by omega) (by omega) (by omega)
      have HC := hid hcon
      have HF := hid htake
      clear hcon htake hrr hrl hx hrow
      go_wp2_with fail
      refine HC.out.mono ?_
      rintro e w1 ⟨rfl, rfl⟩
      go_wp2
      go_round
      case rel => exact ⟨j + 1, S + n', by omega, by go_num, by go_num, by omega, by omega, hid HF.out.symm⟩
      case measure => simp [intOf]; omega
    · have e : j = n := by omega
      subst e
      clear hlt
      have hST : S = T := by rw [HSS.out, HT.out, List.take_of_length_le (by rw [HL.out]; omega)]
      have HST := hid hST
      clear hST
      go_wp2
      go_ret
      exact ⟨by rw [← HT.out, ← HST.out]; rfl, rfl⟩
end Go.Proofs.Ytglpcphkdgmdeaa
