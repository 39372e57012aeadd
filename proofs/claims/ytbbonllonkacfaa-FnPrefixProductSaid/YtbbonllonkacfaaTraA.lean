/-
  The transform's small functions, the program's and the reference's, walked: powers, the root, the test of a list.
-/
import Derived.Test.YtbbonllonkacfaaProg
import Derived.Test.YtbbonllonkacfaaTraMath
import Derived.Test.YtbbonllonkacfaaL1
import Derived.Laws.BitsAllLaws
import Derived.Laws.BitsLemmas
import Derived.Deep.QuietTactic
import Derived.BigQuiet
import Derived.Outline
namespace Go.Proofs.Ytbbonllonkacfaa
open Go.RowKit
set_option linter.unusedVariables false

theorem infoI : (Try.prog.info? 3).map (fun i => (i.zero, i.size, i.bytes)) = some (some (.int .i64 0), 1, 8) := by kernel_rfl
theorem ofInt_i64' (a : Nat) (ha : a < 9223372036854775808) : (BitVec.ofInt 64 (a : Int)).toNat = a := by
  rw [BitVec.ofInt_natCast, BitVec.toNat_ofNat]; exact Nat.mod_eq_of_lt (by omega)
theorem i64_and_one (a : Nat) (ha : a < 9223372036854775808) : bits .and .i64 (a : Int) 1 = ((a % 2 : Nat) : Int) := by
  show IntKind.i64.wrap ((BitVec.ofInt 64 (a : Int) &&& BitVec.ofInt 64 ((1 : Nat) : Int)).toNat : Int) = _
  rw [BitVec.toNat_and, ofInt_i64' a ha, ofInt_i64' 1 (by omega), IntKind.wrap_i64, Nat.and_one_is_mod]
  omega
theorem mul_bd257 {a b : Int} (h0 : 0 ≤ a) (h1 : a < 257) (k0 : 0 ≤ b) (k1 : b < 257) : 0 ≤ a * b ∧ a * b ≤ 65536 := by
  refine ⟨Int.mul_nonneg h0 k0, ?_⟩
  have := Int.mul_le_mul (show a ≤ 256 by omega) (show b ≤ 256 by omega) k0 (by omega)
  omega

theorem l11Power_spec (a : Int) (n : Nat) (w : World) (h0 : 0 ≤ a) (h1 : a < 257) (hn : n ≤ 1000) : Calls Try.prog 31 #[.int .i64 a, .int .i64 (n : Int)] w fun e w' => e = .returned (.int .i64 (pw a n)) ∧ w = w' := by
  go_enter Try.func31, Try.ntmps31
  go_wp2
  go_loop [5, 6] (fun p k => ∃ (j : Nat) (x : Int), j ≤ n ∧ k = .int .i64 j ∧ p = .int .i64 x ∧ 0 ≤ x ∧ x < 257 ∧ Hid (x = pw a j)) (fun _ k => n - (intOf k).toNat)
  case atStart => exact ⟨0, 1, Nat.zero_le _, rfl, rfl, by omega, by omega, hid rfl⟩
  case round =>
    obtain ⟨j, x, hj, rfl, rfl, x0, x1, HX⟩ := hrel
    obtain ⟨m0, m1⟩ := mul_bd257 x0 x1 h0 h1
    by_cases hlt : j < n
    · go_wp2
      go_round
      case rel => exact ⟨j + 1, x * a % 257, by omega, by go_num, rfl, Int.emod_nonneg _ (by omega), Int.emod_lt_of_pos _ (by omega), hid (by rw [pw, HX.out])⟩
      case measure => simp [intOf]; omega
    · have e : j = n := by omega
      subst e
      clear hlt
      go_wp2
      go_ret
      exact ⟨ret_int HX.out, rfl⟩

theorem power_impl (a : Int) (n : Nat) (w : World) (h0 : 0 ≤ a) (h1 : a < 257) (hn : n ≤ 1000) : Calls Try.prog 30 #[.int .i64 a, .int .i64 (n : Int)] w fun e w' => e = .returned (.int .i64 (pw a n)) ∧ w = w' := by
  obtain ⟨V, HV⟩ : ∃ V, Hid (V = a ^ n) := ⟨_, hid rfl⟩
  go_enter Try.func30, Try.ntmps30
  go_wp2
  go_loop [5, 0, 1] (fun p b m => ∃ (N : Nat) (x y : Int), N ≤ n ∧ m = .int .i64 N ∧ p = .int .i64 x ∧ b = .int .i64 y ∧ 0 ≤ x ∧ x < 257 ∧ 0 ≤ y ∧ y < 257 ∧ Hid (Cg (x * y ^ N) V)) (fun _ _ m => (intOf m).toNat)
  case atStart => exact ⟨n, 1, a, Nat.le_refl _, rfl, rfl, rfl, by omega, by omega, h0, h1, hid (by rw [HV.out, Int.one_mul]; exact Cg.rfl' _)⟩
  case round =>
    obtain ⟨N, x, y, hN, rfl, rfl, rfl, x0, x1, y0, y1, HX⟩ := hrel
    obtain ⟨m0, m1⟩ := mul_bd257 x0 x1 y0 y1
    obtain ⟨s0, s1⟩ := mul_bd257 y0 y1 y0 y1
    by_cases hlt : 0 < N
    · have hand : bits .and .i64 (N : Int) 1 = ((N % 2 : Nat) : Int) := i64_and_one N (by omega)
      have hsq : Cg ((y * y % 257) ^ (N / 2)) (y ^ (2 * (N / 2))) := by
        have := Cg.pow (Cg.mod (y * y)) (N / 2)
        rw [Int.mul_pow, ← Int.pow_add] at this
        rwa [show N / 2 + N / 2 = 2 * (N / 2) by omega] at this
      rcases Nat.mod_two_eq_zero_or_one N with hp | hp
      · rw [hp] at hand
        have HX' : Hid (Cg (x * (y * y % 257) ^ (N / 2)) V) := hid (((Cg.rfl' x).mul hsq).trans (by rw [show 2 * (N / 2) = N by omega]; exact HX.out))
        clear hsq hp
        go_wp2
        go_round
        case rel => exact ⟨N / 2, x, y * y % 257, by omega, congrArg (Value.int .i64) (by omega), rfl, rfl, x0, x1, Int.emod_nonneg _ (by omega), Int.emod_lt_of_pos _ (by omega), HX'⟩
        case measure => simp [intOf]; omega
      · rw [hp] at hand
        have HX' : Hid (Cg (x * y % 257 * (y * y % 257) ^ (N / 2)) V) := hid (by
          refine ((Cg.mod _).mul hsq).trans ?_
          rw [Int.mul_assoc, ← Int.pow_succ']
          rw [show 2 * (N / 2) + 1 = N by omega]
          exact HX.out)
        clear hsq hp
        go_wp2
        go_round
        case rel => exact ⟨N / 2, x * y % 257, y * y % 257, by omega, congrArg (Value.int .i64) (by omega), rfl, rfl, Int.emod_nonneg _ (by omega), Int.emod_lt_of_pos _ (by omega), Int.emod_nonneg _ (by omega), Int.emod_lt_of_pos _ (by omega), HX'⟩
        case measure => simp [intOf]; omega
    · have e : N = 0 := by omega
      subst e
      clear hlt
      go_wp2
      go_ret
      refine ⟨ret_int ?_, rfl⟩
      have h := HX.out
      rw [Int.pow_zero, Int.mul_one, HV.out] at h
      rw [pw_val]
      exact h.eq x0 x1

theorem root_impl (w : World) : Calls Try.prog 25 #[] w fun e w' => e = .returned (.int .i64 2) ∧ w = w' := by
  have hp := power_impl 2 8 w (by omega) (by omega) (by omega)
  rw [show pw 2 8 = 256 by decide] at hp
  go_enter Try.func25, Try.ntmps25
  go_wp2_with fail
  refine wp_loop_rounds 1 ?_
  rw [rounds_succ]
  go_wp2_with fail
  refine hp.mono ?_
  rintro e w1 ⟨rfl, rfl⟩
  go_wp2
  go_ret
  exact ⟨rfl, rfl⟩
theorem root_spec (w : World) : Calls Try.prog 28 #[] w fun e w' => e = .returned (.int .i64 2) ∧ w = w' := by
  have hp := l11Power_spec 2 16 w (by omega) (by omega) (by omega)
  rw [show pw 2 16 = 1 by decide] at hp
  have hq := l11Power_spec 2 8 w (by omega) (by omega) (by omega)
  rw [show pw 2 8 = 256 by decide] at hq
  go_enter Try.func28, Try.ntmps28
  go_wp2_with fail
  refine wp_loop_rounds 1 ?_
  rw [rounds_succ]
  go_wp2_with fail
  refine hp.mono ?_
  rintro e w1 ⟨rfl, rfl⟩
  go_wp2_with fail
  refine hq.mono ?_
  rintro e w1 ⟨rfl, rfl⟩
  go_wp2
  go_ret
  exact ⟨rfl, rfl⟩

theorem in257_nil : In257 [] := by intro x hx; cases hx
theorem in257_snoc {xs : List Int} {k : Nat} {x : Int} (h : In257 (xs.take k)) (hx : xs[k]? = some x) (h1 : 0 ≤ x) (h2 : x < 257) : In257 (xs.take (k + 1)) := by
  rw [take_snoc _ _ _ hx]
  intro y hy
  rcases List.mem_append.1 hy with hy | hy
  · exact h y hy
  · rw [List.mem_singleton] at hy; subst hy; exact ⟨h1, h2⟩
theorem in257_whole {xs : List Int} {k n : Nat} (h : In257 (xs.take k)) (hl : xs.length = n) (hk : n ≤ k) : In257 xs := by
  rwa [List.take_of_length_le (by omega)] at h
theorem points_impl (A : Option Addr) (n c B : Nat) (xs : List Int) (w : World) (h : RI w B A n xs) (hn : n ≤ 1000000000) :
    Calls Try.prog 23 #[.slice A n c] w fun e w' => e = .returned (.bool (ptsOk xs)) ∧ w = w' := by
  have HL := hid (RI.len h)
  by_cases hl : n = 16
  · subst hl
    go_enter Try.func23, Try.ntmps23
    go_wp2
    go_loop [10] (fun i => ∃ k : Nat, k ≤ 16 ∧ i = .int .i64 k ∧ Hid (In257 (xs.take k))) (fun i => 16 - (intOf i).toNat)
    case atStart => exact ⟨0, Nat.zero_le _, rfl, hid (by rw [List.take_zero]; exact in257_nil)⟩
    case round =>
      obtain ⟨k, hk, rfl, HE⟩ := hrel
      by_cases hlt : k < 16
      · obtain ⟨p, o, x, rfl, hb, hx, hc⟩ := RI.at_ h hlt
        have HX := hid hx
        clear hx
        by_cases h1 : 0 ≤ x
        · by_cases h2 : x < 257
          · go_wp2
            go_round
            case rel => exact ⟨k + 1, by omega, by go_num, hid (in257_snoc HE.out HX.out h1 h2)⟩
            case measure => simp [intOf]; omega
          · go_wp2
            go_ret
            exact ⟨ret_bool (ptsOk_no fun hh => by have := in257_get hh.2 HX.out; omega).symm, rfl⟩
        · go_wp2
          go_ret
          exact ⟨ret_bool (ptsOk_no fun hh => by have := in257_get hh.2 HX.out; omega).symm, rfl⟩
      · go_wp2
        go_ret
        exact ⟨ret_bool (ptsOk_iff.2 ⟨HL.out, in257_whole HE.out HL.out (by omega)⟩).symm, rfl⟩
  · have hne : ((n : Int) != 16) = true := by simp; omega
    clear hl
    go_enter Try.func23, Try.ntmps23
    go_wp2
    go_ret
    exact ⟨ret_bool (ptsOk_no fun hh => by have h1 := hh.1; rw [HL.out] at h1; subst h1; simp at hne).symm, rfl⟩
theorem points_spec (A : Option Addr) (n c B : Nat) (xs : List Int) (w : World) (h : RI w B A n xs) (hn : n ≤ 1000000000) :
    Calls Try.prog 26 #[.slice A n c] w fun e w' => e = .returned (.bool (ptsOk xs)) ∧ w = w' := by
  have HL := hid (RI.len h)
  go_enter Try.func26, Try.ntmps26
  go_wp2
  go_loop [3] (fun i => ∃ k : Nat, k ≤ n ∧ i = .int .i64 k ∧ Hid (In257 (xs.take k))) (fun i => n - (intOf i).toNat)
  case atStart => exact ⟨0, Nat.zero_le _, rfl, hid (by rw [List.take_zero]; exact in257_nil)⟩
  case round =>
    obtain ⟨k, hk, rfl, HE⟩ := hrel
    by_cases hlt : k < n
    · obtain ⟨p, o, x, rfl, hb, hx, hc⟩ := RI.at_ h hlt
      have HX := hid hx
      clear hx
      by_cases hin : 0 ≤ x ∧ x ≤ 256
      · obtain ⟨h1, h2⟩ := hin
        go_wp2_with (go_at_call 34; refine (l1In_yes _ _ _ _ h1 h2).mono ?_; rintro e w1 ⟨rfl, rfl⟩)
        go_round
        case rel => exact ⟨k + 1, by omega, by go_num, hid (in257_snoc HE.out HX.out h1 (by omega))⟩
        case measure => simp [intOf]; omega
      · go_wp2_with (go_at_call 34; refine (l1In_no _ _ _ _ (by omega)).mono ?_; rintro e w1 ⟨rfl, rfl⟩)
        go_ret
        exact ⟨ret_bool (ptsOk_no fun hh => by have := in257_get hh.2 HX.out; omega).symm, rfl⟩
    · have hin := in257_whole HE.out HL.out (Nat.not_lt.1 hlt)
      have HIN := hid hin
      clear hin
      by_cases hl : n = 16
      · subst hl
        go_wp2
        go_ret
        exact ⟨ret_bool (ptsOk_iff.2 ⟨HL.out, HIN.out⟩).symm, rfl⟩
      · have hne : ((n : Int) == 16) = false := by simp; omega
        clear hl
        go_wp2
        go_ret
        exact ⟨ret_bool (ptsOk_no fun hh => by have h1 := hh.1; rw [HL.out] at h1; subst h1; simp at hne).symm, rfl⟩
end Go.Proofs.Ytbbonllonkacfaa
