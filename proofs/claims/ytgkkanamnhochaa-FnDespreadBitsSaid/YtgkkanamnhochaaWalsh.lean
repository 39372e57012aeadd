/-
  The codes of Walsh: the reference's sign of a chip, and both WalshCode, walked.
-/
import Derived.Test.YtgkkanamnhochaaL1
import Derived.Laws.BitsAllLaws
import Derived.Laws.BitsLemmas
namespace Go.Proofs.Ytgkkanamnhochaa
open Go.RowKit
set_option linter.unusedVariables false

theorem infoI : (Try.prog.info? 3).map (fun i => (i.zero, i.size, i.bytes)) = some (some (.int .i64 0), 1, 8) := by kernel_rfl

def pop3 (x : Nat) : Nat := x % 2 + x / 2 % 2 + x / 4 % 2
/-- Chip j of code k. -/
def wsign (k j : Nat) : Int := 1 - 2 * ((pop3 (k &&& j) % 2 : Nat) : Int)
def walsh (k : Nat) : List Int := (List.range 8).map (wsign k)
def walshCode (k : Int) : List Int := if 0 ≤ k ∧ k ≤ 7 then walsh k.toNat else []
def walshL : Nat → Nat → List Int
  | 0, _ => [1]
  | d + 1, k => walshL d (k % 2 ^ d) ++ (walshL d (k % 2 ^ d)).map fun c => (if 2 ^ d ≤ k then -1 else 1) * c
theorem walshL_len (d : Nat) : ∀ k, (walshL d k).length = 2 ^ d := by
  induction d with
  | zero => intro k; rfl
  | succ d ih => intro k; simp [walshL, ih]; omega
theorem walshL_pm (d : Nat) : ∀ k, ∀ c ∈ walshL d k, c = 1 ∨ c = -1 := by
  induction d with
  | zero => intro k c hc; simp [walshL] at hc; exact .inl hc
  | succ d ih =>
    intro k c hc
    rw [walshL] at hc
    rcases List.mem_append.1 hc with hc | hc
    · exact ih _ c hc
    · obtain ⟨x, hx, rfl⟩ := List.mem_map.1 hc
      rcases ih _ x hx with rfl | rfl <;> split <;> omega
theorem walshL_three : ∀ k, k < 8 → walshL 3 k = walsh k := by decide
theorem wsign_pm (k j : Nat) : wsign k j = 1 ∨ wsign k j = -1 := by unfold wsign; omega
theorem walsh_len (k : Nat) : (walsh k).length = 8 := by simp [walsh]

theorem ofInt_i64 (a : Nat) (ha : a < 9223372036854775808) : (BitVec.ofInt 64 (a : Int)).toNat = a := by
  rw [BitVec.ofInt_natCast, BitVec.toNat_ofNat]; exact Nat.mod_eq_of_lt (by omega)
theorem i64_and_nat (a b : Nat) (ha : a < 9223372036854775808) (hb : b < 9223372036854775808) : bits .and .i64 (a : Int) (b : Int) = ((a &&& b : Nat) : Int) := by
  have hx : a &&& b < 2 ^ 63 := Nat.and_lt_two_pow _ (by omega)
  show IntKind.i64.wrap ((BitVec.ofInt 64 (a : Int) &&& BitVec.ofInt 64 (b : Int)).toNat : Int) = _
  rw [BitVec.toNat_and, ofInt_i64 a ha, ofInt_i64 b hb, IntKind.wrap_i64]
  omega

theorem l12Sign_any (k j : Nat) (w : World) (hk : k ≤ 7) (hj : j ≤ 7) : Calls Try.prog 37 #[.int .i64 (k : Int), .int .i64 (j : Int)] w fun e w' => e = .returned (.int .i64 (wsign k j)) ∧ w = w' := by
  obtain ⟨K, hK⟩ : ∃ K, K = k &&& j := ⟨_, rfl⟩
  have hK7 : K ≤ 7 := by rw [hK]; exact Nat.le_trans Nat.and_le_left hk
  have hand : bits .and .i64 (k : Int) (j : Int) = (K : Int) := by rw [i64_and_nat k j (by omega) (by omega), hK]
  have HK := hid hK
  clear hK
  go_enter Try.func37, Try.ntmps37
  go_wp2
  go_loop [5, 6] (fun n x => ∃ N X : Nat, n = .int .i64 N ∧ x = .int .i64 X ∧ X ≤ 7 ∧ N ≤ 100 ∧ Hid (N + pop3 X = pop3 K)) (fun _ x => (intOf x).toNat)
  case atStart => exact ⟨0, K, rfl, rfl, hK7, by omega, hid (by simp)⟩
  case round =>
    obtain ⟨N, X, rfl, rfl, hX, hN, HE⟩ := hrel
    have hN3 : N ≤ 3 := by
      have h1 := HE.out
      have h2 : pop3 K ≤ 3 := by unfold pop3; omega
      omega
    by_cases h0 : 0 < X
    · go_wp2
      go_round
      case rel => exact ⟨N + X % 2, X / 2, congrArg (Value.int .i64) (by omega), congrArg (Value.int .i64) (by omega), by omega, by omega, hid (by
        have h1 := HE.out
        unfold pop3 at h1 ⊢
        omega)⟩
      case measure => simp [intOf]; omega
    · have hz : X = 0 := by omega
      subst hz
      clear h0
      go_wp2
      go_ret
      refine ⟨ret_int ?_, rfl⟩
      have h1 := HE.out
      have h2 : pop3 0 = 0 := by decide
      unfold wsign
      rw [← HK.out, ← h1, h2]
      omega

theorem walshCode_spec (k : Int) (w : World) : Calls Try.prog 14 #[.int .i64 k] w fun e w' => RetI 3 w e w' (walshCode k) := by
  obtain ⟨i0, hi0, hz0, hz1, hz2⟩ := info_parts infoI
  by_cases hk : 0 ≤ k ∧ k ≤ 7
  · obtain ⟨hk0, hk1⟩ := hk
    obtain ⟨K, rfl⟩ := Int.eq_ofNat_of_zero_le hk0
    go_enter Try.func14, Try.ntmps14
    go_wp2
    go_loopw [3, 4] (fun v i wr => ∃ (j cc : Nat) (AA : Option Addr), j ≤ 8 ∧ i = .int .i64 j ∧ v = .slice AA j cc ∧ wr.ownsRow w.heap.size 3 1 (.slice AA j cc) j (((List.range j).map (wsign K)).map (Value.int .i64)) ∧ Below w.heap.size w wr)
      (fun _ i _ => 8 - (intOf i).toNat)
    case atStart => exact ⟨0, 0, _, by omega, rfl, rfl, by simpa using own_lit0 _ (Nat.le_refl _), (Below.refl _ _).alloc (Nat.le_refl _) _⟩
    case round =>
      obtain ⟨j, cc, AA, hj, rfl, rfl, hown, hbel⟩ := hrel
      have hsz := hbel.size
      by_cases hlt : j < 8
      · go_wp2_with (first | (go_at_call 36; refine (l1In_yes _ _ _ _ (by omega) (by omega)).mono ?_; rintro e w1 ⟨rfl, rfl⟩) | (go_at_call 37; refine (l12Sign_any K j _ (by omega) (by omega)).mono ?_; rintro e w1 ⟨rfl, rfl⟩) | (at_builtin; refine wpList_push rfl _ _ _ rfl w.heap.size 3 i0 _ 8 Try.underlying22 hi0 hz0 hz1 hz2 rfl (by omega) _ _ AA j cc _ rfl hown rfl rfl (by omega) (by omega) ?_; intro g' cap w1 hown1 hgrow1 hlies1 hlt1))
        have hbel1 := below_push hbel hown (Nat.le_refl _) (by omega) hgrow1
        go_roundw
        case rel => exact ⟨j + 1, cap, _, by omega, by go_num, rfl, by rw [List.range_succ, List.map_append, List.map_append]; exact hown1, hbel1⟩
        case measure => simp [intOf]; omega
      · have e : j = 8 := by omega
        subst e
        clear hlt
        go_wp2
        go_ret
        refine retI_of (n := 8) ?_ hbel
        rw [walshCode, if_pos ⟨hk0, hk1⟩]
        exact hown
  · go_enter Try.func14, Try.ntmps14
    go_wp2_with fail
    refine wp_loop_rounds 1 ?_
    rw [rounds_succ]
    go_wp2_with (go_at_call 36; refine (l1In_no _ _ _ _ (by omega)).mono ?_; rintro e w1 ⟨rfl, rfl⟩)
    go_ret
    rw [walshCode, if_neg hk]
    exact retI_lit0 _ _
end Go.Proofs.Ytgkkanamnhochaa
