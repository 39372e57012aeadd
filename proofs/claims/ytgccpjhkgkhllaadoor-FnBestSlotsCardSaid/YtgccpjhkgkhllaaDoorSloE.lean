/-
  The program's sets of stations, walked: conflictSets, usedSlots.
-/
import Derived.Test.YtgccpjhkgkhllaaDoorSloD
import Derived.Test.YtgccpjhkgkhllaaDoorReg
namespace Go.Proofs.YtgccpjhkgkhllaaDoor
open Go.RowKit
set_option linter.unusedVariables false

def rowN (rows : List (List Bool)) (i : Nat) : Nat → Nat
  | 0 => 0
  | j + 1 => if cf rows i j then rowN rows i j ||| 2 ^ j else rowN rows i j
def usedN (rows : List (List Bool)) (i : Nat) (ss : List Nat) : Nat → Nat
  | 0 => 0
  | j + 1 => if cf rows i j then usedN rows i ss j ||| 2 ^ (ss.getD j 0) else usedN rows i ss j
theorem rowN_bit (rows : List (List Bool)) (i : Nat) : ∀ k j, (rowN rows i k).testBit j = (decide (j < k) && cf rows i j)
  | 0, j => by simp [rowN]
  | k + 1, j => by
    rw [rowN]
    by_cases hjk : j = k
    · subst hjk
      split
      · rename_i h; rw [Nat.testBit_or, Nat.testBit_two_pow_self]; simp [h]
      · rename_i h; rw [rowN_bit]; simp at h; simp [h]
    · split
      · rw [Nat.testBit_or, rowN_bit, Nat.testBit_two_pow_of_ne (by omega)]
        by_cases h : j < k
        · simp [h, show j < k + 1 by omega]
        · simp [h, show ¬ j < k + 1 by omega]
      · rw [rowN_bit]
        by_cases h : j < k
        · simp [h, show j < k + 1 by omega]
        · simp [h, show ¬ j < k + 1 by omega]
theorem usedN_bit (rows : List (List Bool)) (i : Nat) (ss : List Nat) (s : Nat) : ∀ k, (usedN rows i ss k).testBit s = true ↔ ∃ j, j < k ∧ cf rows i j = true ∧ ss.getD j 0 = s
  | 0 => by simp [usedN]
  | k + 1 => by
    rw [usedN]
    split
    · rename_i h
      rw [Nat.testBit_or, Bool.or_eq_true, usedN_bit]
      constructor
      · rintro (⟨j, hj, hc, he⟩ | hb)
        · exact ⟨j, by omega, hc, he⟩
        · exact ⟨k, by omega, h, by
            by_cases e : ss.getD k 0 = s
            · exact e
            · rw [Nat.testBit_two_pow_of_ne e] at hb; cases hb⟩
      · rintro ⟨j, hj, hc, he⟩
        by_cases hjk : j = k
        · subst hjk; right; rw [he]; exact Nat.testBit_two_pow_self
        · left; exact ⟨j, by omega, hc, he⟩
    · rename_i h
      rw [usedN_bit]
      constructor
      · rintro ⟨j, hj, hc, he⟩; exact ⟨j, by omega, hc, he⟩
      · rintro ⟨j, hj, hc, he⟩
        have : j ≠ k := by rintro rfl; exact h hc
        exact ⟨j, by omega, hc, he⟩
theorem rowN_lt (rows : List (List Bool)) (i : Nat) : ∀ k, rowN rows i k < 2 ^ k
  | 0 => by simp [rowN]
  | k + 1 => by
    have ih := rowN_lt rows i k
    rw [rowN]
    have h2 : 2 ^ k < 2 ^ (k + 1) := Nat.pow_lt_pow_right (by omega) (by omega)
    split
    · exact Nat.or_lt_two_pow (by omega) h2
    · omega
theorem usedN_lt (rows : List (List Bool)) (i : Nat) (ss : List Nat) (m : Nat) (h : ∀ j, ss.getD j 0 < m) : ∀ k, usedN rows i ss k < 2 ^ m
  | 0 => by rw [usedN]; exact Nat.two_pow_pos m
  | k + 1 => by
    have ih := usedN_lt rows i ss m h k
    rw [usedN]
    split
    · exact Nat.or_lt_two_pow ih (Nat.pow_lt_pow_right (by omega) (h k))
    · exact ih
theorem ofInt_u64 (a : Nat) (ha : a < 18446744073709551616) : (BitVec.ofInt 64 (a : Int)).toNat = a := by
  rw [BitVec.ofInt_natCast, BitVec.toNat_ofNat]; exact Nat.mod_eq_of_lt (by omega)
theorem u64_or_nat (a b : Nat) (ha : a < 65536) (hb : b < 65536) : bits .or .u64 (a : Int) (b : Int) = ((a ||| b : Nat) : Int) := by
  have hx : a ||| b < 2 ^ 16 := Nat.or_lt_two_pow (by omega) (by omega)
  show IntKind.u64.wrap ((BitVec.ofInt 64 (a : Int) ||| BitVec.ofInt 64 (b : Int)).toNat : Int) = _
  rw [BitVec.toNat_or, ofInt_u64 a (by omega), ofInt_u64 b (by omega)]
  exact IntWalk.u64_in _ (by omega)
theorem bit_eq (R j : Nat) (hR : R < 65536) : (bits .and .u64 ((R : Int) / 2 ^ j) 1 == 1) = R.testBit j := by
  have e : ((R : Int) / 2 ^ j) = ((R / 2 ^ j : Nat) : Int) := by push_cast; rfl
  have hle : R / 2 ^ j ≤ R := Nat.div_le_self _ _
  rw [e, Nat.testBit_eq_decide_div_mod_eq]
  generalize R / 2 ^ j = q at hle
  rw [and_one_u64 _ (by omega) (by omega)]
  by_cases h : q % 2 = 1
  · rw [decide_eq_true h]
    have : ((q : Int) % 2) = 1 := by omega
    rw [this]; rfl
  · rw [decide_eq_false h]
    have : ((q : Int) % 2) = 0 := by omega
    rw [this]; rfl
theorem pow_wrap (s : Nat) (h : s < 16) : IntKind.u64.wrap ((2 : Int) ^ s) = ((2 ^ s : Nat) : Int) := by
  have h2 : 2 ^ s ≤ 2 ^ 15 := Nat.pow_le_pow_right (by omega) (by omega)
  have e : ((2 : Int) ^ s) = ((2 ^ s : Nat) : Int) := by push_cast; rfl
  rw [e]
  generalize 2 ^ s = p at h2
  exact IntWalk.u64_in _ (by omega)
theorem u64_or_pow (a s : Nat) (ha : a < 65536) (hs : s < 16) : bits .or .u64 (a : Int) ((2 : Int) ^ s) = ((a ||| 2 ^ s : Nat) : Int) := by
  have h2 : 2 ^ s ≤ 2 ^ 15 := Nat.pow_le_pow_right (by omega) (by omega)
  rw [show ((2 : Int) ^ s) = ((2 ^ s : Nat) : Int) from by push_cast; rfl]
  exact u64_or_nat a _ ha (by omega)
theorem pow_lt16 (s : Nat) (h : s < 16) : 2 ^ s < 65536 := by
  have h2 : 2 ^ s ≤ 2 ^ 15 := Nat.pow_le_pow_right (by omega) (by omega)
  omega
set_option maxHeartbeats 1600000 in
theorem usedSlots_impl (A' : Option Addr) (n' c' B i K : Nat) (rows : List (List Bool)) (ss : List Nat) (w : World) (h' : RI w B A' n' (castL ss)) (hs : ∀ j, ss.getD j 0 < 16) (hK : n' ≤ K) (hK2 : K ≤ 10) :
    Calls Tryd.prog 33 #[.int .u64 (rowN rows i K : Nat), .slice A' n' c'] w fun e w' => e = .returned (.int .u64 (usedN rows i ss n' : Nat)) ∧ w = w' := by
  have HL := hid (show ss.length = n' by rw [← castL_len]; exact RI.len h')
  have hrl : rowN rows i K < 1024 := by have := rowN_lt rows i K; have : 2 ^ K ≤ 2 ^ 10 := Nat.pow_le_pow_right (by omega) hK2; omega
  obtain ⟨R, hR⟩ : ∃ R, rowN rows i K = R := ⟨_, rfl⟩
  have HR := hid hR
  rw [hR] at hrl ⊢
  clear hR
  go_enter Tryd.func33, Tryd.ntmps33
  go_wp2
  go_loop [5, 10] (fun uv jv => ∃ j : Nat, j ≤ n' ∧ jv = .int .i64 j ∧ uv = .int .u64 (usedN rows i ss j : Nat)) (fun _ jv => n' - (intOf jv).toNat)
  case atStart => exact ⟨0, Nat.zero_le _, rfl, rfl⟩
  case round =>
    obtain ⟨j, hj, rfl, rfl⟩ := hrel
    by_cases hjt : j < n'
    · obtain ⟨b3, o3, y, rfl, hb3, hy, hcy⟩ := RI.at_ h' hjt
      obtain ⟨hy1, hy2⟩ := castL_get hy
      obtain ⟨sj, hsj⟩ : ∃ sj, ss.getD j 0 = sj := ⟨_, rfl⟩
      have hs16 := hs j
      rw [hsj] at hy1 hs16
      subst hy1
      clear hy hy2
      have hub : usedN rows i ss j < 65536 := usedN_lt rows i ss 16 hs j
      have hbt : (bits .and .u64 ((R : Int) / 2 ^ j) 1 == 1) = cf rows i j := by
        rw [bit_eq R j (by omega), ← HR.out, rowN_bit, decide_eq_true (show j < K by omega), Bool.true_and]
      have hpw := pow_wrap sj hs16
      have hor := u64_or_pow (usedN rows i ss j) sj hub hs16
      cases hc : cf rows i j with
      | true =>
        rw [hc] at hbt
        have HU := hid (show usedN rows i ss (j + 1) = usedN rows i ss j ||| 2 ^ sj by rw [usedN, hc, if_pos rfl, hsj])
        clear hc hsj hs hub
        go_wp2
        go_round
        case rel => exact ⟨j + 1, by omega, by go_num, by rw [HU.out]⟩
        case measure => simp [intOf]; omega
      | false =>
        rw [hc] at hbt
        have HU := hid (show usedN rows i ss (j + 1) = usedN rows i ss j by rw [usedN, hc, if_neg (by simp)])
        clear hc hsj hs hub
        go_wp2
        go_round
        case rel => exact ⟨j + 1, by omega, by go_num, by rw [HU.out]⟩
        case measure => simp [intOf]; omega
    · have hjn : j = n' := by omega
      subst hjn
      go_wp2
      go_ret
      exact ⟨rfl, rfl⟩
end Go.Proofs.YtgccpjhkgkhllaaDoor
