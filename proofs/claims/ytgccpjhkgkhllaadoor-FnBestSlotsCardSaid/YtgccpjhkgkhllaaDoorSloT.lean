/-
  The program's largestGroup, walked.
-/
import Derived.Test.YtgccpjhkgkhllaaDoorSloS
import Derived.Test.YtgccpjhkgkhllaaDoorSloG
namespace Go.Proofs.YtgccpjhkgkhllaaDoor
open Go.RowKit
set_option linter.unusedVariables false

theorem popN_le (x : Nat) : ∀ k, popN x k ≤ k
  | 0 => Nat.le_refl _
  | k + 1 => by have := popN_le x k; rw [popN]; split <;> omega
theorem IsMax.le {rows : List (List Bool)} {M b : Nat} (h : IsMax rows M b) : b ≤ 10 := by
  obtain ⟨S, _, _, e⟩ := h.1
  have := popN_le S 10
  omega
set_option maxRecDepth 100000 in
set_option maxHeartbeats 3200000 in
theorem largest_impl (n g : Nat) (rows : List (List Bool)) (hn : n ≤ 10) (hco : ConfOk rows) (hlen : rows.length = n) (w : World) (hT : TabW w) (hg : Blk w g 45 ((setsL rows n).map fU).toArray) :
    ∀ (mask : Nat), mask < 2 ^ n →
    Calls Tryd.prog 35 #[.slice (some ⟨g, 0, none⟩) n n, .int .u64 (mask : Int)] w fun e w' => ∃ b : Nat, e = .returned (.int .i64 (b : Int)) ∧ IsMax rows mask b ∧ w = w' := by
  have HT := hid hT
  have HG := hid hg
  have HCO := hid hco
  have h1024 : 2 ^ n ≤ 1024 := Nat.pow_le_pow_right (n := 2) (by omega) hn
  clear hT hg hco
  intro mask
  induction mask using Nat.strongRecOn with
  | ind mask ih =>
    intro hmask
    have HIH := hid ih
    clear ih
    go_enter Tryd.func35, Tryd.ntmps35
    go_wp2
    go_loopw [5, 6] (fun bv rv wr => ∃ best rest : Nat, bv = .int .i64 best ∧ rv = .int .u64 rest ∧ rest ≤ mask ∧ Hid (GInv rows mask best rest) ∧ best ≤ 10 ∧ w = wr) (fun _ rv _ => (intOf rv).toNat)
    case atStart => exact ⟨0, mask, rfl, rfl, Nat.le_refl _, hid (ginv_start rows mask), by omega, rfl⟩
    case round =>
      obtain ⟨best, rest, rfl, rfl, hrm, HGI, hb10, rfl⟩ := hrel
      by_cases h0 : rest = 0
      · subst h0
        have HM := hid (ginv_stop HGI.out (by rw [popN_zero]; omega))
        go_wp2
        go_ret
        exact ⟨best, rfl, HM.out, rfl⟩
      · have hrs : rest < 1024 := by omega
        have htz := tz rest h0 (by omega) w HT.out
        have hon := ones rest hrs w
        obtain ⟨hl1, hl2⟩ := testBit_low h0 (by omega)
        obtain ⟨i, hi⟩ : ∃ i, Lib.ctz 64 rest = i := ⟨_, rfl⟩
        rw [hi] at htz hl1 hl2
        have HTZ := hid htz
        have HON := hid hon
        have HL := hid (And.intro hl1 hl2)
        have hne : ((rest : Int) != 0) = true := by simp; omega
        clear htz hon hl1 hl2 hi
        go_wp2_with fail
        refine HTZ.out.mono ?_
        rintro e w_ ⟨rfl, rfl⟩
        go_wp2_with fail
        refine HON.out.mono ?_
        rintro e w_ ⟨rfl, rfl⟩
        by_cases hst : popN rest 10 ≤ best
        · have HM := hid (ginv_stop HGI.out hst)
          have hst' : ((popN rest 10 : Nat) : Int) ≤ (best : Int) := by omega
          go_wp2
          go_ret
          exact ⟨best, rfl, HM.out, rfl⟩
        · have hst' : ¬ ((popN rest 10 : Nat) : Int) ≤ (best : Int) := by omega
          have hin : i < n := by
            rcases Nat.lt_or_ge i n with h | h
            · exact h
            · have := HL.out.1
              rw [Nat.testBit_lt_two_pow (Nat.lt_of_lt_of_le (show rest < 2 ^ n by omega) (Nat.pow_le_pow_right (by omega) h))] at this
              cases this
          have hRl : rowN rows i n < 1024 := by have := rowN_lt rows i n; omega
          have hgc : w.cell? ⟨g, i, none⟩ = some (.int .u64 (rowN rows i n : Nat)) := by
            rw [HG.out.cell]
            simp [setsL, hin, fU]
          have hii : cf rows i i = false := (HCO.out.2.2 i i (by omega) (by omega)).2 rfl
          have hRb := rowN_bit rows i n
          obtain ⟨R, hR⟩ : ∃ R, rowN rows i n = R := ⟨_, rfl⟩
          rw [hR] at hRl hgc hRb
          have hle : rest &&& R ≤ rest := Nat.and_le_left
          have hle2 : rest &&& (rest - 1) ≤ rest := Nat.and_le_left
          have hne1 : rest &&& R ≠ rest := fun e => by
            have := HL.out.1
            rw [← e, Nat.testBit_and, hRb, hii] at this
            simp at this
          have hne2 : rest &&& (rest - 1) ≠ rest := fun e => by
            have := HL.out.1
            rw [← e, HL.out.2] at this
            simp at this
          have hrec := HIH.out (rest &&& R) (by omega) (by omega)
          have HREC := hid hrec
          have ha1 : bits .and .u64 (rest : Int) (R : Int) = ((rest &&& R : Nat) : Int) := bits_and_u64_nat rest R (by omega) (by omega)
          have ha2 : bits .and .u64 (rest : Int) ((rest : Int) - 1) = ((rest &&& (rest - 1) : Nat) : Int) := by
            have e : ((rest : Int) - 1) = ((rest - 1 : Nat) : Int) := by omega
            rw [e]; exact bits_and_u64_nat rest _ (by omega) (by omega)
          have HRB := hid hRb
          have hi0 : (0 : Int) ≤ (i : Int) := by omega
          have hin' : (i : Int) < (n : Int) := by omega
          clear hrec hR hRb
          go_wp2_with fail
          first | rw [ha1] | skip
          refine HREC.out.mono ?_
          rintro e w_ ⟨v, rfl, hv, rfl⟩
          have hv10 := hv.le
          have HNX := hid (ginv_step HGI.out (show i < 10 by omega) HL.out.1 HL.out.2 (fun j hj => by
            have hjn : j < n := by
              rcases Nat.lt_or_ge j n with h | h
              · exact h
              · rw [Nat.testBit_lt_two_pow (Nat.lt_of_lt_of_le hmask (Nat.pow_le_pow_right (by omega) h))] at hj
                cases hj
            rw [HRB.out]; simp [hjn]) (fun j hj => by
            have hjn : j < n := by
              rcases Nat.lt_or_ge j n with h | h
              · exact h
              · rw [Nat.testBit_lt_two_pow (Nat.lt_of_lt_of_le hmask (Nat.pow_le_pow_right (by omega) h))] at hj
                cases hj
            exact (HCO.out.2.2 j i (by omega) (by omega)).1) hii hv)
          have HMX := hid (show max best (1 + v) ≤ 10 by obtain ⟨S, _, _, e⟩ := HNX.out.2.1; have := popN_le S 10; omega)
          clear hv
          go_wp2
          go_roundw
          case rel => exact ⟨max best (1 + v), rest &&& (rest - 1), by go_num, by go_num, by omega, HNX, HMX.out, trivial⟩
          case measure => simp [intOf]; omega
end Go.Proofs.YtgccpjhkgkhllaaDoor
