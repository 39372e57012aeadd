/-
  The reference's GroupSize, walked.
-/
import Derived.Test.YtgccpjhkgkhllaaDoorSloW
namespace Go.Proofs.YtgccpjhkgkhllaaDoor
open Go.RowKit
set_option linter.unusedVariables false

theorem okA_mono {rows : List (List Bool)} {x i : Nat} (h : okA rows x i = false) : ∀ k, okA rows x (i + k) = false
  | 0 => h
  | k + 1 => by rw [← Nat.add_assoc, okA, okA_mono h k]; rfl
theorem bestX_le (rows : List (List Bool)) (n : Nat) : ∀ m, bestX rows n m ≤ n
  | 0 => Nat.zero_le _
  | m + 1 => by
    rw [bestX]
    have h1 := bestX_le rows n m
    have h2 := popN_le m n
    split <;> omega
theorem bit_i64 (x i : Nat) : (((x : Int) / 2 ^ i).tmod 2 == 0) = !x.testBit i := by
  have e : ((x : Int) / 2 ^ i) = ((x / 2 ^ i : Nat) : Int) := by push_cast; rfl
  rw [e, Nat.testBit_eq_decide_div_mod_eq]
  generalize x / 2 ^ i = q
  rw [Int.tmod_eq_emod_of_nonneg (by omega)]
  by_cases h : q % 2 = 1
  · have : ((q : Int) % 2) = 1 := by omega
    rw [decide_eq_true h, this]; rfl
  · have : ((q : Int) % 2) = 0 := by omega
    rw [decide_eq_false h, this]; rfl
theorem pow_wrap64 (s : Nat) (h : s < 16) : wrap64 ((2 : Int) ^ s) = ((2 ^ s : Nat) : Int) := by
  have h2 : 2 ^ s ≤ 2 ^ 15 := Nat.pow_le_pow_right (by omega) (by omega)
  have e : ((2 : Int) ^ s) = ((2 ^ s : Nat) : Int) := by push_cast; rfl
  rw [e]
  generalize 2 ^ s = p at h2
  exact IntWalk.wrap64_in _ ⟨by omega, by omega⟩
set_option maxRecDepth 100000 in
set_option maxHeartbeats 3200000 in
theorem groupSize_spec (A : Option Addr) (n c B : Nat) (rows : List (List Bool)) (w : World) (h : RTT w B A n rows) (hn : n ≤ 1000000000) :
    Calls Tryd.prog 26 #[.slice A n c] w fun e w' => e = .returned (.int .i64 (groupZ rows)) ∧ ∃ m, w' = w.drewN m := by
  have hlen := RTT.len h
  have hcv := confValid_spec A n c B rows w h hn
  by_cases hco : ConfOk rows
  · rw [confB_yes hco] at hcv
    have h10 : n ≤ 10 := by rw [← hlen]; exact hco.1
    have HCV := hid hcv
    have HSQ := hid (show ∀ r ∈ rows, r.length = n from fun r hr => by rw [conf_sq hco r hr]; exact hlen)
    have HGZ := hid (groupZ_best hco hlen)
    have hpw := pow_wrap64 n (by omega)
    have hpl : 2 ^ n ≤ 1024 := Nat.pow_le_pow_right (n := 2) (by omega) h10
    clear hcv hco hlen
    obtain ⟨P, hP⟩ : ∃ P, 2 ^ n = P := ⟨_, rfl⟩
    rw [hP] at hpw hpl HGZ
    clear hP
    go_enter Tryd.func26, Tryd.ntmps26
    go_wp2_with fail
    refine HCV.out.mono ?_
    rintro e w_ ⟨rfl, d0, rfl⟩
    go_wp2
    go_loopw [3, 4] (fun bv xv wr => ∃ x d : Nat, x ≤ P ∧ bv = .int .i64 (bestX rows n x : Nat) ∧ xv = .int .i64 x ∧ wr = w.drewN d) (fun _ xv _ => P - (intOf xv).toNat)
    case atStart => exact ⟨0, d0, Nat.zero_le _, rfl, rfl, rfl⟩
    case round =>
      obtain ⟨x, d, hx, rfl, rfl, rfl⟩ := hrel
      by_cases hxt : x < P
      · have hb10 := bestX_le rows n x
        have hxi : (x : Int) < (P : Int) := by omega
        go_wp2
        go_loopw [5, 6, 7] (fun nv ov iv wr => ∃ i d : Nat, i ≤ n ∧ nv = .int .i64 (popN x i : Nat) ∧ ov = .bool (okA rows x i) ∧ iv = .int .i64 i ∧ wr = w.drewN d) (fun _ _ iv _ => n - (intOf iv).toNat)
        case atStart => exact ⟨0, d, Nat.zero_le _, rfl, rfl, rfl, rfl⟩
        case round =>
          obtain ⟨i, d2, hi, rfl, rfl, rfl, rfl⟩ := hrel
          have hp10 := popN_le x i
          by_cases hit : i < n
          · cases hok : okA rows x i with
            | false =>
              have hno : okA rows x n = false := by
                have := okA_mono hok (n - i)
                rwa [show i + (n - i) = n by omega] at this
              have HB := hid (show bestX rows n (x + 1) = bestX rows n x by rw [bestX, hno, if_neg (by simp)])
              clear hok hno
              go_wp2
              go_roundw
              case rel => exact ⟨x + 1, d2, by omega, by rw [HB.out], by go_num, rfl⟩
              case measure => simp [intOf]; omega
            | true =>
              have hbt := bit_i64 x i
              cases hb : x.testBit i with
              | false =>
                rw [hb] at hbt
                have hbt' : (((x : Int) / 2 ^ i).tmod 2 == 0) = true := hbt
                have HP := hid (And.intro (show popN x (i + 1) = popN x i by rw [popN, hb]; simp) (show okA rows x (i + 1) = true by rw [okA, hok, hb]; rfl))
                clear hbt hb hok
                go_wp2
                go_roundw
                case rel => exact ⟨i + 1, d2, by omega, by rw [HP.out.1], by rw [HP.out.2], by go_num, rfl⟩
                case measure => simp [intOf]; omega
              | true =>
                rw [hb] at hbt
                have hbt' : (((x : Int) / 2 ^ i).tmod 2 == 0) = false := hbt
                have HP := hid (And.intro (show popN x (i + 1) = popN x i + 1 by rw [popN, hb]; simp) (show okA rows x (i + 1) = okR rows x i i by rw [okA, hok, hb]; rfl))
                obtain ⟨b, o, A', n', c', r, rfl, hbb, hxx, hcl, hr, hn', hc'⟩ := RTT.at_ h hit
                have hnn : n' = n := by rw [← RT.len hr]; exact HSQ.out r (List.mem_of_getElem? hxx)
                subst hnn
                have HX := hid hxx
                clear hbt hb hok hxx
                go_wp2
                go_loopw [6, 8] (fun ov jv wr => ∃ j d : Nat, j ≤ i ∧ ov = .bool (okR rows x i j) ∧ jv = .int .i64 j ∧ wr = w.drewN d) (fun _ jv _ => i - (intOf jv).toNat)
                case atStart => exact ⟨0, d2, Nat.zero_le _, rfl, rfl, rfl⟩
                case round =>
                  obtain ⟨j, d3, hj, rfl, rfl, rfl⟩ := hrel
                  by_cases hjt : j < i
                  · obtain ⟨b4, o4, z, rfl, hb4, hz, hcz⟩ := RT.at_ hr (show j < n' by omega)
                    have HZ : Hid (cf rows i j = z) := hid (cf_of HX.out hz)
                    have hbj := bit_i64 x j
                    have hji : (j : Int) < (i : Int) := by omega
                    have hin : (i : Int) < (n' : Int) := by omega
                    have hjn : (j : Int) < (n' : Int) := by omega
                    clear hz
                    cases hok : okR rows x i j with
                    | false =>
                      have HO := hid (show okR rows x i (j + 1) = false by rw [okR, hok]; rfl)
                      clear hok
                      go_wp2
                      go_roundw
                      case rel => exact ⟨j + 1, _, by omega, by rw [HO.out], by go_num, rfl⟩
                      case measure => simp [intOf]; omega
                    | true =>
                      cases hb : x.testBit j with
                      | false =>
                        rw [hb] at hbj
                        have hbj' : (((x : Int) / 2 ^ j).tmod 2 == 0) = true := hbj
                        have HO := hid (show okR rows x i (j + 1) = true by rw [okR, hok, hb]; rfl)
                        clear hok hbj hb
                        go_wp2
                        go_roundw
                        case rel => exact ⟨j + 1, _, by omega, by rw [HO.out], by go_num, rfl⟩
                        case measure => simp [intOf]; omega
                      | true =>
                        rw [hb] at hbj
                        have hbj' : (((x : Int) / 2 ^ j).tmod 2 == 0) = false := hbj
                        have HO := hid (show okR rows x i (j + 1) = z by rw [okR, hok, hb, HZ.out]; rfl)
                        clear hok hbj hb
                        go_wp2
                        go_roundw
                        case rel => exact ⟨j + 1, _, by omega, by rw [HO.out], by go_num, rfl⟩
                        case measure => simp [intOf]; omega
                  · have hji : j = i := by omega
                    subst hji
                    go_wp2
                    go_roundw
                    case rel => exact ⟨j + 1, d3, by omega, by rw [HP.out.1]; go_num, by rw [HP.out.2], by go_num, rfl⟩
                    case measure => simp [intOf]; omega
          · have hin : i = n := by omega
            subst hin
            cases hok : okA rows x i with
            | false =>
              have HB := hid (show bestX rows i (x + 1) = bestX rows i x by rw [bestX, hok, if_neg (by simp)])
              clear hok
              go_wp2
              go_roundw
              case rel => exact ⟨x + 1, d2, by omega, by rw [HB.out], by go_num, rfl⟩
              case measure => simp [intOf]; omega
            | true =>
              have HB := hid (show bestX rows i (x + 1) = max (bestX rows i x) (popN x i) by rw [bestX, hok, if_pos rfl])
              clear hok
              go_wp2
              go_roundw
              case rel => exact ⟨x + 1, d2, by omega, by rw [HB.out]; go_num, by go_num, rfl⟩
              case measure => simp [intOf]; omega
      · have hxe : x = P := by omega
        subst hxe
        go_wp2
        go_ret
        exact ⟨by rw [HGZ.out]; rfl, _, rfl⟩
  · rw [confB_no hco] at hcv
    rw [groupZ_no hco]
    have HCV := hid hcv
    clear hcv hco h
    go_enter Tryd.func26, Tryd.ntmps26
    go_wp2_with fail
    refine HCV.out.mono ?_
    rintro e w1 ⟨rfl, d, rfl⟩
    go_wp2
    go_ret
    exact ⟨rfl, _, rfl⟩
end Go.Proofs.YtgccpjhkgkhllaaDoor
