/-
  FnDespreadSums, walked: over all codes, the squares of the sums add up to Chips times the squares of the chips.
-/
import Derived.Test.YtgkkanamnhochaaDSpr2
import Derived.IntWalk
import Derived.Test.YtgkkanamnhochaaAlive
import Derived.Test.YtgkkanamnhochaaSprLaw2
import Derived.Test.YtgkkanamnhochaaDespreadS
import Derived.Test.YtgkkanamnhochaaDesBits
namespace Go.Proofs.Ytgkkanamnhochaa
open Go.RowKit
set_option linter.unusedVariables false

set_option maxHeartbeats 1600000 in
theorem fnDespreadSums_walk {A : Option Addr} {n c : Nat} {bs : List Int} (w : World) (h : RV w w.heap.size A n (bs.map (Value.int .u8))) (wf : ∀ x ∈ bs, (Lit.int .u8 x).wf = true) (hl : n ≤ c) (hm : c ≤ maxLen) :
    Calls Try.prog 9 #[.slice A n c] w fun e w' => e = .returned (.bool true) ∧ Below w.heap.size w w' := by
  unfold maxLen at hm
  by_cases hn : n ≤ 1048576
  · have hd := drawDespreadSums_any A n c w.heap.size bs w h (Nat.le_refl _) hl hn (fun x hx => bounds_u8 (wf x hx))
    clear wf h
    have hbel : Below w.heap.size w w := Below.refl _ _
    go_enter Try.func9, Try.ntmps9
    go_wp2_with fail
    refine (hd).mono ?_
    rintro e w1 ⟨A1, n1, c1, xs, k, rfl, ho1, hz1, ⟨k0, k1⟩, hb⟩
    have nX := OwnI.ri ho1
    have hbel_ := Below.next hbel hb; clear hbel; have hbel := hbel_; clear hbel_
    clear hb
    have rX := nX; clear nX
    have hcap := hid (And.intro ho1.2.1 ho1.2.2.1)
    have LX := hid (RI.len rX)
    have hn1 : n1 ≤ 2000 := by have := LX.out; omega
    clear hd ho1 hz1
    obtain ⟨V, HV⟩ : ∃ V, Hid (V = despread xs k) := ⟨_, hid rfl⟩
    have hVl : V.length ≤ 32 := by rw [HV.out]; exact despread_len _ _
    go_wp2_with fail
    refine (despread_impl _ _ _ _ xs k _ rX (Nat.le_refl _) (by omega) hcap.out.1 hcap.out.2).mono ?_
    rintro e w2 ⟨A2, n2, c2, rfl, ho, hb⟩
    have nV := OwnI.ri (by rw [← HV.out] at ho; exact ho)
    have hbel_ := Below.next hbel hb; clear hbel; have hbel := hbel_; clear hbel_
    have rX_ := RV.next rX hb; clear rX; have rX := rX_; clear rX_
    clear hb
    have rV := nV; clear nV
    clear ho
    have LV := hid (RI.len rV)
    go_wp2_with fail
    refine (despread_spec _ _ _ _ xs k _ rX (Nat.le_refl _) (by omega)).mono ?_
    rintro e w3 ⟨A3, n3, c3, rfl, ho, hb⟩
    have nW := OwnI.ri (by rw [← HV.out] at ho; exact ho)
    have hbel_ := Below.next hbel hb; clear hbel; have hbel := hbel_; clear hbel_
    have rX_ := RV.next rX hb; clear rX; have rX := rX_; clear rX_
    have rV_ := RV.next rV hb; clear rV; have rV := rV_; clear rV_
    clear hb
    have rW := nW; clear nW
    clear ho
    go_wp2_with fail
    refine (sameInts_same _ _ _ _ _ _ _ _ _ _ rV rW (by omega)).mono ?_
    rintro e w4 ⟨rfl, hb⟩
    have hbel_ := Below.next hbel hb; clear hbel; have hbel := hbel_; clear hbel_
    have rX_ := RV.next rX hb; clear rX; have rX := rX_; clear rX_
    have rV_ := RV.next rV hb; clear rV; have rV := rV_; clear rV_
    have rW_ := RV.next rW hb; clear rW; have rW := rW_; clear rW_
    clear hb
    clear rW
    rcases Nat.eq_zero_or_pos n2 with hz | hpos
    · subst hz
      go_wp2_with fail
      refine (alive_any _).mono ?_
      rintro e w5 ⟨rfl, hb⟩
      have hbel_ := Below.next hbel hb; clear hbel; have hbel := hbel_; clear hbel_
      have rX_ := RV.next rX hb; clear rX; have rX := rX_; clear rX_
      have rV_ := RV.next rV hb; clear rV; have rV := rV_; clear rV_
      clear hb
      go_wp2
      go_ret
      exact ⟨rfl, hbel⟩
    · have hb0 : ((n2 : Int) == 0) = false := by simp; omega
      have hne : despread xs k ≠ [] := fun e => by have h1 := LV.out; have h2 := HV.out; rw [e] at h2; subst h2; simp at h1; omega
      obtain ⟨_, _, h8, hv⟩ := despread_not_nil hne
      obtain ⟨N, hN⟩ : ∃ N, n1 = 8 * N := ⟨n1 / 8, by have := LX.out; omega⟩
      subst hN
      have hA := (withinB_iff.1 hv).2
      have h256 : 8 * N ≤ 256 := by have := (withinB_iff.1 hv).1; have := LX.out; omega
      have hn2 : n2 = N := by
        have h1 := LV.out; have h2 := HV.out
        rw [despread, if_pos ⟨k0, (despread_not_nil hne).2.1, h8, hv⟩] at h2
        rw [← h1, h2, despL, List.length_map, List.length_range, LX.out]; omega
      subst hn2
      have HT := hid (tot_bd hA n2 (by omega))
      have HE := hid (energy_whole LX.out)
      have HA := hid hA
      have HV8 := hid hv
      have H8 := hid h8
      have hdiv : (8 * (n2 : Int)) / 8 = (n2 : Int) := by omega
      clear hne h8 hv hA rV hb0 hVl LV HV
      have hb0 : ((n2 : Int) == 0) = false := by simp; omega
      go_wp2
      go_loopw [6, 8] (fun av jv wr => ∃ (j : Nat) (T : Int), j ≤ 8 ∧ jv = .int .i64 j ∧ av = .int .i64 T ∧ Hid (T = tot xs n2 j) ∧ Below w4.heap.size w4 wr) (fun _ jv _ => 8 - (intOf jv).toNat)
      case atStart => exact ⟨0, 0, by omega, rfl, rfl, hid rfl, Below.refl _ _⟩
      case round =>
        obtain ⟨j, T, hj, rfl, rfl, HJ, hbr⟩ := hrel
        obtain ⟨wo, rfl⟩ : ∃ wo : World, wo = wr := ⟨_, rfl⟩
        have rXo := RV.next rX hbr
        have hbo := Below.next hbel hbr
        by_cases hlt : j < 8
        · have hTb := HT.out j
          rw [← HJ.out] at hTb
          have hval : despread xs (j : Int) = despL xs j n2 := by
            rw [despread, if_pos ⟨by omega, by omega, H8.out, HV8.out⟩, LX.out]; simp
          have HVal := hid hval
          clear hval
          go_wp2_with fail
          refine (despread_impl _ _ _ _ xs (j : Int) _ rXo (Nat.le_refl _) (by omega) hcap.out.1 hcap.out.2).mono ?_
          rintro e w6 ⟨A6, n6, c6, rfl, ho, hb6⟩
          rw [HVal.out] at ho
          have rY := OwnI.ri ho
          have hn6 : n6 = n2 := by rw [← RI.len rY]; simp [despL]
          subst hn6
          have hb6' := Below.next hbr hb6
          have HBD := hid (despL_bd HA.out j n6)
          clear ho hb6
          go_wp2
          go_loopw [6, 10] (fun av iv wr => ∃ (i m : Nat) (U : Int), i ≤ n6 ∧ iv = .int .i64 i ∧ av = .int .i64 U ∧ Hid (U = T + sqs ((despL xs j n6).take i)) ∧ wr = w6.drewN m) (fun _ iv _ => n6 - (intOf iv).toNat)
          case atStart => exact ⟨0, 0, T, Nat.zero_le _, rfl, rfl, hid (by simp [sqs]), rfl⟩
          case round =>
            obtain ⟨i, m, U, hi, rfl, rfl, HU, rfl⟩ := hrel
            by_cases hli : i < n6
            · obtain ⟨b, o, y, rfl, hbb, hy, hcy⟩ := RI.at_ (w := w6) rY hli
              obtain ⟨y0, y1⟩ := allIn_get HBD.out hy
              have HY := hid hy
              clear hy
              obtain ⟨q0, q1⟩ := sq_bd y0 y1
              have HU' : Hid (U + y * y = T + sqs ((despL xs j n6).take (i + 1))) := hid (by rw [sqs_snoc HY.out, HU.out]; omega)
              have hUb := sqs_bd (b := 64000) ((despL xs j n6).take i) (fun x hx => HBD.out x (List.mem_of_mem_take hx))
              have hUl : ((despL xs j n6).take i).length ≤ n6 := by simp; omega
              have hU0 : 0 ≤ U ∧ U ≤ 8 * 131072000000 + 131072000000 := by
                rw [HU.out]
                have e : (((despL xs j n6).take i).length : Int) * (64000 * 64000) ≤ 131072000000 := by omega
                omega
              obtain ⟨U0, U1⟩ := hU0
              have hw1 : IntKind.i64.wrap (y * y) = y * y := IntWalk.i64_in _ (by omega)
              have hw2 : IntKind.i64.wrap (U + y * y) = U + y * y := IntWalk.i64_in _ (by omega)
              have hi0 : (0 : Int) ≤ (i : Int) := by omega
              have hi1 : (i : Int) < (n6 : Int) := by omega
              clear hUb hUl
              go_wp2
              go_quiet (fail)
              go_wp2
              go_roundw
              case rel => exact ⟨i + 1, _, U + y * y, by omega, by go_num, rfl, HU', rfl⟩
              case measure => simp [intOf]; omega
            · have e : i = n6 := by omega
              subst e
              clear hli
              have hU : U = tot xs i (j + 1) := by
                rw [tot, ← HJ.out, HU.out, List.take_of_length_le (by simp [despL])]
              have HU2 := hid hU
              clear hU
              go_wp2
              go_roundw
              case rel => exact ⟨j + 1, U, by omega, by go_num, rfl, HU2, hb6'.trans ((Same.drewN _ _).bel _)⟩
              case measure => simp [intOf]; omega
        · have e : j = 8 := by omega
          subst e
          clear hlt
          have hTb := HT.out 8
          rw [← HJ.out] at hTb
          obtain ⟨T0, T1⟩ := hTb
          go_wp2
          go_loopw [7, 11] (fun bv iv wr => ∃ (i m : Nat) (U : Int), i ≤ 8 * n2 ∧ iv = .int .i64 i ∧ bv = .int .i64 U ∧ Hid (U = sqs (xs.take i)) ∧ wr = wo.drewN m) (fun _ iv _ => 8 * n2 - (intOf iv).toNat)
          case atStart => exact ⟨0, 0, 0, Nat.zero_le _, rfl, rfl, hid (by simp [sqs]), rfl⟩
          case round =>
            obtain ⟨i, m, U, hi, rfl, rfl, HU, rfl⟩ := hrel
            have hUb := sqs_bd (b := 8000) (xs.take i) (fun x hx => HA.out x (List.mem_of_mem_take hx))
            have hUl : (xs.take i).length ≤ 256 := by rw [List.length_take]; have := LX.out; omega
            have hU0 : 0 ≤ U ∧ U ≤ 16384000000 := by
              rw [HU.out]
              omega
            obtain ⟨U0, U1⟩ := hU0
            clear hUb hUl
            by_cases hli : i < 8 * n2
            · obtain ⟨b, o, y, rfl, hbb, hy, hcy⟩ := RI.at_ (w := wo) rXo hli
              obtain ⟨y0, y1⟩ := allIn_get HA.out hy
              have HY := hid hy
              clear hy
              obtain ⟨q0, q1⟩ := sq_bd y0 y1
              have HU' : Hid (U + y * y = sqs (xs.take (i + 1))) := hid (by rw [sqs_snoc HY.out, HU.out])
              have hw1 : IntKind.i64.wrap (y * y) = y * y := IntWalk.i64_in _ (by omega)
              have hw2 : IntKind.i64.wrap (U + y * y) = U + y * y := IntWalk.i64_in _ (by omega)
              have hi0 : (0 : Int) ≤ (i : Int) := by omega
              have hi1 : (i : Int) < 8 * (n2 : Int) := by omega
              go_wp2
              go_quiet (fail)
              go_wp2
              go_roundw
              case rel => exact ⟨i + 1, _, U + y * y, by omega, by go_num, rfl, HU', rfl⟩
              case measure => simp [intOf]; omega
            · have e : i = 8 * n2 := by omega
              subst e
              clear hli
              have hTU : T = 8 * U := by
                rw [HJ.out, HE.out, HU.out, List.take_of_length_le (by rw [LX.out]; omega)]
              subst hTU
              go_wp2
              go_ret
              exact ⟨rfl, hbo.trans ((Same.drewN _ _).bel _)⟩
  · go_enter Try.func9, Try.ntmps9
    go_wp2
    go_ret
    exact ⟨rfl, Below.refl _ _⟩
end Go.Proofs.Ytgkkanamnhochaa
