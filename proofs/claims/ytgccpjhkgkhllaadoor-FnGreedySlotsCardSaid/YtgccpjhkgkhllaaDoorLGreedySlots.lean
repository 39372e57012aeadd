/-
  FnGreedySlots, walked: the program's greedy slots are the reference's; each is at most the number of earlier conflicts; they are valid; the first is 0.
-/
import Derived.Test.YtgccpjhkgkhllaaDoorDSloD
import Derived.Test.YtgccpjhkgkhllaaDoorSloI
import Derived.Test.YtgccpjhkgkhllaaDoorSloQ
import Derived.Test.YtgccpjhkgkhllaaDoorAlive
import Derived.OpenShut
namespace Go.Proofs.YtgccpjhkgkhllaaDoor
open Go.RowKit
set_option linter.unusedVariables false

set_option maxRecDepth 100000 in
set_option maxHeartbeats 3200000 in
theorem fnGreedySlots_walk {A : Option Addr} {n c : Nat} {bs : List Int} (w : World) (hT : TabW w) (h : RV w w.heap.size A n (bs.map (Value.int .u8))) (wf : ∀ x ∈ bs, (Lit.int .u8 x).wf = true) (hl : n ≤ c) (hm : c ≤ maxLen) :
    Calls Tryd.prog 6 #[.slice A n c] w fun e w' => e = .returned (.bool true) ∧ Below w.heap.size w w' := by
  unfold maxLen at hm
  by_cases hn : n ≤ 1048576
  · have hd := drawGreedySlots_any A n c w.heap.size bs w h (Nat.le_refl _) hl hn (fun x hx => bounds_u8 (wf x hx))
    have HT := hid hT
    clear wf h hT
    go_enter Tryd.func6, Tryd.ntmps6
    go_wp2_with fail
    refine hd.mono ?_
    rintro e w1 ⟨A1, n1, c1, rows, rfl, tab, hc1, hm1, hn1, hb1⟩
    have HT1 := hid (TabW.below HT.out hb1 HT.out.lt)
    have HB1 := hid hb1
    have HL := hid (RTT.len tab)
    have HTB := hid tab
    have HI := hid (greedy_impl A1 n1 c1 w1.heap.size rows w1 tab (Nat.le_refl _) (by omega) HT1.out)
    clear hd hb1 tab
    go_wp2_with fail
    refine HI.out.mono ?_
    rintro e w2 ⟨A2, n2, c2, rfl, o2, hb2⟩
    have HO2 := hid o2
    have HB2 := hid (HB1.out.trans (hb2.mono HB1.out.size))
    have HTB2 := hid (RVV.below HTB.out hb2)
    have hz2 := hb2.size
    have HS := hid (greedy_spec A1 n1 c1 w1.heap.size rows w2 HTB2.out hz2 (by omega))
    clear o2 hb2
    go_wp2_with fail
    refine HS.out.mono ?_
    rintro e w3 ⟨A3, n3, c3, rfl, o3, hb3⟩
    have HR2 := hid (RV.below (OwnI.ri HO2.out) hb3)
    have HQ := hid (sameInts_same A2 A3 n2 n3 c2 c3 w2.heap.size w3.heap.size (greedyI rows) w3 HR2.out (OwnI.ri o3) (by have := greedyI_len rows; omega))
    have HB3 := hid (HB2.out.trans (hb3.mono HB2.out.size))
    have HTB3 := hid (RVV.below HTB2.out (hb3.mono hz2))
    have HZ3 := hid hb3.size
    clear o3 hb3
    go_wp2_with fail
    refine HQ.out.mono ?_
    rintro e w4 ⟨rfl, hb4⟩
    have HR4 := hid (RV.below HR2.out (hb4.mono HZ3.out))
    have HB4 := hid (HB3.out.trans (hb4.mono HB3.out.size))
    have HTB4 := hid (RVV.below HTB3.out (hb4.mono (Nat.le_trans hz2 HZ3.out)))
    clear hb4
    have hl2 := RI.len HR4.out
    by_cases h0 : n2 = 0
    · subst h0
      have HA := hid (alive_any w4)
      clear hl2
      go_wp2_with fail
      refine HA.out.mono ?_
      rintro e w5 ⟨rfl, hb5⟩
      have HF := hid (HB4.out.trans (hb5.mono HB4.out.size))
      clear hb5
      go_wp2
      go_ret
      exact ⟨rfl, HF.out⟩
    · have hco : ConfOk rows := by
        by_cases hco : ConfOk rows
        · exact hco
        · rw [greedyI_no hco] at hl2; simp at hl2; omega
      have hn12 : n2 = n1 := by rw [← hl2, greedyI_yes hco, castL_len, greedy_len, HL.out]
      subst hn12
      have h0' : 0 < n2 := by omega
      have hq0 : ((n2 : Int) == 0) = false := by simp; omega
      have HCO := hid hco
      have HG := hid (show greedyI rows = castL (greedyL rows n2) by rw [greedyI_yes hco, HL.out])
      have hsv := slotsValid_impl A1 A2 n2 n2 c1 c2 w2.heap.size rows (greedyI rows) w4 (RVV.more HTB4.out hz2) HR4.out (by omega) (by omega)
      rw [greedyI_yes hco, greedy_ok hco] at hsv
      have HSV := hid hsv
      clear hsv hco hl2 h0
      go_wp2
      go_loopw [5] (fun iv wr => ∃ i : Nat, i ≤ n2 ∧ iv = .int .i64 i ∧ w4 = wr) (fun iv _ => n2 - (intOf iv).toNat)
      case atStart => exact ⟨0, Nat.zero_le _, rfl, rfl⟩
      case round =>
        obtain ⟨i, hi, rfl, rfl⟩ := hrel
        by_cases hlt : i < n2
        · have hii : (i : Int) < (n2 : Int) := by omega
          obtain ⟨b, o, A', m', c', r, rfl, hb, hx, hcl, hr, hmc, hcm⟩ := RTT.at_ HTB4.out hlt
          have HX := hid hx
          have hrl : r.length = n2 := by rw [conf_sq HCO.out r (List.mem_of_getElem? hx)]; exact HL.out
          have hm' : n2 = m' := by rw [← RT.len hr]; exact hrl.symm
          subst hm'
          have HRR := hid hr
          have HCF := hid (show ∀ j, r.getD j false = cf rows i j from fun j => by unfold cf; rw [List.getD_eq_getElem?_getD (l := rows), hx]; rfl)
          obtain ⟨b', o', eA', hb', hcr⟩ := hr.2 (by omega)
          subst eA'
          have HCR := hid hcr
          obtain ⟨b9, o9, x9, eA9, hb9, hx9, hc9⟩ := RI.at_ HR4.out hlt
          rw [HG.out] at hx9
          obtain ⟨e9, _⟩ := castL_get hx9
          obtain ⟨S, hS⟩ : ∃ S, (greedyL rows n2).getD i 0 = S := ⟨_, rfl⟩
          have hle := greedy_cnt rows hlt
          rw [hS] at e9 hle
          subst e9 eA9
          have HLE := hid hle
          clear hx hr hcr hx9 hle hS
          go_wp2
          go_loopw [6, 7] (fun cv jv wr => ∃ j : Nat, j ≤ i ∧ cv = .int .i64 (cntC rows i j : Nat) ∧ jv = .int .i64 j ∧ w4 = wr) (fun _ jv _ => i - (intOf jv).toNat)
          case atStart => exact ⟨0, Nat.zero_le _, rfl, rfl, rfl⟩
          case round =>
            obtain ⟨j, hj, rfl, rfl, rfl⟩ := hrel
            have hcl9 := cntC_le rows i j
            by_cases hjt : j < i
            · have hcj := HCR.out j (.bool (cf rows i j)) (by rw [← HCF.out j, List.getElem?_map, List.getD_eq_getElem?_getD, List.getElem?_eq_getElem (by omega)]; rfl)
              have hjn : (j : Int) < (n2 : Int) := by omega
              cases hcf : cf rows i j with
              | true =>
                rw [hcf] at hcj
                have HN := hid (show cntC rows i (j + 1) = cntC rows i j + 1 by rw [cntC, if_pos hcf])
                obtain ⟨C, hC⟩ : ∃ C, cntC rows i j = C := ⟨_, rfl⟩
                rw [hC] at hcl9 HN
                rw [hC]
                clear hcf hC
                go_wp2
                go_roundw
                case rel => exact ⟨j + 1, by omega, by rw [HN.out]; go_num, by go_num, trivial⟩
                case measure => simp [intOf]; omega
              | false =>
                rw [hcf] at hcj
                have HN := hid (show cntC rows i (j + 1) = cntC rows i j by rw [cntC, if_neg (by rw [hcf]; simp)]; rfl)
                obtain ⟨C, hC⟩ : ∃ C, cntC rows i j = C := ⟨_, rfl⟩
                rw [hC] at hcl9 HN
                rw [hC]
                clear hcf hC
                go_wp2
                go_roundw
                case rel => exact ⟨j + 1, by omega, by rw [HN.out], by go_num, trivial⟩
                case measure => simp [intOf]; omega
            · have hji : j = i := by omega
              subst hji
              have hle := HLE.out
              obtain ⟨C, hC⟩ : ∃ C, cntC rows j j = C := ⟨_, rfl⟩
              rw [hC] at hle hcl9
              rw [hC]
              have hnc : ¬ (C : Int) < (S : Int) := by omega
              clear hC hle
              go_wp2
              go_roundw
              case rel => exact ⟨j + 1, by omega, by go_num, trivial⟩
              case measure => simp [intOf]; omega
        · have hin : i = n2 := by omega
          subst hin
          obtain ⟨b9, o9, x9, eA9, hb9, hx9, hc9⟩ := RI.at_ HR4.out h0'
          rw [HG.out] at hx9
          obtain ⟨e9, _⟩ := castL_get hx9
          rw [greedy_first rows h0'] at e9
          subst e9 eA9
          have h0i : (0 : Int) < (i : Int) := by omega
          rw [Nat.add_zero] at hc9
          clear hx9
          go_wp2_with fail
          refine HSV.out.mono ?_
          rintro e w_ ⟨rfl, rfl⟩
          go_wp2
          go_ret
          exact ⟨rfl, HB4.out⟩
  · clear wf h hT
    go_enter Tryd.func6, Tryd.ntmps6
    go_wp2
    go_ret
    exact ⟨rfl, Below.refl _ _⟩
end Go.Proofs.YtgccpjhkgkhllaaDoor
