/-
  FnGroupSize, walked: the program's greatest group is the reference's; it is at most the number of stations, 0 exactly for none, at least 2 exactly if there is a conflict.
-/
import Derived.Test.YtgccpjhkgkhllaaDoorDSloD
import Derived.Test.YtgccpjhkgkhllaaDoorSloX
import Derived.Test.YtgccpjhkgkhllaaDoorSloY
import Derived.Test.YtgccpjhkgkhllaaDoorAlive
import Derived.OpenShut
namespace Go.Proofs.YtgccpjhkgkhllaaDoor
open Go.RowKit
set_option linter.unusedVariables false

set_option maxRecDepth 100000 in
set_option maxHeartbeats 3200000 in
theorem fnGroupSize_walk {A : Option Addr} {n c : Nat} {bs : List Int} (w : World) (hT : TabW w) (h : RV w w.heap.size A n (bs.map (Value.int .u8))) (wf : ∀ x ∈ bs, (Lit.int .u8 x).wf = true) (hl : n ≤ c) (hm : c ≤ maxLen) :
    Calls Tryd.prog 8 #[.slice A n c] w fun e w' => e = .returned (.bool true) ∧ Below w.heap.size w w' := by
  unfold maxLen at hm
  by_cases hn : n ≤ 1048576
  · have hd := drawGroupSize_any A n c w.heap.size bs w h (Nat.le_refl _) hl hn (fun x hx => bounds_u8 (wf x hx))
    have HT := hid hT
    clear wf h hT
    go_enter Tryd.func8, Tryd.ntmps8
    go_wp2_with fail
    refine hd.mono ?_
    rintro e w1 ⟨A1, n1, c1, rows, rfl, tab, hc1, hm1, hn1, hb1⟩
    have HT1 := hid (TabW.below HT.out hb1 HT.out.lt)
    have HB1 := hid hb1
    have HL := hid (RTT.len tab)
    have HTB := hid tab
    have HI := hid (groupSize_impl A1 n1 c1 w1.heap.size rows w1 tab (Nat.le_refl _) (by omega) HT1.out)
    clear hd hb1 tab
    go_wp2_with fail
    refine HI.out.mono ?_
    rintro e w2 ⟨rfl, hb2⟩
    have HB2 := hid (HB1.out.trans (hb2.mono HB1.out.size))
    have HTB2 := hid (RVV.below HTB.out hb2)
    have HS := hid (groupSize_spec A1 n1 c1 w1.heap.size rows w2 HTB2.out (by omega))
    have hne : (groupZ rows != groupZ rows) = false := by simp
    clear hb2
    go_wp2_with fail
    refine HS.out.mono ?_
    rintro e w_ ⟨rfl, d0, rfl⟩
    by_cases hco : ConfOk rows
    · obtain ⟨b, hz, hbn, hb0, hb2⟩ := groupZ_any hco HL.out
      have HSQ := hid (show ∀ r ∈ rows, r.length = n1 from fun r hr => by rw [conf_sq hco r hr]; exact HL.out)
      have HZ := hid hz
      have HF := hid (And.intro hb0 hb2)
      rw [hz] at hne ⊢
      have hb0' : ¬ ((b : Int) < 0) := by omega
      clear hz hb0 hb2 hco
      go_wp2
      go_loopw [5, 6] (fun av iv wr => ∃ i d : Nat, i ≤ n1 ∧ av = .bool (anyT rows i) ∧ iv = .int .i64 i ∧ wr = w2.drewN d) (fun _ iv _ => n1 - (intOf iv).toNat)
      case atStart => exact ⟨0, d0, Nat.zero_le _, rfl, rfl, rfl⟩
      case round =>
        obtain ⟨i, d, hi, rfl, rfl, rfl⟩ := hrel
        by_cases hlt : i < n1
        · have hii : (i : Int) < (n1 : Int) := by omega
          obtain ⟨b2, o, A', m', c', r, rfl, hbb, hx, hcl, hr, hmc, hcm⟩ := RTT.at_ HTB2.out hlt
          have hm' : m' = n1 := by rw [← RT.len hr]; exact HSQ.out r (List.mem_of_getElem? hx)
          subst hm'
          have HX := hid hx
          have HP := hid (show anyT rows (i + 1) = (anyT rows i || anyR rows i i) from rfl)
          obtain ⟨T, hTT⟩ : ∃ T, anyT rows i = T := ⟨_, rfl⟩
          rw [hTT] at HP
          rw [hTT]
          clear hx hTT
          go_wp2
          go_loopw [5, 7] (fun av jv wr => ∃ j d : Nat, j ≤ i ∧ av = .bool (T || anyR rows i j) ∧ jv = .int .i64 j ∧ wr = w2.drewN d) (fun _ jv _ => i - (intOf jv).toNat)
          case atStart => exact ⟨0, d, Nat.zero_le _, by simp [anyR], rfl, rfl⟩
          case round =>
            obtain ⟨j, d3, hj, rfl, rfl, rfl⟩ := hrel
            by_cases hjt : j < i
            · obtain ⟨b4, o4, z, rfl, hb4, hz, hcz⟩ := RT.at_ hr (show j < m' by omega)
              have HZ : Hid (cf rows i j = z) := hid (cf_of HX.out hz)
              have hji : (j : Int) < (i : Int) := by omega
              have hjn : (j : Int) < (m' : Int) := by omega
              have HN := hid (show (T || anyR rows i (j + 1)) = ((T || anyR rows i j) || z) by rw [anyR, HZ.out, Bool.or_assoc])
              obtain ⟨U, hU⟩ : ∃ U, (T || anyR rows i j) = U := ⟨_, rfl⟩
              rw [hU] at HN
              rw [hU]
              clear hz hU
              cases U with
              | false =>
                go_wp2
                go_roundw
                case rel => exact ⟨j + 1, _, by omega, by rw [HN.out]; simp, by go_num, rfl⟩
                case measure => simp [intOf]; omega
              | true =>
                go_wp2
                go_roundw
                case rel => exact ⟨j + 1, _, by omega, by rw [HN.out]; simp, by go_num, rfl⟩
                case measure => simp [intOf]; omega
            · have hji : j = i := by omega
              subst hji
              go_wp2
              go_roundw
              case rel => exact ⟨j + 1, _, by omega, by rw [HP.out], by go_num, rfl⟩
              case measure => simp [intOf]; omega
        · have hin : i = n1 := by omega
          subst hin
          obtain ⟨U, hU⟩ : ∃ U, anyT rows i = U := ⟨_, rfl⟩
          rw [hU] at HF
          rw [hU]
          clear hU
          have hbn' : (b : Int) ≤ (i : Int) := by omega
          by_cases h0 : i = 0
          · subst h0
            have hb00 : b = 0 := by omega
            subst hb00
            have hUf : U = false := by
              cases U with
              | false => rfl
              | true => have := HF.out.2.2 rfl; omega
            subst hUf
            go_wp2
            go_ret
            exact ⟨rfl, HB2.out.trans ((Same.drewN _ _).bel _)⟩
          · have hb1 : b ≠ 0 := fun e => h0 (HF.out.1.1 e)
            have e1 : ((b : Int) == 0) = false := by simp; omega
            have e2 : ((i : Int) == 0) = false := by simp; omega
            cases U with
            | false =>
              have h2 : ¬ (2 : Int) ≤ (b : Int) := fun hh => by have := HF.out.2.1 (by omega); cases this
              go_wp2
              go_ret
              exact ⟨rfl, HB2.out.trans ((Same.drewN _ _).bel _)⟩
            | true =>
              have h2 : (2 : Int) ≤ (b : Int) := by have := HF.out.2.2 rfl; omega
              go_wp2
              go_ret
              exact ⟨rfl, HB2.out.trans ((Same.drewN _ _).bel _)⟩
    · have HZ := hid (groupZ_no hco)
      have HA := hid (alive_any (w2.drewN d0))
      rw [HZ.out] at hne ⊢
      clear hco
      go_wp2_with fail
      refine HA.out.mono ?_
      rintro e w5 ⟨rfl, hb5⟩
      have HF := hid ((HB2.out.trans ((Same.drewN _ _).bel _)).trans (hb5.mono HB2.out.size))
      clear hb5
      go_wp2
      go_ret
      exact ⟨rfl, HF.out⟩
  · clear wf h hT
    go_enter Tryd.func8, Tryd.ntmps8
    go_wp2
    go_ret
    exact ⟨rfl, Below.refl _ _⟩
end Go.Proofs.YtgccpjhkgkhllaaDoor
