/-
  SlotSuccess of the reference, walked.
-/
import Derived.Test.YtnebmfdjcikegaaAccA
import Derived.Deep.QuietTactic
import Derived.BigQuiet
import Derived.Outline
namespace Go.Proofs.Ytnebmfdjcikegaa
open Go.RowKit Go.Maps
set_option linter.unusedVariables false

theorem in_spec (x : Int) (w : World) : Calls Try.prog 27 #[.int .i64 x, .int .i64 0, .int .i64 399] w fun e w' => e = .returned (.bool (decide (0 ≤ x) && decide (x ≤ 399))) ∧ w = w' := by
  by_cases h0 : 0 ≤ x
  · by_cases h1 : x ≤ 399
    · go_enter Try.func27, Try.ntmps27
      go_wp2
      go_ret
      exact ⟨by first | rfl | (simp; done) | (simp; omega), rfl⟩
    · go_enter Try.func27, Try.ntmps27
      go_wp2
      go_ret
      exact ⟨by first | (simp; done) | (simp; omega), rfl⟩
  · go_enter Try.func27, Try.ntmps27
    go_wp2
    go_ret
    exact ⟨by first | (simp; done) | (simp; omega), rfl⟩
set_option maxRecDepth 100000 in
set_option maxHeartbeats 1600000 in
theorem slotSuccess_spec (A : Option Addr) (n c B : Nat) (ss : List Int) (w : World) (h : RI w B A n ss) (hB : B ≤ w.heap.size) (hn : n ≤ 1000000000) :
    Calls Try.prog 17 #[.slice A n c] w fun e w' => RetI 3 w e w' (aloneI ss) := by
  have HL := hid (RI.len h)
  have HR := hid h
  obtain ⟨i0, hi0, hz0, hz1, hz2⟩ := info_parts infoA
  have own0 : (w.alloc (.cells #[] 3)).ownsRow w.heap.size 3 1 (.slice (some ⟨w.heap.size, 0, none⟩) 0 0) 0 [] := own_lit0 _ (Nat.le_refl _)
  have bel0 : Below w.heap.size w (w.alloc (.cells #[] 3)) := (Below.refl _ _).alloc (Nat.le_refl _) _
  by_cases h8 : n ≤ 8
  · go_enter Try.func17, Try.ntmps17
    go_wp2
    go_loopw [3, 4] (fun v i wr => ∃ (k q cc : Nat) (AA : Option Addr), k ≤ n ∧ i = .int .i64 k ∧ v = .slice AA q cc ∧ q ≤ k ∧ Hid ((∀ j, j < k → SlotIn (ss.getD j 0)) ∧ wr.ownsRow w.heap.size 3 1 (.slice AA q cc) q ((aloneL ss k).map (Value.int .i64))) ∧ Below w.heap.size w wr) (fun _ i _ => n - (intOf i).toNat)
    case atStart => exact ⟨0, 0, 0, _, Nat.zero_le _, rfl, rfl, Nat.le_refl _, hid ⟨fun j hj => by omega, own0⟩, bel0⟩
    case round =>
      obtain ⟨k, q, cc, AA, hk, rfl, rfl, hqk, HIN, hbr⟩ := hrel
      have hsz := hbr.size
      have hrr := RV.below HR.out (hbr.mono hB)
      by_cases hlt : k < n
      · obtain ⟨b, o, x, rfl, hb, hx, hcx⟩ := RI.at_ hrr hlt
        have HX := hid (getD_at hx)
        have HM := hid (List.mem_of_getElem? hx)
        have HST := hid hbr
        clear hx own0 bel0 hbr
        by_cases hx0 : 0 ≤ x
        · by_cases hx1 : x ≤ 399
          · obtain ⟨wo, hwo⟩ : ∃ wo : World, wo = wr := ⟨_, rfl⟩
            rw [← hwo] at HST hsz hcx hrr HIN
            have hk0 : (0 : Int) ≤ (k : Int) := by omega
            have hkn : (k : Int) < (n : Int) := by omega
            have hin := in_spec x wo
            rw [decide_eq_true hx0, decide_eq_true hx1] at hin
            have HI := hid hin
            clear hin
            subst hwo
            go_wp2_with fail
            refine HI.out.mono ?_
            rintro e w_ ⟨rfl, rfl⟩
            go_wp2
            go_loopw [5, 6] (fun av jv wr2 => ∃ j d : Nat, j ≤ n ∧ jv = .int .i64 j ∧ av = .bool (lone ss k j) ∧ wr2 = wo.drewN d) (fun _ jv _ => n - (intOf jv).toNat)
            case atStart => exact ⟨0, 0, Nat.zero_le _, rfl, rfl, by first | rfl | trivial⟩
            case round =>
              obtain ⟨j, d, hj, rfl, rfl, rfl⟩ := hrel
              by_cases hjt : j < n
              · obtain ⟨b5, o5, y, e5, hb5, hy, hcy⟩ := RI.at_ hrr hjt
                injection e5 with e5
                injection e5 with e5 e6
                subst e5 e6
                have HY := hid (getD_at hy)
                clear hy
                have HLN := hid (show lone ss k (j + 1) = (lone ss k j && (j == k || y != x)) by rw [lone, HY.out, HX.out])
                obtain ⟨U, hU⟩ : ∃ U, lone ss k j = U := ⟨_, rfl⟩
                rw [hU] at HLN
                rw [hU]
                clear hU
                have hj0 : (0 : Int) ≤ (j : Int) := by omega
                have hjn : (j : Int) < (n : Int) := by omega
                cases U with
                | false =>
                  have HO := hid (show lone ss k (j + 1) = false by rw [HLN.out]; rfl)
                  go_wp2
                  go_quiet (fail)
                  go_wp2
                  go_roundw
                  case rel => exact ⟨j + 1, _, by omega, by go_num, by rw [HO.out], by first | rfl | exact World.drewN_drewN _ _ _⟩
                  case measure => simp [intOf]; omega
                | true =>
                  by_cases hjk : j = k
                  · have HO := hid (show lone ss k (j + 1) = true by rw [HLN.out, hjk]; simp)
                    have he : ((j : Int) == (k : Int)) = true := by simp [hjk]
                    go_wp2
                    go_quiet (fail)
                    go_wp2
                    go_roundw
                    case rel => exact ⟨j + 1, _, by omega, by go_num, by rw [HO.out], by first | rfl | exact World.drewN_drewN _ _ _⟩
                    case measure => simp [intOf]; omega
                  · have he : ((j : Int) == (k : Int)) = false := by simp; omega
                    have HO := hid (show lone ss k (j + 1) = (y != x) by rw [HLN.out, show (j == k) = false by simp [hjk]]; simp)
                    go_wp2
                    go_quiet (fail)
                    go_wp2
                    go_roundw
                    case rel => exact ⟨j + 1, _, by omega, by go_num, by rw [HO.out], by first | rfl | exact World.drewN_drewN _ _ _⟩
                    case measure => simp [intOf]; omega
              · have hjn : j = n := by omega
                subst hjn
                have HV := hid (show lone ss k j = decide (cntN ss x ss.length = 1) by rw [← HX.out, ← HL.out]; exact lone_all (by rw [HL.out]; exact hlt))
                obtain ⟨U, hU⟩ : ∃ U, lone ss k j = U := ⟨_, rfl⟩
                rw [hU] at HV
                rw [hU]
                clear hU
                have HB5 := hid (HST.out.trans ((Same.drewN _ d).bel _))
                have hown : (wo.drewN d).ownsRow w.heap.size 3 1 (.slice AA q cc) q ((aloneL ss k).map (Value.int .i64)) := HIN.out.2
                have hsz5 := HB5.out.size
                cases U with
                | true =>
                  have hc1 : cntN ss x ss.length = 1 := of_decide_eq_true HV.out.symm
                  have HC := hid hc1
                  clear hc1
                  go_wp2_with (at_builtin; refine wpList_push rfl _ _ _ rfl w.heap.size 3 i0 _ 8 Try.underlying32 hi0 hz0 hz1 hz2 rfl (by omega) _ _ AA q cc _ rfl hown rfl rfl (by omega) (by omega) ?_; intro g' cap w5 hown5 hgrow5 hlies5 hlt5)
                  have hbel5 := below_push HB5.out hown (Nat.le_refl _) (by omega) hgrow5
                  have H5 := hid (And.intro hown5 hbel5)
                  clear hown hown5 hbel5 hgrow5
                  go_roundw
                  case rel => exact ⟨k + 1, q + 1, cap, _, by omega, by go_num, rfl, by omega, hid ⟨fun i hi => by
                    by_cases hik : i = k
                    · subst hik; rw [HX.out]; exact ⟨hx0, hx1⟩
                    · exact HIN.out.1 i (by omega), by rw [aloneL, HX.out, if_pos HC.out, List.map_append]; exact H5.out.1⟩, H5.out.2⟩
                  case measure => simp [intOf]; omega
                | false =>
                  have HC := hid (show ¬ cntN ss x ss.length = 1 from of_decide_eq_false HV.out.symm)
                  have H5 := hid hown
                  clear hown
                  go_wp2
                  go_roundw
                  case rel => exact ⟨k + 1, q, cc, _, by omega, by go_num, rfl, by omega, hid ⟨fun i hi => by
                    by_cases hik : i = k
                    · subst hik; rw [HX.out]; exact ⟨hx0, hx1⟩
                    · exact HIN.out.1 i (by omega), by rw [aloneL, HX.out, if_neg HC.out]; exact H5.out⟩, HB5.out⟩
                  case measure => simp [intOf]; omega
          · have HV := aloneI_no (ss := ss) (fun hh => hx1 (hh.2 x HM.out).2)
            have HF : Hid (RetI 3 w (.returned (.slice (some ⟨wr.heap.size, 0, none⟩) 0 0)) (wr.alloc (.cells #[] 3)) (aloneI ss)) := hid (by rw [HV]; exact retI_of (n := 0) (own_lit0 (w := wr) 3 hsz) (HST.out.alloc hsz _))
            have hin := in_spec x wr
            rw [decide_eq_true hx0, decide_eq_false hx1] at hin
            have HI := hid hin
            clear HV hin
            go_wp2_with fail
            refine HI.out.mono ?_
            rintro e w_ ⟨rfl, rfl⟩
            go_wp2
            go_ret
            exact HF.out
        · have HV := aloneI_no (ss := ss) (fun hh => hx0 (hh.2 x HM.out).1)
          have HF : Hid (RetI 3 w (.returned (.slice (some ⟨wr.heap.size, 0, none⟩) 0 0)) (wr.alloc (.cells #[] 3)) (aloneI ss)) := hid (by rw [HV]; exact retI_of (n := 0) (own_lit0 (w := wr) 3 hsz) (HST.out.alloc hsz _))
          have hin := in_spec x wr
          rw [decide_eq_false hx0] at hin
          have HI := hid hin
          clear HV hin
          go_wp2_with fail
          refine HI.out.mono ?_
          rintro e w_ ⟨rfl, rfl⟩
          go_wp2
          go_ret
          exact HF.out
      · have hkn : k = n := by omega
        subst hkn
        have HOK : ChoicesOk ss := ⟨by rw [HL.out]; exact h8, fun x hx => by
          obtain ⟨j, hj, e⟩ := List.mem_iff_getElem.1 hx
          have := HIN.out.1 j (by rw [← HL.out]; exact hj)
          rw [getD_at (by rw [List.getElem?_eq_getElem hj])] at this
          rw [← e]; exact this⟩
        have HA : aloneI ss = aloneL ss k := by rw [aloneI_yes HOK, HL.out]
        have HF := hid (retI_of HIN.out.2 hbr)
        rw [← HA] at HF
        clear HOK HA own0 bel0 hbr
        go_wp2
        go_ret
        exact HF.out
  · have HV := aloneI_no (ss := ss) (fun hh => by have := hh.1; have := HL.out; omega)
    have HF : Hid (RetI 3 w (.returned (.slice (some ⟨w.heap.size, 0, none⟩) 0 0)) (w.alloc (.cells #[] 3)) (aloneI ss)) := hid (by rw [HV]; exact retI_of (n := 0) own0 bel0)
    clear HV own0 bel0
    go_enter Try.func17, Try.ntmps17
    go_wp2
    go_ret
    exact HF.out
end Go.Proofs.Ytnebmfdjcikegaa
