/-
  SlotsValid, the program's and the reference's, walked.
-/
import Derived.Test.YtgccpjhkgkhllaaDoorSloA
namespace Go.Proofs.YtgccpjhkgkhllaaDoor
open Go.RowKit
set_option linter.unusedVariables false

def SlotOk (rows : List (List Bool)) (ss : List Int) (i : Nat) : Prop := 0 ≤ ss.getD i 0 ∧ ss.getD i 0 ≤ 9 ∧ ∀ j, j < rows.length → cf rows i j = true → ss.getD j 0 ≠ ss.getD i 0
def SlotsOk (rows : List (List Bool)) (ss : List Int) : Prop := ConfOk rows ∧ ss.length = rows.length ∧ ∀ i, i < rows.length → SlotOk rows ss i
open Classical in
noncomputable def slotsB (rows : List (List Bool)) (ss : List Int) : Bool := decide (SlotsOk rows ss)
open Classical in
theorem slotsB_yes {rows : List (List Bool)} {ss : List Int} (h : SlotsOk rows ss) : slotsB rows ss = true := by unfold slotsB; exact decide_eq_true h
open Classical in
theorem slotsB_no {rows : List (List Bool)} {ss : List Int} (h : ¬ SlotsOk rows ss) : slotsB rows ss = false := by unfold slotsB; exact decide_eq_false h
open Classical in
theorem slotsB_iff {rows : List (List Bool)} {ss : List Int} : slotsB rows ss = true ↔ SlotsOk rows ss := by unfold slotsB; exact decide_eq_true_iff
theorem getD_of {ss : List Int} {i : Nat} {x : Int} (h : ss[i]? = some x) : ss.getD i 0 = x := by rw [List.getD_eq_getElem?_getD, h]; rfl
set_option maxHeartbeats 1600000 in
theorem slotsValid_impl (A A' : Option Addr) (n n' c c' B : Nat) (rows : List (List Bool)) (ss : List Int) (w : World) (h : RTT w B A n rows) (h' : RI w B A' n' ss) (hn : n ≤ 1000000000) (hn' : n' ≤ 1000000000) :
    Calls Tryd.prog 17 #[.slice A n c, .slice A' n' c'] w fun e w' => e = .returned (.bool (slotsB rows ss)) ∧ w = w' := by
  have HL := hid (RTT.len h)
  have HL' := hid (RI.len h')
  have hcv := confValid_impl A n c B rows w h hn
  by_cases hco : ConfOk rows
  · rw [confB_yes hco] at hcv
    have HCV := hid hcv
    have HCO := hid hco
    clear hcv hco
    by_cases hnn : n' = n
    · subst hnn
      have hne : ((n' : Int) != (n' : Int)) = false := by simp
      go_enter Tryd.func17, Tryd.ntmps17
      go_wp2_with fail
      refine HCV.out.mono ?_
      rintro e w1 ⟨rfl, rfl⟩
      go_wp2
      go_loop [21] (fun i => ∃ k : Nat, k ≤ n' ∧ i = .int .i64 k ∧ Hid (∀ i, i < k → SlotOk rows ss i)) (fun i => n' - (intOf i).toNat)
      case atStart => exact ⟨0, Nat.zero_le _, rfl, hid (fun i hi => by omega)⟩
      case round =>
        obtain ⟨k, hk, rfl, HK⟩ := hrel
        by_cases hlt : k < n'
        · obtain ⟨b, o, s, rfl, hb, hs, hcs⟩ := RI.at_ h' hlt
          have HSs : Hid (ss.getD k 0 = s) := hid (getD_of hs)
          clear hs
          by_cases hs0 : 0 ≤ s
          · by_cases hs9 : s ≤ 9
            · obtain ⟨b1, o1, A1, n1, c1, r, rfl, hb1, hx, hcl, hr, hn1, hc1⟩ := RTT.at_ h hlt
              have hnn : n1 = n' := by rw [← RT.len hr, HCO.out.2.1 k r hx, HL.out]
              subst hnn
              have HX := hid hx
              have hk0 : (0 : Int) ≤ (k : Int) := by omega
              have hkn : (k : Int) < (n1 : Int) := by omega
              clear hx
              go_wp2
              go_loop [37] (fun i => ∃ m : Nat, m ≤ n1 ∧ i = .int .i64 m ∧ Hid (∀ j, j < m → cf rows k j = true → ss.getD j 0 ≠ ss.getD k 0)) (fun i => n1 - (intOf i).toNat)
              case atStart => exact ⟨0, Nat.zero_le _, rfl, hid (fun j hj => by omega)⟩
              case round =>
                obtain ⟨m, hm, rfl, HM⟩ := hrel
                by_cases hmt : m < n1
                · obtain ⟨b2, o2, x, rfl, hb2, hx2, hc2⟩ := RT.at_ hr hmt
                  obtain ⟨b3, o3, y, he3, hb3, hy, hcy⟩ := RI.at_ h' hmt
                  injection he3 with he3
                  injection he3 with he3 he31
                  subst he3 he31
                  have HP : Hid (cf rows k m = x ∧ ss.getD m 0 = y) := hid ⟨cf_of HX.out hx2, getD_of hy⟩
                  have hm0 : (0 : Int) ≤ (m : Int) := by omega
                  have hmn : (m : Int) < (n1 : Int) := by omega
                  clear hx2 hy
                  cases x
                  · go_wp2
                    go_round
                    case rel => exact ⟨m + 1, by omega, by go_num, hid (fun j hj hc => by
                      by_cases hjm : j = m
                      · subst hjm; rw [HP.out.1] at hc; cases hc
                      · exact HM.out j (by omega) hc)⟩
                    case measure => simp [intOf]; omega
                  · by_cases hys : y = s
                    · have hq : (y == s) = true := by simp [hys]
                      have HV := hid (slotsB_no (rows := rows) (ss := ss) (fun hh => (hh.2.2 k (by rw [HL.out]; exact hlt)).2.2 m (by rw [HL.out]; exact hmt) HP.out.1 (by rw [HP.out.2, HSs.out]; exact hys)))
                      clear hys
                      go_wp2
                      go_ret
                      exact ⟨ret_bool HV.out.symm, rfl⟩
                    · have hq : (y == s) = false := by simp [hys]
                      go_wp2
                      go_round
                      case rel => exact ⟨m + 1, by omega, by go_num, hid (fun j hj hc => by
                        by_cases hjm : j = m
                        · subst hjm; rw [HP.out.2, HSs.out]; exact hys
                        · exact HM.out j (by omega) hc)⟩
                      case measure => simp [intOf]; omega
                · go_wp2
                  go_round
                  case rel => exact ⟨k + 1, by omega, by go_num, hid (fun i hi => by
                    by_cases hik : i = k
                    · subst hik; exact ⟨by rw [HSs.out]; exact hs0, by rw [HSs.out]; exact hs9, fun j hj => HM.out j (by rw [HL.out] at hj; omega)⟩
                    · exact HK.out i (by omega))⟩
                  case measure => simp [intOf]; omega
            · have HV := hid (slotsB_no (rows := rows) (ss := ss) (fun hh => hs9 (by have := (hh.2.2 k (by rw [HL.out]; exact hlt)).2.1; rw [HSs.out] at this; exact this)))
              go_wp2
              go_ret
              exact ⟨ret_bool HV.out.symm, rfl⟩
          · have HV := hid (slotsB_no (rows := rows) (ss := ss) (fun hh => hs0 (by have := (hh.2.2 k (by rw [HL.out]; exact hlt)).1; rw [HSs.out] at this; exact this)))
            go_wp2
            go_ret
            exact ⟨ret_bool HV.out.symm, rfl⟩
        · have HV := hid (slotsB_yes (rows := rows) (ss := ss) ⟨HCO.out, by rw [HL.out, HL'.out], fun i hi => HK.out i (by rw [HL.out] at hi; omega)⟩)
          go_wp2
          go_ret
          exact ⟨ret_bool HV.out.symm, rfl⟩
    · have hne : ((n' : Int) != (n : Int)) = true := by simp; omega
      have HV := hid (slotsB_no (rows := rows) (ss := ss) (fun hh => hnn (by have := hh.2.1; rw [HL.out, HL'.out] at this; exact this)))
      go_enter Tryd.func17, Tryd.ntmps17
      go_wp2_with fail
      refine HCV.out.mono ?_
      rintro e w1 ⟨rfl, rfl⟩
      go_wp2
      go_ret
      exact ⟨ret_bool HV.out.symm, rfl⟩
  · rw [confB_no hco] at hcv
    have HCV := hid hcv
    have HV := hid (slotsB_no (rows := rows) (ss := ss) (fun hh => hco hh.1))
    clear hcv hco
    go_enter Tryd.func17, Tryd.ntmps17
    go_wp2_with fail
    refine HCV.out.mono ?_
    rintro e w1 ⟨rfl, rfl⟩
    go_wp2
    go_ret
    exact ⟨ret_bool HV.out.symm, rfl⟩
/-- Below i alone: by symmetry that is enough. -/
def SlotLow (rows : List (List Bool)) (ss : List Int) (i : Nat) : Prop := 0 ≤ ss.getD i 0 ∧ ss.getD i 0 ≤ 9 ∧ ∀ j, j < i → cf rows i j = true → ss.getD i 0 ≠ ss.getD j 0
end Go.Proofs.YtgccpjhkgkhllaaDoor
