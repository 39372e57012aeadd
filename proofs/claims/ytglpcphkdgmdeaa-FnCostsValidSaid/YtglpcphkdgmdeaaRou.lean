/-
  CostsValid, the program's and the reference's, walked.
-/
import Derived.Test.YtglpcphkdgmdeaaL1
import Derived.Test.YtglpcphkdgmdeaaTab
import Derived.Deep.QuietTactic
import Derived.BigQuiet
import Derived.Outline
namespace Go.Proofs.Ytglpcphkdgmdeaa
open Go.RowKit
set_option linter.unusedVariables false

/-- Row i is good: as many numbers as rows, in 0..100, its own 0. -/
def RowOk (n i : Nat) (r : List Int) : Prop := r.length = n ∧ r.getD i 0 = 0 ∧ ∀ x ∈ r, 0 ≤ x ∧ x ≤ 100
def CostsOk (rows : List (List Int)) : Prop := rows.length ≤ 10 ∧ ∀ (i : Nat) r, rows[i]? = some r → RowOk rows.length i r
open Classical in
noncomputable def costsB (rows : List (List Int)) : Bool := decide (CostsOk rows)
open Classical in
theorem costsB_yes {rows : List (List Int)} (h : CostsOk rows) : costsB rows = true := by unfold costsB; exact decide_eq_true h
open Classical in
theorem costsB_no {rows : List (List Int)} (h : ¬ CostsOk rows) : costsB rows = false := by unfold costsB; exact decide_eq_false h
open Classical in
theorem costsB_iff {rows : List (List Int)} : costsB rows = true ↔ CostsOk rows := by unfold costsB; exact decide_eq_true_iff

set_option maxHeartbeats 1600000 in
theorem costsValid_impl (A : Option Addr) (n c B : Nat) (rows : List (List Int)) (w : World) (h : RII w B A n rows) (hn : n ≤ 1000000000) :
    Calls Try.prog 9 #[.slice A n c] w fun e w' => e = .returned (.bool (costsB rows)) ∧ w = w' := by
  have HL := hid (RII.len h)
  by_cases hbig : 10 < n
  · have HV := hid (costsB_no (rows := rows) (fun hh => by have := hh.1; have := HL.out; omega))
    go_enter Try.func9, Try.ntmps9
    go_wp2
    go_ret
    exact ⟨ret_bool HV.out.symm, rfl⟩
  · go_enter Try.func9, Try.ntmps9
    go_wp2
    go_loop [12] (fun i => ∃ k : Nat, k ≤ n ∧ i = .int .i64 k ∧ Hid (∀ (j : Nat) r, j < k → rows[j]? = some r → RowOk n j r)) (fun i => n - (intOf i).toNat)
    case atStart => exact ⟨0, Nat.zero_le _, rfl, hid (fun j r hj => by omega)⟩
    case round =>
      obtain ⟨k, hk, rfl, HK⟩ := hrel
      by_cases hlt : k < n
      · obtain ⟨b, o, A', n', c', r, rfl, hb, hx, hcl, hr, hn', hc'⟩ := RII.at_ h hlt
        have hrl : r.length = n' := RI.len hr
        have HX := hid (And.intro hx hrl)
        clear hx hrl
        by_cases hnn : n' = n
        · subst hnn
          have hne : ((n' : Int) != (n' : Int)) = false := by simp
          obtain ⟨b', o', x, rfl, hb', hx', hc1⟩ := RI.at_ hr hlt
          have HX' := hid hx'
          clear hx'
          by_cases hx0 : x = 0
          · subst hx0
            have hz : ((0 : Int) != 0) = false := by simp
            go_wp2
            go_loop [31] (fun i => ∃ m : Nat, m ≤ n' ∧ i = .int .i64 m ∧ Hid (∀ y ∈ r.take m, 0 ≤ y ∧ y ≤ 100)) (fun i => n' - (intOf i).toNat)
            case atStart => exact ⟨0, Nat.zero_le _, rfl, hid (by simp)⟩
            case round =>
              obtain ⟨m, hm, rfl, HM⟩ := hrel
              by_cases hmt : m < n'
              · obtain ⟨b2, o2, y, he2, hb2, hy, hcy⟩ := RI.at_ hr hmt
                injection he2 with he2
                injection he2 with he2 he3
                subst he2 he3
                have HY := hid hy
                clear hy
                by_cases hyb : 0 ≤ y ∧ y ≤ 100
                · obtain ⟨y0, y1⟩ := hyb
                  go_wp2
                  go_round
                  case rel => exact ⟨m + 1, by omega, by go_num, hid (by
                    rw [take_snoc _ _ _ HY.out]
                    intro z hz
                    rw [List.mem_append, List.mem_singleton] at hz
                    rcases hz with hz | rfl
                    · exact HM.out z hz
                    · exact ⟨y0, y1⟩)⟩
                  case measure => simp [intOf]; omega
                · have HV := hid (costsB_no (rows := rows) (fun hh => hyb ((hh.2 k r HX.out.1).2.2 y (List.mem_of_getElem? HY.out))))
                  by_cases hy0 : 0 ≤ y
                  · have hy1 : 100 < y := by omega
                    clear hyb
                    go_wp2
                    go_ret
                    exact ⟨ret_bool HV.out.symm, rfl⟩
                  · clear hyb
                    go_wp2
                    go_ret
                    exact ⟨ret_bool HV.out.symm, rfl⟩
              · have HK' : Hid (∀ (j : Nat) r, j < k + 1 → rows[j]? = some r → RowOk n' j r) := hid (by
                  intro j q hj hq
                  by_cases hjk : j = k
                  · subst hjk
                    rw [HX.out.1] at hq
                    injection hq with hq
                    subst hq
                    refine ⟨HX.out.2, by rw [List.getD_eq_getElem?_getD, HX'.out]; rfl, fun y hy => ?_⟩
                    have := HM.out
                    rw [List.take_of_length_le (by rw [HX.out.2]; omega)] at this
                    exact this y hy
                  · exact HK.out j q (by omega) hq)
                go_wp2
                go_round
                case rel => exact ⟨k + 1, by omega, by go_num, HK'⟩
                case measure => simp [intOf]; omega
          · have hz : (x != 0) = true := by simp [hx0]
            have HV := hid (costsB_no (rows := rows) (fun hh => hx0 (by have := (hh.2 k r HX.out.1).2.1; rw [List.getD_eq_getElem?_getD, HX'.out] at this; exact this)))
            go_wp2
            go_ret
            exact ⟨ret_bool HV.out.symm, rfl⟩
        · have hne : ((n' : Int) != (n : Int)) = true := by simp; omega
          have HV := hid (costsB_no (rows := rows) (fun hh => hnn (by have := (hh.2 k r HX.out.1).1; rw [HX.out.2, HL.out] at this; exact this)))
          go_wp2
          go_ret
          exact ⟨ret_bool HV.out.symm, rfl⟩
      · have HV := hid (costsB_yes (rows := rows) ⟨by rw [HL.out]; omega, fun i r hi => by rw [HL.out]; exact HK.out i r (by have := (List.getElem?_eq_some_iff.1 hi).1; have := HL.out; omega) hi⟩)
        go_wp2
        go_ret
        exact ⟨ret_bool HV.out.symm, rfl⟩
set_option maxHeartbeats 1600000 in
theorem costsValid_spec (A : Option Addr) (n c B : Nat) (rows : List (List Int)) (w : World) (h : RII w B A n rows) (hn : n ≤ 1000000000) :
    Calls Try.prog 7 #[.slice A n c] w fun e w' => e = .returned (.bool (costsB rows)) ∧ w = w' := by
  have HL := hid (RII.len h)
  go_enter Try.func7, Try.ntmps7
  go_wp2
  go_loop [4] (fun i => ∃ k : Nat, k ≤ n ∧ i = .int .i64 k ∧ Hid (∀ (j : Nat) r, j < k → rows[j]? = some r → RowOk n j r)) (fun i => n - (intOf i).toNat)
  case atStart => exact ⟨0, Nat.zero_le _, rfl, hid (fun j r hj => by omega)⟩
  case round =>
    obtain ⟨k, hk, rfl, HK⟩ := hrel
    by_cases hlt : k < n
    · obtain ⟨b, o, A', n', c', r, rfl, hb, hx, hcl, hr, hn', hc'⟩ := RII.at_ h hlt
      have hrl : r.length = n' := RI.len hr
      have HX := hid (And.intro hx hrl)
      clear hx hrl
      by_cases hnn : n' = n
      · subst hnn
        have hne : ((n' : Int) != (n' : Int)) = false := by simp
        obtain ⟨b', o', x, rfl, hb', hx', hc1⟩ := RI.at_ hr hlt
        have HX' := hid hx'
        clear hx'
        by_cases hx0 : x = 0
        · subst hx0
          have hz : ((0 : Int) != 0) = false := by simp
          go_wp2
          go_loop [5] (fun i => ∃ m : Nat, m ≤ n' ∧ i = .int .i64 m ∧ Hid (∀ y ∈ r.take m, 0 ≤ y ∧ y ≤ 100)) (fun i => n' - (intOf i).toNat)
          case atStart => exact ⟨0, Nat.zero_le _, rfl, hid (by simp)⟩
          case round =>
            obtain ⟨m, hm, rfl, HM⟩ := hrel
            by_cases hmt : m < n'
            · obtain ⟨b2, o2, y, he2, hb2, hy, hcy⟩ := RI.at_ hr hmt
              injection he2 with he2
              injection he2 with he2 he3
              subst he2 he3
              have HY := hid hy
              clear hy
              by_cases hyb : 0 ≤ y ∧ y ≤ 100
              · have hin := l1In_yes y 0 100 w hyb.1 hyb.2
                have HIN := hid hin
                clear hin
                go_wp2_with fail
                refine HIN.out.mono ?_
                rintro e w1 ⟨rfl, rfl⟩
                go_wp2
                go_round
                case rel => exact ⟨m + 1, by omega, by go_num, hid (by
                  rw [take_snoc _ _ _ HY.out]
                  intro z hz
                  rw [List.mem_append, List.mem_singleton] at hz
                  rcases hz with hz | rfl
                  · exact HM.out z hz
                  · exact hyb)⟩
                case measure => simp [intOf]; omega
              · have HV := hid (costsB_no (rows := rows) (fun hh => hyb ((hh.2 k r HX.out.1).2.2 y (List.mem_of_getElem? HY.out))))
                have hin := l1In_no y 0 100 w (by omega)
                have HIN := hid hin
                clear hin hyb
                go_wp2_with fail
                refine HIN.out.mono ?_
                rintro e w1 ⟨rfl, rfl⟩
                go_wp2
                go_ret
                exact ⟨ret_bool HV.out.symm, rfl⟩
            · have HK' : Hid (∀ (j : Nat) r, j < k + 1 → rows[j]? = some r → RowOk n' j r) := hid (by
                intro j q hj hq
                by_cases hjk : j = k
                · subst hjk
                  rw [HX.out.1] at hq
                  injection hq with hq
                  subst hq
                  refine ⟨HX.out.2, by rw [List.getD_eq_getElem?_getD, HX'.out]; rfl, fun y hy => ?_⟩
                  have := HM.out
                  rw [List.take_of_length_le (by rw [HX.out.2]; omega)] at this
                  exact this y hy
                · exact HK.out j q (by omega) hq)
              go_wp2
              go_round
              case rel => exact ⟨k + 1, by omega, by go_num, HK'⟩
              case measure => simp [intOf]; omega
        · have hz : (x != 0) = true := by simp [hx0]
          have HV := hid (costsB_no (rows := rows) (fun hh => hx0 (by have := (hh.2 k r HX.out.1).2.1; rw [List.getD_eq_getElem?_getD, HX'.out] at this; exact this)))
          go_wp2
          go_ret
          exact ⟨ret_bool HV.out.symm, rfl⟩
      · have hne : ((n' : Int) != (n : Int)) = true := by simp; omega
        have HV := hid (costsB_no (rows := rows) (fun hh => hnn (by have := (hh.2 k r HX.out.1).1; rw [HX.out.2, HL.out] at this; exact this)))
        go_wp2
        go_ret
        exact ⟨ret_bool HV.out.symm, rfl⟩
    · by_cases hbig : n ≤ 10
      · have HV := hid (costsB_yes (rows := rows) ⟨by rw [HL.out]; omega, fun i r hi => by rw [HL.out]; exact HK.out i r (by have := (List.getElem?_eq_some_iff.1 hi).1; have := HL.out; omega) hi⟩)
        go_wp2
        go_ret
        exact ⟨(ret_bool (by rw [HV.out]; simp; omega)), rfl⟩
      · have HV := hid (costsB_no (rows := rows) (fun hh => by have := hh.1; have := HL.out; omega))
        go_wp2
        go_ret
        exact ⟨(ret_bool (by rw [HV.out]; simp; omega)), rfl⟩
end Go.Proofs.Ytglpcphkdgmdeaa
