/-
  ConflictsValid, the program's and the reference's, walked.
-/
import Derived.Test.YtgccpjhkgkhllaaDoorProg
import Derived.Test.YtgccpjhkgkhllaaDoorTab
import Derived.Deep.QuietTactic
import Derived.BigQuiet
import Derived.Outline
namespace Go.Proofs.YtgccpjhkgkhllaaDoor
open Go.RowKit
set_option linter.unusedVariables false

/-- Are stations i and j in conflict? -/
def cf (rows : List (List Bool)) (i j : Nat) : Bool := (rows.getD i []).getD j false
theorem cf_of {rows : List (List Bool)} {i j : Nat} {r : List Bool} {x : Bool} (h : rows[i]? = some r) (hx : r[j]? = some x) : cf rows i j = x := by
  unfold cf
  rw [List.getD_eq_getElem?_getD, List.getD_eq_getElem?_getD, h]
  simp [hx]
def PairOk (rows : List (List Bool)) (i j : Nat) : Prop := cf rows i j = cf rows j i ∧ (i = j → cf rows i j = false)
def ConfOk (rows : List (List Bool)) : Prop := rows.length ≤ 10 ∧ (∀ (i : Nat) r, rows[i]? = some r → r.length = rows.length) ∧ ∀ i j, i < rows.length → j < rows.length → PairOk rows i j
open Classical in
noncomputable def confB (rows : List (List Bool)) : Bool := decide (ConfOk rows)
open Classical in
theorem confB_yes {rows : List (List Bool)} (h : ConfOk rows) : confB rows = true := by unfold confB; exact decide_eq_true h
open Classical in
theorem confB_no {rows : List (List Bool)} (h : ¬ ConfOk rows) : confB rows = false := by unfold confB; exact decide_eq_false h
open Classical in
theorem confB_iff {rows : List (List Bool)} : confB rows = true ↔ ConfOk rows := by unfold confB; exact decide_eq_true_iff

set_option maxHeartbeats 1600000 in
theorem confValid_impl (A : Option Addr) (n c B : Nat) (rows : List (List Bool)) (w : World) (h : RTT w B A n rows) (hn : n ≤ 1000000000) :
    Calls Tryd.prog 30 #[.slice A n c] w fun e w' => e = .returned (.bool (confB rows)) ∧ w = w' := by
  have HL := hid (RTT.len h)
  by_cases hbig : 10 < n
  · have HV := hid (confB_no (rows := rows) (fun hh => by have := hh.1; have := HL.out; omega))
    go_enter Tryd.func30, Tryd.ntmps30
    go_wp2
    go_ret
    exact ⟨ret_bool HV.out.symm, rfl⟩
  · go_enter Tryd.func30, Tryd.ntmps30
    go_wp2
    go_loop [14] (fun i => ∃ k : Nat, k ≤ n ∧ i = .int .i64 k ∧ Hid (∀ (j : Nat) r, j < k → rows[j]? = some r → r.length = n)) (fun i => n - (intOf i).toNat)
    case atStart => exact ⟨0, Nat.zero_le _, rfl, hid (fun j r hj => by omega)⟩
    case round =>
      obtain ⟨k, hk, rfl, HK⟩ := hrel
      by_cases hlt : k < n
      · obtain ⟨b, o, A', n', c', r, rfl, hb, hx, hcl, hr, hn', hc'⟩ := RTT.at_ h hlt
        have hrl : r.length = n' := RT.len hr
        have HX := hid (And.intro hx hrl)
        clear hx hrl
        by_cases hnn : n' = n
        · subst hnn
          have hne : ((n' : Int) != (n' : Int)) = false := by simp
          go_wp2
          go_round
          case rel => exact ⟨k + 1, by omega, by go_num, hid (fun j q hj hq => by
            by_cases hjk : j = k
            · subst hjk; rw [HX.out.1] at hq; injection hq with hq; subst hq; exact HX.out.2
            · exact HK.out j q (by omega) hq)⟩
          case measure => simp [intOf]; omega
        · have hne : ((n' : Int) != (n : Int)) = true := by simp; omega
          have HV := hid (confB_no (rows := rows) (fun hh => hnn (by have := hh.2.1 k r HX.out.1; rw [HX.out.2, HL.out] at this; exact this)))
          go_wp2
          go_ret
          exact ⟨ret_bool HV.out.symm, rfl⟩
      · have HR : Hid (∀ (j : Nat) r, rows[j]? = some r → r.length = n) := hid (fun j r hj => HK.out j r (by have := (List.getElem?_eq_some_iff.1 hj).1; have := HL.out; omega) hj)
        clear HK
        go_wp2
        go_loop [26] (fun i => ∃ k : Nat, k ≤ n ∧ i = .int .i64 k ∧ Hid (∀ i j, i < k → j < n → PairOk rows i j)) (fun i => n - (intOf i).toNat)
        case atStart => exact ⟨0, Nat.zero_le _, rfl, hid (fun i j hi => by omega)⟩
        case round =>
          obtain ⟨k, hk, rfl, HK⟩ := hrel
          by_cases hlt : k < n
          · obtain ⟨b, o, A', n', c', r, rfl, hb, hx, hcl, hr, hn', hc'⟩ := RTT.at_ h hlt
            have hnn : n' = n := by rw [← RT.len hr]; exact HR.out k r hx
            subst hnn
            have HX := hid hx
            clear hx
            go_wp2
            go_loop [33] (fun i => ∃ m : Nat, m ≤ n' ∧ i = .int .i64 m ∧ Hid (∀ j, j < m → PairOk rows k j)) (fun i => n' - (intOf i).toNat)
            case atStart => exact ⟨0, Nat.zero_le _, rfl, hid (fun j hj => by omega)⟩
            case round =>
              obtain ⟨m, hm, rfl, HM⟩ := hrel
              by_cases hmt : m < n'
              · obtain ⟨b1, o1, x, rfl, hb1, hx1, hc1⟩ := RT.at_ hr hmt
                obtain ⟨b2, o2, A2, n2, c2, r2, he2, hb2, hx2, hcl2, hr2, hn2, hc2⟩ := RTT.at_ h hmt
                injection he2 with he2
                injection he2 with he2 he3
                subst he2 he3
                have hnn : n2 = n' := by rw [← RT.len hr2]; exact HR.out m r2 hx2
                subst hnn
                obtain ⟨b3, o3, y, rfl, hb3, hx3, hc3⟩ := RT.at_ hr2 hlt
                have HP : Hid (cf rows k m = x ∧ cf rows m k = y) := hid ⟨cf_of HX.out hx1, cf_of hx2 hx3⟩
                have hk0 : (0 : Int) ≤ (k : Int) := by omega
                have hm0 : (0 : Int) ≤ (m : Int) := by omega
                have hkn : (k : Int) < (n2 : Int) := by omega
                have hmn : (m : Int) < (n2 : Int) := by omega
                clear hx1 hx2 hx3
                by_cases hkm : k = m
                · subst hkm
                  have hxy : x = y := HP.out.1.symm.trans HP.out.2
                  subst hxy
                  have hq : ((k : Int) == (k : Int)) = true := by simp
                  cases x
                  · go_wp2
                    go_round
                    case rel => exact ⟨k + 1, by omega, by go_num, hid (fun j hj => by
                      by_cases hjk : j = k
                      · subst hjk; exact ⟨rfl, fun _ => HP.out.1⟩
                      · exact HM.out j (by omega))⟩
                    case measure => simp [intOf]; omega
                  · have HV := hid (confB_no (rows := rows) (fun hh => by have := (hh.2.2 k k (by rw [HL.out]; exact hlt) (by rw [HL.out]; exact hlt)).2 rfl; rw [HP.out.1] at this; cases this))
                    go_wp2
                    go_ret
                    exact ⟨ret_bool HV.out.symm, rfl⟩
                · have hq : ((k : Int) == (m : Int)) = false := by simp; omega
                  by_cases hxy : x = y
                  · subst hxy
                    have hne : (x != x) = false := by simp
                    cases x
                    all_goals
                      go_wp2
                      go_round
                      case rel => exact ⟨m + 1, by omega, by go_num, hid (fun j hj => by
                        by_cases hjk : j = m
                        · subst hjk; exact ⟨HP.out.1.trans HP.out.2.symm, fun e => absurd e hkm⟩
                        · exact HM.out j (by omega))⟩
                      case measure => simp [intOf]; omega
                  · have HV := hid (confB_no (rows := rows) (fun hh => hxy (by have := (hh.2.2 k m (by rw [HL.out]; exact hlt) (by rw [HL.out]; exact hmt)).1; rw [HP.out.1, HP.out.2] at this; exact this)))
                    cases x
                    all_goals
                      cases y
                      all_goals first
                        | exact absurd rfl hxy
                        | (go_wp2
                           go_ret
                           exact ⟨ret_bool HV.out.symm, rfl⟩)
              · go_wp2
                go_round
                case rel => exact ⟨k + 1, by omega, by go_num, hid (fun i j hi hj => by
                  by_cases hik : i = k
                  · subst hik; exact HM.out j (by omega)
                  · exact HK.out i j (by omega) hj)⟩
                case measure => simp [intOf]; omega
          · have HV := hid (confB_yes (rows := rows) ⟨by rw [HL.out]; omega, fun i r hi => by rw [HL.out]; exact HR.out i r hi, fun i j hi hj => HK.out i j (by rw [HL.out] at hi; omega) (by rw [HL.out] at hj; exact hj)⟩)
            go_wp2
            go_ret
            exact ⟨ret_bool HV.out.symm, rfl⟩

set_option maxHeartbeats 1600000 in
theorem confValid_spec (A : Option Addr) (n c B : Nat) (rows : List (List Bool)) (w : World) (h : RTT w B A n rows) (hn : n ≤ 1000000000) :
    Calls Tryd.prog 36 #[.slice A n c] w fun e w' => e = .returned (.bool (confB rows)) ∧ ∃ m, w' = w.drewN m := by
  have HL := hid (RTT.len h)
  go_enter Tryd.func36, Tryd.ntmps36
  go_wp2
  go_loop [4] (fun i => ∃ k : Nat, k ≤ n ∧ i = .int .i64 k ∧ Hid (∀ (j : Nat) r, j < k → rows[j]? = some r → r.length = n)) (fun i => n - (intOf i).toNat)
  case atStart => exact ⟨0, Nat.zero_le _, rfl, hid (fun j r hj => by omega)⟩
  case round =>
    obtain ⟨k, hk, rfl, HK⟩ := hrel
    by_cases hlt : k < n
    · obtain ⟨b, o, A', n', c', r, rfl, hb, hx, hcl, hr, hn', hc'⟩ := RTT.at_ h hlt
      have hrl : r.length = n' := RT.len hr
      have HX := hid (And.intro hx hrl)
      clear hx hrl
      by_cases hnn : n' = n
      · subst hnn
        have hne : ((n' : Int) != (n' : Int)) = false := by simp
        go_wp2
        go_round
        case rel => exact ⟨k + 1, by omega, by go_num, hid (fun j q hj hq => by
          by_cases hjk : j = k
          · subst hjk; rw [HX.out.1] at hq; injection hq with hq; subst hq; exact HX.out.2
          · exact HK.out j q (by omega) hq)⟩
        case measure => simp [intOf]; omega
      · have hne : ((n' : Int) != (n : Int)) = true := by simp; omega
        have HV := hid (confB_no (rows := rows) (fun hh => hnn (by have := hh.2.1 k r HX.out.1; rw [HX.out.2, HL.out] at this; exact this)))
        go_wp2
        go_ret
        exact ⟨ret_bool HV.out.symm, 0, rfl⟩
    · have HR : Hid (∀ (j : Nat) r, rows[j]? = some r → r.length = n) := hid (fun j r hj => HK.out j r (by have := (List.getElem?_eq_some_iff.1 hj).1; have := HL.out; omega) hj)
      clear HK
      go_wp2
      go_loopw [5] (fun i wr => ∃ k d : Nat, k ≤ n ∧ i = .int .i64 k ∧ wr = w.drewN d ∧ Hid (∀ i j, i < k → j < n → PairOk rows i j)) (fun i _ => n - (intOf i).toNat)
      case atStart => exact ⟨0, 0, Nat.zero_le _, rfl, rfl, hid (fun i j hi => by omega)⟩
      case round =>
        obtain ⟨k, d, hk, rfl, rfl, HK⟩ := hrel
        by_cases hlt : k < n
        · obtain ⟨b, o, A', n', c', r, rfl, hb, hx, hcl, hr, hn', hc'⟩ := RTT.at_ h hlt
          have hnn : n' = n := by rw [← RT.len hr]; exact HR.out k r hx
          subst hnn
          obtain ⟨b4, o4, z, rfl, hb4, hz, hcz⟩ := RT.at_ hr hlt
          have HX := hid (And.intro hx hz)
          have HZ : Hid (cf rows k k = z) := hid (cf_of hx hz)
          clear hx hz
          go_wp2
          go_loopw [6] (fun i wr => ∃ m d : Nat, m ≤ n' ∧ i = .int .i64 m ∧ wr = w.drewN d ∧ Hid (∀ j, j < m → PairOk rows k j)) (fun i _ => n' - (intOf i).toNat)
          case atStart => exact ⟨0, d, Nat.zero_le _, rfl, rfl, hid (fun j hj => by omega)⟩
          case round =>
            obtain ⟨m, d2, hm, rfl, rfl, HM⟩ := hrel
            by_cases hmt : m < n'
            · obtain ⟨b1, o1, x, he1, hb1, hx1, hc1⟩ := RT.at_ hr hmt
              injection he1 with he1
              injection he1 with he1 he11
              subst he1 he11
              obtain ⟨b2, o2, A2, n2, c2, r2, he2, hb2, hx2, hcl2, hr2, hn2, hc2⟩ := RTT.at_ h hmt
              injection he2 with he2
              injection he2 with he2 he3
              subst he2 he3
              have hnn : n2 = n' := by rw [← RT.len hr2]; exact HR.out m r2 hx2
              subst hnn
              obtain ⟨b3, o3, y, rfl, hb3, hx3, hc3⟩ := RT.at_ hr2 hlt
              have HP : Hid (cf rows k m = x ∧ cf rows m k = y) := hid ⟨cf_of HX.out.1 hx1, cf_of hx2 hx3⟩
              have hk0 : (0 : Int) ≤ (k : Int) := by omega
              have hm0 : (0 : Int) ≤ (m : Int) := by omega
              have hkn : (k : Int) < (n2 : Int) := by omega
              have hmn : (m : Int) < (n2 : Int) := by omega
              clear hx1 hx2 hx3
              by_cases hxy : x = y
              · subst hxy
                have hne : (x != x) = false := by simp
                cases z
                · go_wp2
                  go_quiet (fail)
                  go_wp2
                  go_roundw
                  case rel => exact ⟨m + 1, _, by omega, by go_num, rfl, hid (fun j hj => by
                      by_cases hjk : j = m
                      · subst hjk; exact ⟨HP.out.1.trans HP.out.2.symm, fun e => by subst e; exact HZ.out⟩
                      · exact HM.out j (by omega))⟩
                  case measure => simp [intOf]; omega
                · have HV := hid (confB_no (rows := rows) (fun hh => by have := (hh.2.2 k k (by rw [HL.out]; exact hlt) (by rw [HL.out]; exact hlt)).2 rfl; rw [HZ.out] at this; cases this))
                  go_wp2
                  go_quiet (fail)
                  go_wp2
                  go_ret
                  exact ⟨ret_bool HV.out.symm, _, by first | rfl | exact World.drewN_drewN _ _ _⟩
              · have hne : (x != y) = true := by simp [hxy]
                have HV := hid (confB_no (rows := rows) (fun hh => hxy (by have := (hh.2.2 k m (by rw [HL.out]; exact hlt) (by rw [HL.out]; exact hmt)).1; rw [HP.out.1, HP.out.2] at this; exact this)))
                go_wp2
                go_quiet (fail)
                go_wp2
                go_ret
                exact ⟨ret_bool HV.out.symm, _, by first | rfl | exact World.drewN_drewN _ _ _⟩
            · go_wp2
              go_roundw
              case rel => exact ⟨k + 1, d2, by omega, by go_num, rfl, hid (fun i j hi hj => by
                by_cases hik : i = k
                · subst hik; exact HM.out j (by omega)
                · exact HK.out i j (by omega) hj)⟩
              case measure => simp [intOf]; omega
        · by_cases hbig : n ≤ 10
          · have HV := hid (confB_yes (rows := rows) ⟨by rw [HL.out]; omega, fun i r hi => by rw [HL.out]; exact HR.out i r hi, fun i j hi hj => HK.out i j (by rw [HL.out] at hi; omega) (by rw [HL.out] at hj; exact hj)⟩)
            go_wp2
            go_ret
            exact ⟨ret_bool (by rw [HV.out]; simp; omega), _, rfl⟩
          · have HV := hid (confB_no (rows := rows) (fun hh => by have := hh.1; have := HL.out; omega))
            go_wp2
            go_ret
            exact ⟨ret_bool (by rw [HV.out]; simp; omega), _, rfl⟩
end Go.Proofs.YtgccpjhkgkhllaaDoor
