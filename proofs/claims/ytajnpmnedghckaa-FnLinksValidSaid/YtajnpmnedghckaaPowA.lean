/-
  LinksValid, the program's and the reference's, walked.
-/
import Derived.Test.YtajnpmnedghckaaL1
import Derived.Test.YtajnpmnedghckaaTab
import Derived.Deep.QuietTactic
import Derived.BigQuiet
import Derived.Outline
namespace Go.Proofs.Ytajnpmnedghckaa
open Go.RowKit
set_option linter.unusedVariables false

def GainOk (n i : Nat) (r : List Int) : Prop := r.length = n ∧ r.getD i 0 ≠ 0 ∧ ∀ x ∈ r, 0 ≤ x ∧ x ≤ 1000
def LinksOk (rows : List (List Int)) (N G : Int) : Prop := 1 ≤ rows.length ∧ rows.length ≤ 5 ∧ 1 ≤ N ∧ N ≤ 1000 ∧ 1 ≤ G ∧ G ≤ 100 ∧ ∀ (i : Nat) r, rows[i]? = some r → GainOk rows.length i r
open Classical in
noncomputable def linksB (rows : List (List Int)) (N G : Int) : Bool := decide (LinksOk rows N G)
section
variable {rows : List (List Int)} {N G : Int}
open Classical in
theorem linksB_yes (h : LinksOk rows N G) : linksB rows N G = true := by unfold linksB; exact decide_eq_true h
open Classical in
theorem linksB_no (h : ¬ LinksOk rows N G) : linksB rows N G = false := by unfold linksB; exact decide_eq_false h
open Classical in
theorem linksB_iff : linksB rows N G = true ↔ LinksOk rows N G := by unfold linksB; exact decide_eq_true_iff
end
/-- The numbers of rows, the noise and the target lie in their ranges. -/
def HeadOk (n : Nat) (N G : Int) : Prop := 1 ≤ n ∧ n ≤ 5 ∧ 1 ≤ N ∧ N ≤ 1000 ∧ 1 ≤ G ∧ G ≤ 100
set_option maxHeartbeats 1600000 in
theorem linksValid_impl (A : Option Addr) (n c B : Nat) (rows : List (List Int)) (N G : Int) (w : World) (h : RII w B A n rows) (hB : B ≤ w.heap.size) (hn : n ≤ 1000000000) :
    Calls Try.prog 15 #[.agg #[.slice A n c, .int .i64 N, .int .i64 G]] w fun e w' => e = .returned (.bool (linksB rows N G)) ∧ Below w.heap.size w w' := by
  have HL := hid (RII.len h)
  have HBB := hid ((Below.refl w.heap.size w).alloc (Nat.le_refl _) (.cells #[.slice A n c, .int .i64 N, .int .i64 G] 27))
  by_cases hh : HeadOk n N G
  · obtain ⟨n1, n5, N1, N2, G1, G2⟩ := hh
    have hA : RII (w.alloc (.cells #[.slice A n c, .int .i64 N, .int .i64 G] 27)) B A n rows := RVV.alloc h hB _
    have hBW : B ≤ w.heap.size := hB
    go_enter Try.func15, Try.ntmps15
    go_wp2
    go_loop [40] (fun i => ∃ k : Nat, k ≤ n ∧ i = .int .i64 k ∧ Hid (∀ (j : Nat) r, j < k → rows[j]? = some r → GainOk n j r)) (fun i => n - (intOf i).toNat)
    case atStart => exact ⟨0, Nat.zero_le _, rfl, hid (fun j r hj => by omega)⟩
    case round =>
      obtain ⟨k, hk, rfl, HK⟩ := hrel
      by_cases hlt : k < n
      · obtain ⟨b, o, A', n', c', r, rfl, hb, hx, hcl, hr, hn', hc'⟩ := RII.at_ h hlt
        have hbw : b < w.heap.size := by omega
        have hrl : r.length = n' := RI.len hr
        have HX := hid (And.intro hx hrl)
        clear hx hrl
        by_cases hnn : n' = n
        · subst hnn
          have hne : ((n' : Int) != (n' : Int)) = false := by simp
          obtain ⟨b', o', x, rfl, hb', hx', hc1⟩ := RI.at_ hr hlt
          have hbw' : b' < w.heap.size := by omega
          have HX' := hid hx'
          clear hx'
          by_cases hx0 : x = 0
          · subst hx0
            have hz : ((0 : Int) == 0) = true := by simp
            have HV := hid (linksB_no (rows := rows) (N := N) (G := G) (fun hh => (hh.2.2.2.2.2.2 k r HX.out.1).2.1 (by rw [List.getD_eq_getElem?_getD, HX'.out]; rfl)))
            go_wp2
            go_ret
            exact ⟨ret_bool HV.out.symm, HBB.out⟩
          · have hz : (x == 0) = false := by simp [hx0]
            go_wp2
            go_loop [58] (fun i => ∃ m : Nat, m ≤ n' ∧ i = .int .i64 m ∧ Hid (∀ y ∈ r.take m, 0 ≤ y ∧ y ≤ 1000)) (fun i => n' - (intOf i).toNat)
            case atStart => exact ⟨0, Nat.zero_le _, rfl, hid (by simp)⟩
            case round =>
              obtain ⟨m, hm, rfl, HM⟩ := hrel
              by_cases hmt : m < n'
              · obtain ⟨b2, o2, y, he2, hb2, hy, hcy⟩ := RI.at_ hr hmt
                injection he2 with he2
                injection he2 with he2 he3
                subst he2 he3
                have HY := hid hy
                clear hy
                by_cases hy0 : 0 ≤ y
                · by_cases hy1 : y ≤ 1000
                  · go_wp2
                    go_round
                    case rel => exact ⟨m + 1, by omega, by go_num, hid (by
                      rw [take_snoc _ _ _ HY.out]
                      intro z hz
                      rw [List.mem_append, List.mem_singleton] at hz
                      rcases hz with hz | rfl
                      · exact HM.out z hz
                      · exact ⟨hy0, hy1⟩)⟩
                    case measure => simp [intOf]; omega
                  · have HV := hid (linksB_no (rows := rows) (N := N) (G := G) (fun hh => hy1 ((hh.2.2.2.2.2.2 k r HX.out.1).2.2 y (List.mem_of_getElem? HY.out)).2))
                    go_wp2
                    go_ret
                    exact ⟨ret_bool HV.out.symm, HBB.out⟩
                · have HV := hid (linksB_no (rows := rows) (N := N) (G := G) (fun hh => hy0 ((hh.2.2.2.2.2.2 k r HX.out.1).2.2 y (List.mem_of_getElem? HY.out)).1))
                  go_wp2
                  go_ret
                  exact ⟨ret_bool HV.out.symm, HBB.out⟩
              · have HK' : Hid (∀ (j : Nat) r, j < k + 1 → rows[j]? = some r → GainOk n' j r) := hid (by
                  intro j q hj hq
                  by_cases hjk : j = k
                  · subst hjk
                    rw [HX.out.1] at hq
                    injection hq with hq
                    subst hq
                    refine ⟨HX.out.2, by rw [List.getD_eq_getElem?_getD, HX'.out]; exact hx0, fun y hy => ?_⟩
                    have := HM.out
                    rw [List.take_of_length_le (by rw [HX.out.2]; omega)] at this
                    exact this y hy
                  · exact HK.out j q (by omega) hq)
                go_wp2
                go_round
                case rel => exact ⟨k + 1, by omega, by go_num, HK'⟩
                case measure => simp [intOf]; omega
        · have hne : ((n' : Int) != (n : Int)) = true := by simp; omega
          have HV := hid (linksB_no (rows := rows) (N := N) (G := G) (fun hh => hnn (by have := (hh.2.2.2.2.2.2 k r HX.out.1).1; rw [HX.out.2, HL.out] at this; exact this)))
          go_wp2
          go_ret
          exact ⟨ret_bool HV.out.symm, HBB.out⟩
      · have HV := hid (linksB_yes (rows := rows) (N := N) (G := G) ⟨by rw [HL.out]; omega, by rw [HL.out]; omega, N1, N2, G1, G2, fun i r hi => by rw [HL.out]; exact HK.out i r (by have := (List.getElem?_eq_some_iff.1 hi).1; have := HL.out; omega) hi⟩)
        go_wp2
        go_ret
        exact ⟨ret_bool HV.out.symm, HBB.out⟩
  · have HV := hid (linksB_no (rows := rows) (N := N) (G := G) (fun h2 => hh ⟨by have := h2.1; rw [HL.out] at this; exact this, by have := h2.2.1; rw [HL.out] at this; exact this, h2.2.2.1, h2.2.2.2.1, h2.2.2.2.2.1, h2.2.2.2.2.2.1⟩))
    have hcase : (n < 1) ∨ (1 ≤ n ∧ 5 < n) ∨ (1 ≤ n ∧ n ≤ 5 ∧ N < 1) ∨ (1 ≤ n ∧ n ≤ 5 ∧ 1 ≤ N ∧ 1000 < N) ∨ (1 ≤ n ∧ n ≤ 5 ∧ 1 ≤ N ∧ N ≤ 1000 ∧ G < 1) ∨ (1 ≤ n ∧ n ≤ 5 ∧ 1 ≤ N ∧ N ≤ 1000 ∧ 1 ≤ G ∧ 100 < G) := by
      unfold HeadOk at hh
      omega
    clear hh h
    rcases hcase with h1 | ⟨h1, h2⟩ | ⟨h1, h2, h3⟩ | ⟨h1, h2, h3, h4⟩ | ⟨h1, h2, h3, h4, h5⟩ | ⟨h1, h2, h3, h4, h5, h6⟩
    all_goals
      go_enter Try.func15, Try.ntmps15
      go_wp2
      go_ret
      exact ⟨ret_bool HV.out.symm, HBB.out⟩
set_option maxHeartbeats 1600000 in
theorem linksValid_spec (A : Option Addr) (n c B : Nat) (rows : List (List Int)) (N G : Int) (w : World) (h : RII w B A n rows) (hB : B ≤ w.heap.size) (hn : n ≤ 1000000000) :
    Calls Try.prog 13 #[.agg #[.slice A n c, .int .i64 N, .int .i64 G]] w fun e w' => e = .returned (.bool (linksB rows N G)) ∧ Below w.heap.size w w' := by
  have HL := hid (RII.len h)
  obtain ⟨W, HW⟩ : ∃ W, Hid (W = w.alloc (.cells #[.slice A n c, .int .i64 N, .int .i64 G] 27)) := ⟨_, hid rfl⟩
  have HBB := hid ((Below.refl w.heap.size w).alloc (Nat.le_refl _) (.cells #[.slice A n c, .int .i64 N, .int .i64 G] 27))
  have i1 := fun W => l1In_any (n : Int) 1 5 W
  have i2 := fun W => l1In_any N 1 1000 W
  have i3 := fun W => l1In_any G 1 100 W
  by_cases hh : HeadOk n N G
  · obtain ⟨n1, n5, N1, N2, G1, G2⟩ := hh
    have I1 := hid (fun W => l1In_yes (n : Int) 1 5 W (by omega) (by omega))
    have I2 := hid (fun W => l1In_yes N 1 1000 W N1 N2)
    have I3 := hid (fun W => l1In_yes G 1 100 W G1 G2)
    clear i1 i2 i3
    go_enter Try.func13, Try.ntmps13
    go_wp2_with fail
    refine (I1.out _).mono ?_
    rintro e w1 ⟨rfl, rfl⟩
    go_wp2_with fail
    refine (I2.out _).mono ?_
    rintro e w1 ⟨rfl, rfl⟩
    go_wp2_with fail
    refine (I3.out _).mono ?_
    rintro e w1 ⟨rfl, rfl⟩
    go_wp2
    go_loop [4] (fun i => ∃ k : Nat, k ≤ n ∧ i = .int .i64 k ∧ Hid (∀ (j : Nat) r, j < k → rows[j]? = some r → GainOk n j r)) (fun i => n - (intOf i).toNat)
    case atStart => exact ⟨0, Nat.zero_le _, rfl, hid (fun j r hj => by omega)⟩
    case round =>
      obtain ⟨k, hk, rfl, HK⟩ := hrel
      by_cases hlt : k < n
      · obtain ⟨b, o, A', n', c', r, rfl, hb, hx, hcl, hr, hn', hc'⟩ := RII.at_ h hlt
        have hbw : b < w.heap.size := by omega
        have hrl : r.length = n' := RI.len hr
        have HX := hid (And.intro hx hrl)
        clear hx hrl
        by_cases hnn : n' = n
        · subst hnn
          have hne : ((n' : Int) != (n' : Int)) = false := by simp
          obtain ⟨b', o', x, rfl, hb', hx', hc1⟩ := RI.at_ hr hlt
          have hbw' : b' < w.heap.size := by omega
          have HX' := hid hx'
          clear hx'
          by_cases hx0 : 1 ≤ x ∧ x ≤ 1000
          · have I4 := hid (fun W => l1In_yes x 1 1000 W hx0.1 hx0.2)
            have HX0 := hid hx0
            clear hx0
            go_wp2_with fail
            refine (I4.out _).mono ?_
            rintro e w1 ⟨rfl, rfl⟩
            go_wp2
            go_loop [5] (fun i => ∃ m : Nat, m ≤ n' ∧ i = .int .i64 m ∧ Hid (∀ y ∈ r.take m, 0 ≤ y ∧ y ≤ 1000)) (fun i => n' - (intOf i).toNat)
            case atStart => exact ⟨0, Nat.zero_le _, rfl, hid (by simp)⟩
            case round =>
              obtain ⟨m, hm, rfl, HM⟩ := hrel
              by_cases hmt : m < n'
              · obtain ⟨b2, o2, y, he2, hb2, hy, hcy⟩ := RI.at_ hr hmt
                injection he2 with he2
                injection he2 with he2 he3
                subst he2 he3
                have HY := hid hy
                clear hy
                by_cases hyb : 0 ≤ y ∧ y ≤ 1000
                · have I5 := hid (fun W => l1In_yes y 0 1000 W hyb.1 hyb.2)
                  have HYB := hid hyb
                  clear hyb
                  go_wp2_with fail
                  refine (I5.out _).mono ?_
                  rintro e w1 ⟨rfl, rfl⟩
                  go_wp2
                  go_round
                  case rel => exact ⟨m + 1, by omega, by go_num, hid (by
                    rw [take_snoc _ _ _ HY.out]
                    intro z hz
                    rw [List.mem_append, List.mem_singleton] at hz
                    rcases hz with hz | rfl
                    · exact HM.out z hz
                    · exact HYB.out)⟩
                  case measure => simp [intOf]; omega
                · have I5 := hid (fun W => l1In_no y 0 1000 W (by omega))
                  have HV := hid (linksB_no (rows := rows) (N := N) (G := G) (fun hh => hyb ((hh.2.2.2.2.2.2 k r HX.out.1).2.2 y (List.mem_of_getElem? HY.out))))
                  clear hyb
                  go_wp2_with fail
                  refine (I5.out _).mono ?_
                  rintro e w1 ⟨rfl, rfl⟩
                  go_wp2
                  go_ret
                  exact ⟨ret_bool HV.out.symm, HBB.out⟩
              · have HK' : Hid (∀ (j : Nat) r, j < k + 1 → rows[j]? = some r → GainOk n' j r) := hid (by
                  intro j q hj hq
                  by_cases hjk : j = k
                  · subst hjk
                    rw [HX.out.1] at hq
                    injection hq with hq
                    subst hq
                    refine ⟨HX.out.2, by rw [List.getD_eq_getElem?_getD, HX'.out]; show x ≠ 0; have := HX0.out.1; omega, fun y hy => ?_⟩
                    have := HM.out
                    rw [List.take_of_length_le (by rw [HX.out.2]; omega)] at this
                    exact this y hy
                  · exact HK.out j q (by omega) hq)
                go_wp2
                go_round
                case rel => exact ⟨k + 1, by omega, by go_num, HK'⟩
                case measure => simp [intOf]; omega
          · have I4 := hid (fun W => l1In_no x 1 1000 W (by omega))
            have HV := hid (linksB_no (rows := rows) (N := N) (G := G) (fun hh => by
              have h1 := hh.2.2.2.2.2.2 k r HX.out.1
              have h2 := h1.2.1
              have h3 := h1.2.2 x (List.mem_of_getElem? HX'.out)
              rw [List.getD_eq_getElem?_getD, HX'.out] at h2
              have h4 : x ≠ 0 := h2
              exact hx0 ⟨by omega, h3.2⟩))
            clear hx0
            go_wp2_with fail
            refine (I4.out _).mono ?_
            rintro e w1 ⟨rfl, rfl⟩
            go_wp2
            go_ret
            exact ⟨ret_bool HV.out.symm, HBB.out⟩
        · have hne : ((n' : Int) != (n : Int)) = true := by simp; omega
          have HV := hid (linksB_no (rows := rows) (N := N) (G := G) (fun hh => hnn (by have := (hh.2.2.2.2.2.2 k r HX.out.1).1; rw [HX.out.2, HL.out] at this; exact this)))
          go_wp2
          go_ret
          exact ⟨ret_bool HV.out.symm, HBB.out⟩
      · have HV := hid (linksB_yes (rows := rows) (N := N) (G := G) ⟨by rw [HL.out]; omega, by rw [HL.out]; omega, N1, N2, G1, G2, fun i r hi => by rw [HL.out]; exact HK.out i r (by have := (List.getElem?_eq_some_iff.1 hi).1; have := HL.out; omega) hi⟩)
        go_wp2
        go_ret
        exact ⟨ret_bool HV.out.symm, HBB.out⟩
  · have HV := hid (linksB_no (rows := rows) (N := N) (G := G) (fun h2 => hh ⟨by have := h2.1; rw [HL.out] at this; exact this, by have := h2.2.1; rw [HL.out] at this; exact this, h2.2.2.1, h2.2.2.2.1, h2.2.2.2.2.1, h2.2.2.2.2.2.1⟩))
    have hh2 : ¬ (1 ≤ n ∧ n ≤ 5 ∧ 1 ≤ N ∧ N ≤ 1000 ∧ 1 ≤ G ∧ G ≤ 100) := hh
    clear hh h
    by_cases hn5 : 1 ≤ (n : Int) ∧ (n : Int) ≤ 5
    · have I1 := hid (fun W => l1In_yes (n : Int) 1 5 W hn5.1 hn5.2)
      by_cases hN : 1 ≤ N ∧ N ≤ 1000
      · have I2 := hid (fun W => l1In_yes N 1 1000 W hN.1 hN.2)
        have I3 := hid (fun W => l1In_no G 1 100 W (by omega))
        clear i1 i2 i3 hh2 hn5 hN
        go_enter Try.func13, Try.ntmps13
        go_wp2_with fail
        refine (I1.out _).mono ?_
        rintro e w1 ⟨rfl, rfl⟩
        go_wp2_with fail
        refine (I2.out _).mono ?_
        rintro e w1 ⟨rfl, rfl⟩
        go_wp2_with fail
        refine (I3.out _).mono ?_
        rintro e w1 ⟨rfl, rfl⟩
        go_wp2
        go_ret
        exact ⟨ret_bool HV.out.symm, HBB.out⟩
      · have I2 := hid (fun W => l1In_no N 1 1000 W (by omega))
        clear i1 i2 i3 hh2 hn5 hN
        go_enter Try.func13, Try.ntmps13
        go_wp2_with fail
        refine (I1.out _).mono ?_
        rintro e w1 ⟨rfl, rfl⟩
        go_wp2_with fail
        refine (I2.out _).mono ?_
        rintro e w1 ⟨rfl, rfl⟩
        go_wp2
        go_ret
        exact ⟨ret_bool HV.out.symm, HBB.out⟩
    · have I1 := hid (fun W => l1In_no (n : Int) 1 5 W (by omega))
      clear i1 i2 i3 hh2 hn5
      go_enter Try.func13, Try.ntmps13
      go_wp2_with fail
      refine (I1.out _).mono ?_
      rintro e w1 ⟨rfl, rfl⟩
      go_wp2
      go_ret
      exact ⟨ret_bool HV.out.symm, HBB.out⟩
end Go.Proofs.Ytajnpmnedghckaa
