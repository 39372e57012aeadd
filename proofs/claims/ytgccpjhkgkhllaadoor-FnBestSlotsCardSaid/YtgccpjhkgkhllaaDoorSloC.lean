/-
  The reference's l17Free, GreedySlots, walked.
-/
import Derived.Test.YtgccpjhkgkhllaaDoorSloP
namespace Go.Proofs.YtgccpjhkgkhllaaDoor
open Go.RowKit
set_option linter.unusedVariables false

theorem infoSl : (Tryd.prog.info? 3).map (fun i => (i.zero, i.size, i.bytes)) = some (some (.int .i64 0), 1, 8) := by kernel_rfl
/-- Slots as ints. -/
def castL (ss : List Nat) : List Int := ss.map fun (x : Nat) => (x : Int)
theorem castL_len (ss : List Nat) : (castL ss).length = ss.length := by simp [castL]
theorem castL_get {ss : List Nat} {j : Nat} {x : Int} (h : (castL ss)[j]? = some x) : x = ((ss.getD j 0 : Nat) : Int) ∧ j < ss.length := by
  unfold castL at h
  rw [List.getElem?_map] at h
  cases hx : ss[j]? with
  | none => rw [hx] at h; simp at h
  | some y =>
    rw [hx] at h
    simp at h
    subst h
    exact ⟨by rw [List.getD_eq_getElem?_getD, hx]; rfl, (List.getElem?_eq_some_iff.1 hx).1⟩
theorem castL_snoc (ss : List Nat) (x : Nat) : castL (ss ++ [x]) = castL ss ++ [(x : Int)] := by simp [castL]
set_option maxHeartbeats 1600000 in
theorem free_spec (A A' : Option Addr) (n n' c c' B B' i s : Nat) (rows : List (List Bool)) (ss : List Nat) (w : World) (h : RTT w B A n rows) (h' : RI w B' A' n' (castL ss)) (hsq : ∀ r ∈ rows, r.length = n) (hi : i < n) (hn' : n' ≤ n) (hn : n ≤ 1000000000) :
    Calls Tryd.prog 37 #[.slice A n c, .slice A' n' c', .int .i64 (i : Int), .int .i64 (s : Int)] w fun e w' => e = .returned (.bool (!usedB rows ss i s)) ∧ w = w' := by
  have HL' := hid (show ss.length = n' by rw [← castL_len]; exact RI.len h')
  obtain ⟨b, o, A1, n1, c1, r, rfl, hb, hx, hcl, hr, hn1, hc1⟩ := RTT.at_ h hi
  have hn11 : n1 = n := by rw [← RT.len hr]; exact hsq r (List.mem_of_getElem? hx)
  subst hn11
  have HX := hid hx
  have hi0 : (0 : Int) ≤ (i : Int) := by omega
  have hin : (i : Int) < (n1 : Int) := by omega
  clear hx hsq h
  go_enter Tryd.func37, Tryd.ntmps37
  go_wp2
  go_loop [9] (fun jv => ∃ j : Nat, j ≤ n' ∧ jv = .int .i64 j ∧ Hid (∀ t, t < j → cf rows i t = true → ss.getD t 0 ≠ s)) (fun jv => n' - (intOf jv).toNat)
  case atStart => exact ⟨0, Nat.zero_le _, rfl, hid (fun t ht => by omega)⟩
  case round =>
    obtain ⟨j, hj, rfl, HJ⟩ := hrel
    by_cases hjt : j < n'
    · obtain ⟨b2, o2, x, rfl, hb2, hx2, hc2⟩ := RT.at_ hr (show j < n1 by omega)
      obtain ⟨b3, o3, y, rfl, hb3, hy, hcy⟩ := RI.at_ h' hjt
      obtain ⟨hy1, hy2⟩ := castL_get hy
      obtain ⟨sj, hsj⟩ : ∃ sj, ss.getD j 0 = sj := ⟨_, rfl⟩
      rw [hsj] at hy1
      subst hy1
      have HP := hid (And.intro (cf_of HX.out hx2) hsj)
      have hj0 : (0 : Int) ≤ (j : Int) := by omega
      have hjn : (j : Int) < (n1 : Int) := by omega
      have hjn' : (j : Int) < (n' : Int) := by omega
      clear hx2 hy hsj hy2
      cases x
      · go_wp2
        go_round
        case rel => exact ⟨j + 1, by omega, by go_num, hid (fun t ht hc => by
          by_cases htj : t = j
          · subst htj; rw [HP.out.1] at hc; cases hc
          · exact HJ.out t (by omega) hc)⟩
        case measure => simp [intOf]; omega
      · by_cases hs : sj = s
        · subst hs
          have hq : ((sj : Int) == (sj : Int)) = true := by simp
          have HV := hid (show (!usedB rows ss i sj) = false by
            have : usedB rows ss i sj = true := usedB_iff.2 ⟨j, by rw [HL'.out]; exact hjt, HP.out.1, HP.out.2⟩
            rw [this]; rfl)
          go_wp2
          go_ret
          exact ⟨ret_bool HV.out.symm, rfl⟩
        · have hq : ((sj : Int) == (s : Int)) = false := by simp; omega
          go_wp2
          go_round
          case rel => exact ⟨j + 1, by omega, by go_num, hid (fun t ht hc => by
            by_cases htj : t = j
            · subst htj; rw [HP.out.2]; exact hs
            · exact HJ.out t (by omega) hc)⟩
          case measure => simp [intOf]; omega
    · have HV := hid (show (!usedB rows ss i s) = true by
        have : usedB rows ss i s = false := usedB_no.2 (fun t ht hc => HJ.out t (by rw [HL'.out] at ht; omega) hc)
        rw [this]; rfl)
      go_wp2
      go_ret
      exact ⟨ret_bool HV.out.symm, rfl⟩
open Classical in
/-- Greedy slots, nothing for a table that is not valid. -/
noncomputable def greedyI (rows : List (List Bool)) : List Int := if ConfOk rows then castL (greedyL rows rows.length) else []
open Classical in
theorem greedyI_yes {rows : List (List Bool)} (h : ConfOk rows) : greedyI rows = castL (greedyL rows rows.length) := by unfold greedyI; exact if_pos h
open Classical in
theorem greedyI_no {rows : List (List Bool)} (h : ¬ ConfOk rows) : greedyI rows = [] := by unfold greedyI; exact if_neg h
theorem greedyI_len (rows : List (List Bool)) : (greedyI rows).length ≤ 10 := by
  by_cases h : ConfOk rows
  · rw [greedyI_yes h, castL_len, greedy_len]; exact h.1
  · rw [greedyI_no h]; simp
theorem greedy_take (rows : List (List Bool)) (k : Nat) : greedyL rows (k + 1) = greedyL rows k ++ [freeS rows (greedyL rows k) k] := rfl
set_option maxHeartbeats 1600000 in
theorem greedy_spec (A : Option Addr) (n c B : Nat) (rows : List (List Bool)) (w : World) (h : RTT w B A n rows) (hB : B ≤ w.heap.size) (hn : n ≤ 1000000000) :
    Calls Tryd.prog 14 #[.slice A n c] w fun e w' => RetI 3 w e w' (greedyI rows) := by
  have HL := hid (RTT.len h)
  obtain ⟨i0, hi0, hz0, hz1, hz2⟩ := info_parts infoSl
  have hw1 : RTT (w.alloc (.cells #[] 3)) B A n rows := RVV.alloc h hB _
  have hcv := confValid_spec A n c B rows (w.alloc (.cells #[] 3)) hw1 hn
  by_cases hco : ConfOk rows
  · rw [confB_yes hco] at hcv
    rw [greedyI_yes hco, HL.out]
    have HCV := hid hcv
    have HSQ := hid (show ∀ r ∈ rows, r.length = n from fun r hr => by
      obtain ⟨j, hj, e⟩ := List.mem_iff_getElem.1 hr
      rw [← HL.out]
      exact hco.2.1 j r (by rw [← e]; exact List.getElem?_eq_getElem hj))
    have hn10 : n ≤ 10 := by rw [← HL.out]; exact hco.1
    have own0 : (w.alloc (.cells #[] 3)).ownsRow w.heap.size 3 1 (.slice (some ⟨w.heap.size, 0, none⟩) 0 0) 0 [] := own_lit0 _ (Nat.le_refl _)
    have bel0 : Below w.heap.size w (w.alloc (.cells #[] 3)) := (Below.refl _ _).alloc (Nat.le_refl _) _
    have HR := hid h
    clear hcv hco h hw1
    go_enter Tryd.func14, Tryd.ntmps14
    go_wp2_with fail
    refine HCV.out.mono ?_
    rintro e w1 ⟨rfl, d, rfl⟩
    have own1 : ((w.alloc (.cells #[] 3)).drewN d).ownsRow w.heap.size 3 1 (.slice (some ⟨w.heap.size, 0, none⟩) 0 0) 0 [] := own0
    have bel1 : Below w.heap.size w ((w.alloc (.cells #[] 3)).drewN d) := bel0.trans ((Same.drewN _ _).bel _)
    clear own0 bel0
    go_wp2
    go_loopw [3, 4] (fun v i wr => ∃ (k cc : Nat) (AA : Option Addr), k ≤ n ∧ i = .int .i64 k ∧ v = .slice AA k cc ∧ wr.ownsRow w.heap.size 3 1 (.slice AA k cc) k ((castL (greedyL rows k)).map (Value.int .i64)) ∧ Below w.heap.size w wr) (fun _ i _ => n - (intOf i).toNat)
    case atStart => exact ⟨0, 0, _, Nat.zero_le _, rfl, rfl, own1, bel1⟩
    case round =>
      obtain ⟨k, cc, AA, hk, rfl, rfl, hown, hbr⟩ := hrel
      have hsz := hbr.size
      by_cases hlt : k < n
      · obtain ⟨hf1, hf2, hf3⟩ := freeS_spec rows (greedyL rows k) k
        obtain ⟨F, hF⟩ : ∃ F, freeS rows (greedyL rows k) k = F := ⟨_, rfl⟩
        rw [hF] at hf1 hf2 hf3
        have HF := hid (And.intro hF (And.intro hf2 hf3))
        rw [greedy_len] at hf1
        have HFR := hid (fun s => free_spec A AA n k c cc B wr.heap.size k s rows (greedyL rows k) wr (RVV.below HR.out (hbr.mono hB)) (RV.of_own hown) HSQ.out hlt (by omega) hn)
        have HO := hid (And.intro hown hbr)
        obtain ⟨wo, hwo⟩ : ∃ wo : World, wo = wr := ⟨_, rfl⟩
        rw [← hwo] at HFR HO hsz
        clear hF hf2 hf3 hown hbr own1 bel1
        subst hwo
        go_wp2
        go_loopw [5] (fun sv wr2 => ∃ s : Nat, s ≤ F ∧ sv = .int .i64 s ∧ wr2 = wo) (fun sv _ => F - (intOf sv).toNat)
        case atStart => exact ⟨0, Nat.zero_le _, rfl, by first | rfl | trivial⟩
        case round =>
          obtain ⟨s, hs, rfl, rfl⟩ := hrel
          have hfr := HFR.out s
          by_cases hsF : s < F
          · rw [HF.out.2.2 s hsF] at hfr
            have HFS := hid hfr
            clear hfr
            go_wp2_with fail
            refine HFS.out.mono ?_
            rintro e w_ ⟨rfl, rfl⟩
            go_wp2
            go_roundw
            case rel => exact ⟨s + 1, by omega, by go_num, by first | rfl | trivial⟩
            case measure => simp [intOf]; omega
          · have hsF2 : s = F := by omega
            subst hsF2
            rw [HF.out.2.1] at hfr
            have HFS := hid hfr
            have hown := HO.out.1
            clear hfr
            go_wp2_with fail
            refine HFS.out.mono ?_
            rintro e w_ ⟨rfl, rfl⟩
            go_wp2_with (at_builtin; refine wpList_push rfl _ _ _ rfl w.heap.size 3 i0 _ 8 Tryd.underlying25 hi0 hz0 hz1 hz2 rfl (by omega) _ _ AA k cc _ rfl hown rfl rfl (by omega) (by omega) ?_; intro g' cap w5 hown5 hgrow5 hlies5 hlt5)
            have hbel5 := below_push HO.out.2 hown (Nat.le_refl _) (by omega) hgrow5
            have H5 := hid (And.intro hown5 hbel5)
            clear hown hown5 hbel5 hgrow5
            go_roundw
            case rel => exact ⟨k + 1, cap, _, by omega, by go_num, rfl, by rw [greedy_take, HF.out.1, castL_snoc, List.map_append]; exact H5.out.1, H5.out.2⟩
            case measure => simp [intOf]; omega
      · have hkn : k = n := by omega
        subst hkn
        have HF := hid (retI_of hown hbr)
        clear hown hbr own1 bel1
        go_wp2
        go_ret
        exact HF.out
  · rw [confB_no hco] at hcv
    rw [greedyI_no hco]
    have HCV := hid hcv
    have HF := hid (fun d => show RetI 3 w (.returned (.slice (some ⟨w.heap.size, 0, none⟩) 0 0)) ((w.alloc (.cells #[] 3)).drewN d) [] from retI_of (n := 0) (own_lit0 (w := w) 3 (Nat.le_refl _)) (((Below.refl _ _).alloc (Nat.le_refl _) _).trans ((Same.drewN _ _).bel _)))
    clear hcv hco h hw1
    go_enter Tryd.func14, Tryd.ntmps14
    go_wp2_with fail
    refine HCV.out.mono ?_
    rintro e w1 ⟨rfl, d, rfl⟩
    go_wp2
    go_ret
    exact HF.out d
end Go.Proofs.YtgccpjhkgkhllaaDoor
