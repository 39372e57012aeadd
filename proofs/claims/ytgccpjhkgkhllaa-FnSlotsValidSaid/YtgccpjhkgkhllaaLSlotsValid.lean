/-
  FnSlotsValid, walked: valid slots stay valid if two slots are exchanged; without conflicts equal slots are valid.
-/
import Derived.Test.YtgccpjhkgkhllaaDSlots
import Derived.Test.YtgccpjhkgkhllaaSloB
import Derived.Test.YtgccpjhkgkhllaaAliveO
import Derived.OpenShut
namespace Go.Proofs.Ytgccpjhkgkhllaa
open Go.RowKit
set_option linter.unusedVariables false

/-- 0 and 1 exchanged. -/
def swapI (v : Int) : Int := if v = 0 then 1 else if v = 1 then 0 else v
theorem swapI_ne {a b : Int} (h : a ≠ b) : swapI a ≠ swapI b := by unfold swapI; split <;> split <;> (try split) <;> (try split) <;> omega
theorem swapI_bd (a : Int) : (0 ≤ swapI a ∧ swapI a ≤ 9) ↔ (0 ≤ a ∧ a ≤ 9) := by unfold swapI; split <;> (try split) <;> omega
theorem swap_getD {ss : List Int} {i : Nat} (h : i < ss.length) : (ss.map swapI).getD i 0 = swapI (ss.getD i 0) := by
  simp [List.getD_eq_getElem?_getD, List.getElem?_map, List.getElem?_eq_getElem h]
theorem swap_slots (rows : List (List Bool)) (ss : List Int) : slotsB rows (ss.map swapI) = slotsB rows ss := by
  have key : SlotsOk rows (ss.map swapI) ↔ SlotsOk rows ss := by
    unfold SlotsOk
    rw [List.length_map]
    constructor
    · rintro ⟨h1, h2, h3⟩
      refine ⟨h1, h2, fun i hi => ?_⟩
      obtain ⟨a, b, c⟩ := h3 i hi
      rw [swap_getD (by omega)] at a b
      have := (swapI_bd _).1 ⟨a, b⟩
      refine ⟨this.1, this.2, fun j hj hc he => ?_⟩
      have := c j hj hc
      rw [swap_getD (by omega), swap_getD (by omega), he] at this
      exact this rfl
    · rintro ⟨h1, h2, h3⟩
      refine ⟨h1, h2, fun i hi => ?_⟩
      obtain ⟨a, b, c⟩ := h3 i hi
      have hb := (swapI_bd _).2 ⟨a, b⟩
      refine ⟨by rw [swap_getD (by omega)]; exact hb.1, by rw [swap_getD (by omega)]; exact hb.2, fun j hj hc => ?_⟩
      rw [swap_getD (by omega), swap_getD (by omega)]
      exact swapI_ne (c j hj hc)
  by_cases h : SlotsOk rows ss
  · rw [slotsB_yes h, slotsB_yes (key.2 h)]
  · rw [slotsB_no h, slotsB_no (fun h' => h (key.1 h'))]
theorem cf_free (n i j : Nat) : cf (List.replicate n (List.replicate n false)) i j = false := by
  unfold cf
  simp only [List.getD_eq_getElem?_getD, List.getElem?_replicate]
  split
  · simp only [Option.getD_some, List.getElem?_replicate]; split <;> rfl
  · rfl
theorem free_ok {n : Nat} (h : n ≤ 10) : slotsB (List.replicate n (List.replicate n false)) (List.replicate n 0) = true := by
  refine slotsB_yes ⟨⟨by simpa using h, fun i r hr => ?_, fun i j _ _ => ⟨by rw [cf_free, cf_free], fun _ => cf_free _ _ _⟩⟩, by simp, fun i hi => ⟨?_, ?_, fun j _ hc => by rw [cf_free] at hc; cases hc⟩⟩
  · rw [List.getElem?_replicate] at hr
    split at hr
    · injection hr with hr; subst hr; simp
    · cases hr
  · simp [List.getD_eq_getElem?_getD, List.getElem?_replicate]; split <;> simp
  · simp [List.getD_eq_getElem?_getD, List.getElem?_replicate]; split <;> simp
set_option maxRecDepth 100000 in
set_option maxHeartbeats 3200000 in
theorem fnSlotsValid_walk {A : Option Addr} {n c : Nat} {bs : List Int} (w : World) (h : RV w w.heap.size A n (bs.map (Value.int .u8))) (wf : ∀ x ∈ bs, (Lit.int .u8 x).wf = true) (hl : n ≤ c) (hm : c ≤ maxLen) :
    Calls Try.prog 6 #[.slice A n c] w fun e w' => e = .returned (.bool true) ∧ Below w.heap.size w w' := by
  unfold maxLen at hm
  by_cases hn : n ≤ 1048576
  · have hd := drawSlotsValid_any A n c w.heap.size bs w h (Nat.le_refl _) hl hn (fun x hx => bounds_u8 (wf x hx))
    obtain ⟨i0, hi0, hz0, hz1, hz2⟩ := info_parts infoSl
    obtain ⟨i1, hj0, hj1, hj2, hj3⟩ := info_parts infoRowT
    clear wf h
    go_enter Try.func6, Try.ntmps6
    go_wp2_with fail
    refine hd.mono ?_
    rintro e w1 ⟨A1, n1, c1, rows, A9, n9, c9, ss, rfl, tab, hn1, pr, hn9, hb1⟩
    have HT := hid tab
    have HS := hid pr
    have HB1 := hid hb1
    have HL := hid (And.intro (RTT.len tab) (RI.len pr))
    obtain ⟨M, HM⟩ : ∃ M, Hid (slotsB rows ss = M) := ⟨_, hid rfl⟩
    have hc1 := slotsValid_impl A1 A9 n1 n9 c1 c9 w1.heap.size rows ss w1 tab pr (by omega) (by omega)
    have hc2 := slotsValid_spec A1 A9 n1 n9 c1 c9 w1.heap.size rows ss w1 tab pr (by omega) (by omega)
    rw [HM.out] at hc1 hc2
    have HC1 := hid hc1
    have HC2 := hid hc2
    have hMM : (M != M) = false := by simp
    clear hd hb1 hc1 hc2 tab pr
    go_wp2_with fail
    refine HC1.out.mono ?_
    rintro e w_ ⟨rfl, rfl⟩
    go_wp2_with fail
    refine HC2.out.mono ?_
    rintro e w2 ⟨rfl, d2, rfl⟩
    have HC3 := hid (confValid_impl A1 n1 c1 w1.heap.size rows (w1.drewN d2) HT.out (by omega))
    by_cases hco : ConfOk rows
    · rw [confB_yes hco] at HC3
      by_cases hnn : n9 = n1
      · subst hnn
        have hq : ((n9 : Int) != (n9 : Int)) = false := by simp
        have HCO := hid hco
        clear hco
        go_wp2_with fail
        refine HC3.out.mono ?_
        rintro e w_ ⟨rfl, rfl⟩
        obtain ⟨W, HW⟩ : ∃ W : World, W = (w1.drewN d2).alloc (.cells #[] 3) := ⟨_, rfl⟩
        have bW : Below w1.heap.size w1 W := by rw [HW]; exact ((Same.drewN _ _).bel _).alloc (Nat.le_refl _) _
        have own0 : W.ownsRow w1.heap.size 3 1 (.slice (some ⟨w1.heap.size, 0, none⟩) 0 0) 0 [] := by rw [HW]; exact own_lit0 (w := w1.drewN d2) _ (Nat.le_refl _)
        go_wp2
        simp only [← HW]
        clear HW
        go_loopw [6, 7] (fun v i wr => ∃ (k cc : Nat) (AA : Option Addr), k ≤ n9 ∧ i = .int .i64 k ∧ v = .slice AA k cc ∧ wr.ownsRow w1.heap.size 3 1 (.slice AA k cc) k (((ss.map swapI).take k).map (Value.int .i64)) ∧ Below w1.heap.size w1 wr) (fun _ i _ => n9 - (intOf i).toNat)
        case atStart => exact ⟨0, 0, _, Nat.zero_le _, rfl, rfl, by simpa using own0, bW⟩
        case round =>
          obtain ⟨k, cc, AA, hk, rfl, rfl, hown, hbr⟩ := hrel
          have hsz := hbr.size
          by_cases hlt : k < n9
          · have pr : RI wr w1.heap.size A9 n9 ss := RV.below HS.out hbr
            obtain ⟨b5, o5, y, rfl, hb5, hy, hcy⟩ := RI.at_ pr hlt
            have HY := hid (show (ss.map swapI)[k]? = some (swapI y) by rw [List.getElem?_map, hy]; rfl)
            clear hy pr own0 bW
            rcases (show y = 0 ∨ y = 1 ∨ (y ≠ 0 ∧ y ≠ 1) by omega) with rfl | rfl | ⟨y0, y1⟩
            · go_wp2_with (at_builtin; refine wpList_push rfl _ _ _ rfl w1.heap.size 3 i0 _ 8 Try.underlying32 hi0 hz0 hz1 hz2 rfl (by omega) _ _ AA k cc _ rfl hown rfl rfl (by omega) (by omega) ?_; intro g' cap w5 hown5 hgrow5 hlies5 hlt5)
              have hbel5 := below_push hbr hown (Nat.le_refl _) (by omega) hgrow5
              go_roundw
              case rel => exact ⟨k + 1, cap, _, by omega, by go_num, rfl, by rw [take_snoc _ _ _ HY.out, List.map_append]; exact hown5, hbel5⟩
              case measure => simp [intOf]; omega
            · go_wp2_with (at_builtin; refine wpList_push rfl _ _ _ rfl w1.heap.size 3 i0 _ 8 Try.underlying32 hi0 hz0 hz1 hz2 rfl (by omega) _ _ AA k cc _ rfl hown rfl rfl (by omega) (by omega) ?_; intro g' cap w5 hown5 hgrow5 hlies5 hlt5)
              have hbel5 := below_push hbr hown (Nat.le_refl _) (by omega) hgrow5
              go_roundw
              case rel => exact ⟨k + 1, cap, _, by omega, by go_num, rfl, by rw [take_snoc _ _ _ HY.out, List.map_append]; exact hown5, hbel5⟩
              case measure => simp [intOf]; omega
            · have e0 : (y == 0) = false := by simp [y0]
              have e1 : (y == 1) = false := by simp [y1]
              have HSW : Hid (swapI y = y) := hid (by unfold swapI; rw [if_neg y0, if_neg y1])
              clear y0 y1
              go_wp2_with (at_builtin; refine wpList_push rfl _ _ _ rfl w1.heap.size 3 i0 _ 8 Try.underlying32 hi0 hz0 hz1 hz2 rfl (by omega) _ _ AA k cc _ rfl hown rfl rfl (by omega) (by omega) ?_; intro g' cap w5 hown5 hgrow5 hlies5 hlt5)
              have hbel5 := below_push hbr hown (Nat.le_refl _) (by omega) hgrow5
              go_roundw
              case rel => exact ⟨k + 1, cap, _, by omega, by go_num, rfl, by rw [take_snoc _ _ _ HY.out, HSW.out, List.map_append]; exact hown5, hbel5⟩
              case measure => simp [intOf]; omega
          · have hkn : k = n9 := by omega
            subst hkn
            have hmk := run_make_row' (P := Try.prog) 30 4 (.bool false) 1 Try.underlying30 infoBo rfl .i64 .i64 k (by omega) (by omega)
            have hmki := run_make_row' (P := Try.prog) 32 3 (.int .i64 0) 8 Try.underlying32 infoSl rfl .i64 .i64 k (by omega) (by omega)
            have HMK := hid (And.intro hmk hmki)
            have hxs : RI wr wr.heap.size AA k (ss.map swapI) := by
              have := RV.of_own hown
              rw [List.take_of_length_le (by rw [List.length_map, HL.out.2]; exact Nat.le_refl _)] at this
              exact this
            have HX := hid hxs
            have HBR := hid hbr
            obtain ⟨H0, hH0⟩ : ∃ H0, wr.heap.size = H0 := ⟨_, rfl⟩
            obtain ⟨WB, HWB⟩ : ∃ W : World, W = wr.alloc (.cells #[] 30) := ⟨_, rfl⟩
            have tab0 : OwnTT WB 30 4 H0 WB.heap.size (some ⟨H0, 0, none⟩) 0 0 [] := by rw [HWB, ← hH0]; exact ownVV_lit0 30 4 (Nat.le_refl _)
            have bB : Below H0 wr WB := by rw [HWB, ← hH0]; exact (Below.refl _ _).alloc (Nat.le_refl _) _
            obtain ⟨wq, hwq⟩ : ∃ wq : World, wq = wr := ⟨_, rfl⟩
            rw [← hwq] at HX HBR bB hH0 HWB hsz
            clear hmk hmki hxs hown hbr own0 bW hlt
            subst hwq
            go_wp2
            simp only [← HWB]
            clear HWB
            go_loopw [8, 9] (fun v i wr2 => ∃ (m cc2 : Nat) (A2 : Option Addr), m ≤ k ∧ i = .int .i64 m ∧ v = .slice A2 m cc2 ∧ OwnTT wr2 30 4 H0 wr2.heap.size A2 m cc2 (List.replicate m (List.replicate k false)) ∧ Below H0 wq wr2) (fun _ i _ => k - (intOf i).toNat)
            case atStart => exact ⟨0, 0, _, Nat.zero_le _, rfl, rfl, tab0, bB⟩
            case round =>
              obtain ⟨m, cc2, A2, hm2, rfl, rfl, tab, hb2⟩ := hrel
              have hs2 := hb2.size
              by_cases hmt : m < k
              · obtain ⟨H, hH⟩ : ∃ H, wr.heap.size = H := ⟨_, rfl⟩
                have hmk := HMK.out.1
                have row : OwnT (wr.alloc (.cells (madeCells #[.bool false] k) 4)) 4 H (H + 1) (some ⟨wr.heap.size, 0, none⟩) k k (List.replicate k false) := ownV_blk (blk_made wr _ k false rfl) (by omega) (by omega) (by simp) (by unfold maxLen; omega)
                rw [hH] at tab row hs2
                have hzm : (wr.alloc (.cells (madeCells #[.bool false] k) 4)).heap.size = H + 1 := by simp [hH]
                obtain ⟨us, hus, hpush⟩ := OwnVV.push (base := H0) (OwnVV.alloc tab (.cells (madeCells #[.bool false] k) 4)) row (Nat.le_refl _) (by omega) (Nat.le_of_eq hzm.symm) (Nat.le_refl _) (by omega)
                have HP := hid hpush
                have hb3 := hb2.alloc (show H0 ≤ wr.heap.size by omega) (.cells (madeCells #[.bool false] k) 4)
                clear hpush tab row tab0 bB
                go_wp2_with (at_builtin; refine wpList_pushZ rfl _ _ _ rfl H0 30 i1 _ 24 Try.underlying22 hj0 hj1 hj2 hj3 rfl (by omega) _ _ A2 m cc2 us rfl hus (H + 1) hzm.symm rfl rfl (by omega) (by omega) ?_; intro g_ cap_ w6 hown6 hgrow6 hlies6 hlt6)
                have b6 := below_push hb3 hus (Nat.le_refl _) (by omega) hgrow6
                have t6 := HP.out g_ cap_ w6 hown6 hgrow6 (by rcases hlies6 with h | h; exact .inl h; exact .inr (by omega)) hlt6
                have H6 := hid (And.intro t6 b6)
                clear t6 b6 hown6 hgrow6 hlies6 hus hb3 hmk
                go_roundw
                case rel => exact ⟨m + 1, cap_, _, by omega, by go_num, rfl, by unfold OwnTT; rw [List.replicate_succ', List.map_append]; exact H6.out.1, H6.out.2⟩
                case measure => simp [intOf]; omega
              · have hmk2 : m = k := by omega
                subst hmk2
                have hbb := HBR.out.trans (hb2.mono (by omega))
                have hmki := HMK.out.2
                have hs3 := slotsValid_impl A1 AA m m c1 cc wr.heap.size rows (ss.map swapI) wr (RVV.more (RVV.below HT.out hbb) hbb.size) (RV.more (RV.below HX.out (hb2.mono (by omega))) (by omega)) (by omega) (by omega)
                rw [swap_slots, HM.out] at hs3
                have HS3 := hid hs3
                have hfr : RTT (wr.alloc (.cells (madeCells #[.int .i64 0] m) 3)) wr.heap.size A2 m (List.replicate m (List.replicate m false)) := RVV.alloc (OwnTT.rtt tab) (Nat.le_refl _) _
                have hzr : RI (wr.alloc (.cells (madeCells #[.int .i64 0] m) 3)) (wr.heap.size + 1) (some ⟨wr.heap.size, 0, none⟩) m (List.replicate m 0) := OwnI.ri (ownV_blk (lo := wr.heap.size) (blk_made wr 3 m (0 : Int) rfl) (Nat.le_refl _) (by omega) (by simp) (by unfold maxLen; omega))
                have hs4 := slotsValid_impl A2 (some ⟨wr.heap.size, 0, none⟩) m m cc2 m (wr.heap.size + 1) _ _ _ (RVV.more hfr (by omega)) hzr (by omega) (by omega)
                rw [free_ok hn1] at hs4
                have HS4 := hid hs4
                have HF := hid (HB1.out.trans (hbb.mono HB1.out.size))
                have hMq : (M == M) = true := by simp
                clear hs3 hs4 hfr hzr tab hb2 hbb tab0 bB
                go_wp2_with fail
                refine HS3.out.mono ?_
                rintro e w_ ⟨rfl, rfl⟩
                go_wp2_with fail
                refine HS4.out.mono ?_
                rintro e w_ ⟨rfl, rfl⟩
                go_wp2
                go_ret
                exact ⟨rfl, HF.out.alloc HF.out.size _⟩
      · have hq : ((n9 : Int) != (n1 : Int)) = true := by simp; omega
        have hMf : M = false := by rw [← HM.out]; exact slotsB_no (fun hh => hnn (by rw [← HL.out.1, ← HL.out.2]; exact hh.2.1))
        subst hMf
        clear hco hnn
        go_wp2_with fail
        refine HC3.out.mono ?_
        rintro e w_ ⟨rfl, rfl⟩
        go_wp2_with fail
        refine (alive_any _).mono ?_
        rintro e w5 ⟨rfl, hb5⟩
        have HB5 := hid ((HB1.out.trans ((Same.drewN _ _).bel _)).trans (hb5.mono (show w.heap.size ≤ (w1.drewN d2).heap.size from HB1.out.size)))
        clear hb5
        go_wp2
        go_ret
        exact ⟨rfl, HB5.out⟩
    · rw [confB_no hco] at HC3
      have hMf : M = false := by rw [← HM.out]; exact slotsB_no (fun hh => hco hh.1)
      subst hMf
      clear hco
      go_wp2_with fail
      refine HC3.out.mono ?_
      rintro e w_ ⟨rfl, rfl⟩
      go_wp2_with fail
      refine (alive_any _).mono ?_
      rintro e w5 ⟨rfl, hb5⟩
      have HB5 := hid ((HB1.out.trans ((Same.drewN _ _).bel _)).trans (hb5.mono (show w.heap.size ≤ (w1.drewN d2).heap.size from HB1.out.size)))
      clear hb5
      go_wp2
      go_ret
      exact ⟨rfl, HB5.out⟩
  · go_enter Try.func6, Try.ntmps6
    go_wp2
    go_ret
    exact ⟨rfl, Below.refl _ _⟩
end Go.Proofs.Ytgccpjhkgkhllaa
