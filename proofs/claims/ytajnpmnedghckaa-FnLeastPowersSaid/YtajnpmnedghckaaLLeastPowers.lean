/-
  FnLeastPowers, walked: the least powers are least.
-/
import Derived.Test.YtajnpmnedghckaaLPowerStep
namespace Go.Proofs.Ytajnpmnedghckaa
open Go.RowKit
set_option linter.unusedVariables false

set_option maxRecDepth 100000 in
set_option maxHeartbeats 6400000 in
theorem fnLeastPowers_walk {A : Option Addr} {n c : Nat} {bs : List Int} (w : World) (h : RV w w.heap.size A n (bs.map (Value.int .u8))) (wf : ∀ x ∈ bs, (Lit.int .u8 x).wf = true) (hl : n ≤ c) (hm : c ≤ maxLen) :
    Calls Try.prog 10 #[.slice A n c] w fun e w' => e = .returned (.bool true) ∧ Below w.heap.size w w' := by
  unfold maxLen at hm
  by_cases hn : n ≤ 1048576
  · have HBY := hid (fun x hx => bounds_u8 (wf x hx))
    have hd := drawLeastPowers_any A n c w.heap.size bs w h (Nat.le_refl _) hl hn HBY.out
    have HRB := hid (show RB w w.heap.size A n bs from h)
    obtain ⟨i0, hi0, hz0, hz1, hz2⟩ := info_parts infoInt
    clear wf h
    go_enter Try.func10, Try.ntmps10
    go_wp2_with fail
    refine hd.mono ?_
    rintro e w1 ⟨A1, n1, c1, rows, N, G, rfl, tab, hn1, hb1⟩
    have L := Lk.new (c := c1) (N := N) (G := G) hb1 (OwnII.rii tab)
    obtain ⟨W, HW⟩ : ∃ W : World, W = w1.alloc (.cells #[.slice A1 n1 c1, .int .i64 N, .int .i64 G] 27) := ⟨_, rfl⟩
    rw [← HW] at L
    obtain ⟨P, HP⟩ : ∃ P, Hid (leastL rows N G = P) := ⟨_, hid rfl⟩
    obtain ⟨M, HM⟩ : ∃ M, Hid (meetB rows N G P = M) := ⟨_, hid rfl⟩
    have HP5 := hid (show P.length ≤ 5 by rw [← HP.out]; exact leastL_len _ _ _)
    have hc1 := leastPowers_impl A1 n1 c1 w1.heap.size rows N G W L.rows L.hB (by omega)
    rw [HP.out, HM.out] at hc1
    have HC1 := hid hc1
    obtain ⟨cw0, cw1, cw2⟩ := blk3 L.box
    clear hd tab hb1 hc1
    go_wp2_with fail
    simp only [← HW]
    clear HW
    refine HC1.out.mono ?_
    rintro e w2 ⟨A2, n2, c2, rfl, o2, hb2⟩
    have L2 := L.below hb2
    have v2 : RI w2 w2.heap.size A2 n2 P := OwnI.ri o2
    have hc2 := leastPowers_spec A1 n1 c1 w1.heap.size rows N G w2 L2.rows L2.hB (by omega)
    rw [HP.out, HM.out] at hc2
    have HC2 := hid hc2
    clear cw0 cw1 cw2 L hb2 o2 hc2
    obtain ⟨cw0, cw1, cw2⟩ := blk3 L2.box
    go_wp2_with fail
    refine HC2.out.mono ?_
    rintro e w3 ⟨A3, n3, c3, rfl, o3, hb3⟩
    have L3 := L2.below hb3
    have v3 : RI w3 w2.heap.size A2 n2 P := RV.below v2 hb3
    have hz3 := hb3.size
    have HSA := hid (sameInts_same A2 A3 n2 n3 c2 c3 w2.heap.size w3.heap.size P w3 v3 (OwnI.ri o3) (by have := HP5.out; omega))
    have hMM : (M != M) = false := by simp
    clear cw0 cw1 cw2 L2 hb3 v2 o3
    obtain ⟨cw0, cw1, cw2⟩ := blk3 L3.box
    go_wp2_with fail
    refine HSA.out.mono ?_
    rintro e w4 ⟨rfl, hb4⟩
    have L4 := L3.below hb4
    have v4 : RI w4 w2.heap.size A2 n2 P := RV.below v3 (hb4.mono hz3)
    have hz4 := hb4.size
    have HPL := hid (RI.len v4)
    clear cw0 cw1 cw2 L3 hb4 v3
    by_cases hlo : LinksOk rows N G
    · have HLO := hid (show PowOk rows N G P ∧ stepL rows N G P = P by rw [← HP.out]; exact least_ok hlo)
      have hn20 : 0 < n2 := by rw [← HPL.out, HLO.out.1.2.1]; exact hlo.1
      have hn25 : n2 ≤ 5 := by rw [← HPL.out]; exact HP5.out
      have hne : ((n2 : Int) == 0) = false := by simp; omega
      have HPB := hid HLO.out.1.2.2
      have HLL : Hid (∀ qs, MeetOk rows N G qs → Le P qs) := hid (fun qs h => by rw [← HP.out]; exact least_le h)
      have HLM : Hid (∀ qs, MeetOk rows N G qs → M = true) := hid (fun qs h => by rw [← HM.out, ← HP.out]; exact meetB_yes (least_meet h))
      have hd2 := drawLinksMeet_any A n c w.heap.size bs w4 (RV.below HRB.out L4.bel) L4.bel.size hl hn HBY.out
      have HD2 := hid hd2
      have HL4 := hid L4
      have HV4 := hid v4
      clear hlo hd2 L4 v4
      go_wp2_with fail
      refine HD2.out.mono ?_
      rintro e w5 ⟨A5, n5, c5, rows5, N5, G5, A6, n6, c6, os, rfl, tab5, hn5, po5, hn6, hb5⟩
      have L5 := (HL4.out.below hb5).alloc (.cells #[.slice A5 n5 c5, .int .i64 N5, .int .i64 G5] 27)
      have v5 : RI (w5.alloc (.cells #[.slice A5 n5 c5, .int .i64 N5, .int .i64 G5] 27)) w2.heap.size A2 n2 P := RV.alloc (RV.below HV4.out (hb5.mono (by omega))) (by have := hb5.size; omega) _
      have p5 : RI (w5.alloc (.cells #[.slice A5 n5 c5, .int .i64 N5, .int .i64 G5] 27)) w5.heap.size A6 n6 os := RV.alloc po5 (Nat.le_refl _) _
      obtain ⟨cw0, cw1, cw2⟩ := blk3 L5.box
      obtain ⟨WX, HWX⟩ : ∃ W : World, W = w5.alloc (.cells #[.slice A5 n5 c5, .int .i64 N5, .int .i64 G5] 27) := ⟨_, rfl⟩
      rw [← HWX] at L5 v5 p5
      have hzX : w5.heap.size ≤ WX.heap.size := by rw [HWX]; simp
      have hz25 : w2.heap.size ≤ WX.heap.size := by have := hb5.size; omega
      obtain ⟨B2, HB2⟩ : ∃ B2, Hid (meetB rows N G os = B2) := ⟨_, hid rfl⟩
      have hc5 := linksMeet_impl A1 A6 n1 n6 c1 c6 WX.heap.size rows N G os WX (RVV.more L5.rows L5.hB) (RV.more p5 hzX) (Nat.le_refl _) (by omega) (by omega)
      rw [HB2.out] at hc5
      have HC5 := hid hc5
      clear tab5 po5 hc5 hb5
      go_wp2_with fail
      simp only [← HWX]
      clear HWX
      refine HC5.out.mono ?_
      rintro e w6 ⟨rfl, hb6⟩
      have HLW6 := hid (L5.below hb6)
      have HPW6 := hid (show RI w6 w6.heap.size A2 n2 P from RV.more (RV.below v5 (hb6.mono hz25)) (Nat.le_trans hz25 hb6.size))
      have HOW6 := hid (show RI w6 w6.heap.size A6 n6 os from RV.more (RV.below p5 (hb6.mono hzX)) (Nat.le_trans hzX hb6.size))
      clear cw0 cw1 cw2 L5 v5 p5 hb6
      cases B2
      · have HLW := HLW6
        have HPW := HPW6
        cases M
        · go_wp2_with fail
          go_loopw [11] (fun i wr => i = .int .i64 0 ∧ w6 = wr) (fun _ _ => 0)
          case atStart => exact ⟨rfl, rfl⟩
          case round =>
            obtain ⟨rfl, rfl⟩ := hrel
            have hcs := powerStep_impl A1 A2 n1 n2 c1 c2 w6.heap.size rows N G P w6 (RVV.more HLW.out.rows HLW.out.hB) (RV.more HPW.out (Nat.le_refl _)) (Nat.le_refl _) (by omega) (by omega)
            rw [stepI_yes HLO.out.1, HLO.out.2] at hcs
            have HCS := hid hcs
            have HL8 := hid HLW.out
            have HP8 := hid (RV.more HPW.out (Nat.le_refl _))
            obtain ⟨cq0, cq1, cq2⟩ := blk3 HLW.out.box
            clear hcs
            go_wp2_with fail
            refine HCS.out.mono ?_
            rintro e w8 ⟨A8, n8, c8, rfl, o8, hb8⟩
            have L9 := HL8.out.below hb8
            have p9 : RI w8 w6.heap.size A2 n2 P := RV.below HP8.out hb8
            have HSA := hid (sameInts_same A8 A2 n8 n2 c8 c2 w8.heap.size w6.heap.size P w8 (OwnI.ri o8) p9 (by rw [HPL.out]; omega))
            have HL9 := hid L9
            have HP9 := hid (And.intro p9 hb8.size)
            clear cq0 cq1 cq2 L9 p9 o8 hb8
            go_wp2_with fail
            refine HSA.out.mono ?_
            rintro e w9 ⟨rfl, hb9⟩
            have L10 := HL9.out.below hb9
            obtain ⟨cq0, cq1, cq2⟩ := blk3 L10.box
            have hc10 := linksMeet_impl A1 A2 n1 n2 c1 c2 w9.heap.size rows N G P w9 (RVV.more L10.rows L10.hB) (RV.more (RV.below HP9.out.1 (hb9.mono HP9.out.2)) (Nat.le_trans HP9.out.2 hb9.size)) (Nat.le_refl _) (by omega) (by omega)
            rw [HM.out] at hc10
            have HC10 := hid hc10
            have HF10 := hid L10.bel
            clear L10 hb9 hc10
            go_wp2_with fail
            refine HC10.out.mono ?_
            rintro e w11 ⟨rfl, hb11⟩
            have HF11 := hid (HF10.out.trans (hb11.mono HF10.out.size))
            clear hb11
            go_wp2
            go_ret
            exact ⟨rfl, HF11.out⟩
        · go_wp2_with fail
          go_loopw [11] (fun i wr => ∃ k : Nat, k ≤ n2 ∧ i = .int .i64 k ∧ Below w6.heap.size w6 wr) (fun i _ => n2 - (intOf i).toNat)
          case atStart => exact ⟨0, Nat.zero_le _, rfl, Below.refl _ _⟩
          case round =>
            obtain ⟨k, hk, rfl, hbr⟩ := hrel
            have LR := HLW.out.below hbr
            have pr : RI wr wr.heap.size A2 n2 P := RV.more (RV.below HPW.out hbr) hbr.size
            by_cases hlt : k < n2
            · obtain ⟨b7, o7, x, he7, hb7, hx, hcx⟩ := RI.at_ pr hlt
              have hxb : 0 ≤ x ∧ x ≤ 10000 := by have := HPB.out k (by rw [HPL.out]; exact hlt); rwa [pw_of hx] at this
              have r1 : IntKind.i64.wrap (x - 1) = x - 1 := IntWalk.i64_in _ (by omega)
              have HX := hid hx
              have HLR := hid LR
              have HPR := hid pr
              have HNM : Hid (meetB rows N G (P.set k (x - 1)) = false) := hid (meetB_no (fun hh => by
                have := (HLL.out (P.set k (x - 1)) hh).2 k (by rw [HPL.out]; exact hlt)
                rw [pw_of HX.out, pw_of (List.getElem?_set_self (by rw [HPL.out]; exact hlt))] at this
                omega))
              have hown0 := own_lit0 (w := wr) 3 (Nat.le_refl _)
              have hk0 : (0 : Int) ≤ (k : Int) := by omega
              have hkn : (k : Int) < (n2 : Int) := by omega
              clear hx hcx he7 LR pr
              go_wp2_with (at_builtin; refine wpList_all rfl _ _ _ rfl wr.heap.size 3 i0 _ 8 Try.underlying34 hi0 hz0 hz1 hz2 rfl (by omega) _ 0 0 [] rfl hown0 wr.heap.size A2 n2 c2 (P.map (Value.int .i64)) rfl (RV.alloc HPR.out (Nat.le_refl _) _) (by intro u hu; obtain ⟨x, _, rfl⟩ := List.mem_map.1 hu; rfl) (by omega) (by omega) (by simp) ?_; intro A5 c5 w5 hown5 hgrow5; simp only [Nat.zero_add, List.nil_append] at hown5; have hb5 := below_push ((Below.refl wr.heap.size wr).alloc (Nat.le_refl _) _) hown0 (Nat.le_refl _) (by simp) hgrow5; obtain ⟨g5, y, hA5, e1, e2, e3, hy, hcy, hfr, hst⟩ := OwnI.stored (k := k) (ownV_of1 hown5) hlt (x - 1); subst hA5; have hyx : x = y := (by have := HX.out; rw [hy] at this; injection this with h; exact h.symm); subst hyx; have hL5 := HLR.out.below hb5; have hbx : w1.heap.size ≠ g5 := (by have := HLR.out.box.lt; omega); have hbx2 : ¬ g5 = w1.heap.size := (by omega); obtain ⟨cq0, cq1, cq2⟩ := blk3 hL5.box; have HQ := hid (And.intro hst (And.intro hL5 hb5)); clear hst hL5 hb5 hown5 hgrow5 hy)
              have bS : Below wr.heap.size wr (w5.setCell ⟨g5, k, none⟩ (.int .i64 (x - 1))) := HQ.out.2.2.setCell (p := ⟨g5, k, none⟩) e1 _
              have L6 := HLR.out.below bS
              have hc6 := linksMeet_impl A1 (some ⟨g5, 0, none⟩) n1 n2 c1 c5 (w5.setCell ⟨g5, k, none⟩ (.int .i64 (x - 1))).heap.size rows N G (P.set k (x - 1)) _ (RVV.more L6.rows L6.hB) (RV.more (OwnI.ri HQ.out.1) (Nat.le_of_eq (by simp [World.setCell]))) (Nat.le_refl _) (by omega) (by omega)
              rw [HNM.out] at hc6
              refine hc6.mono ?_
              rintro e w7 ⟨rfl, hb7'⟩
              have HB7 := hid (hbr.trans ((bS.trans (hb7'.mono bS.size)).mono hbr.size))
              clear hb7' bS L6 hc6 hcy hfr cq0 cq1 cq2 hbr
              go_wp2
              go_roundw
              case rel => exact ⟨k + 1, by omega, by go_num, HB7.out⟩
              case measure => simp [intOf]; omega
            · have hkn : k = n2 := by omega
              subst hkn
              have hcs := powerStep_impl A1 A2 n1 k c1 c2 wr.heap.size rows N G P wr (RVV.more LR.rows LR.hB) pr (Nat.le_refl _) (by omega) (by omega)
              rw [stepI_yes HLO.out.1, HLO.out.2] at hcs
              have HCS := hid hcs
              have HL8 := hid LR
              have HP8 := hid pr
              obtain ⟨cq0, cq1, cq2⟩ := blk3 LR.box
              clear hcs
              go_wp2_with fail
              refine HCS.out.mono ?_
              rintro e w8 ⟨A8, n8, c8, rfl, o8, hb8⟩
              have L9 := HL8.out.below hb8
              have p9 : RI w8 wr.heap.size A2 k P := RV.below HP8.out hb8
              have HSA := hid (sameInts_same A8 A2 n8 k c8 c2 w8.heap.size wr.heap.size P w8 (OwnI.ri o8) p9 (by rw [HPL.out]; omega))
              have HL9 := hid L9
              have HP9 := hid (And.intro p9 hb8.size)
              clear cq0 cq1 cq2 L9 p9 o8 hb8
              go_wp2_with fail
              refine HSA.out.mono ?_
              rintro e w9 ⟨rfl, hb9⟩
              have L10 := HL9.out.below hb9
              obtain ⟨cq0, cq1, cq2⟩ := blk3 L10.box
              have hc10 := linksMeet_impl A1 A2 n1 k c1 c2 w9.heap.size rows N G P w9 (RVV.more L10.rows L10.hB) (RV.more (RV.below HP9.out.1 (hb9.mono HP9.out.2)) (Nat.le_trans HP9.out.2 hb9.size)) (Nat.le_refl _) (by omega) (by omega)
              rw [HM.out] at hc10
              have HC10 := hid hc10
              have HF10 := hid L10.bel
              clear L10 hb9 hc10
              go_wp2_with fail
              refine HC10.out.mono ?_
              rintro e w11 ⟨rfl, hb11⟩
              have HF11 := hid (HF10.out.trans (hb11.mono HF10.out.size))
              clear hb11
              go_wp2
              go_ret
              exact ⟨rfl, HF11.out⟩
      · have hmo := meetB_iff.1 HB2.out
        have hMt := HLM.out os hmo
        subst hMt
        have hle := HLL.out os hmo
        have hn62 : n6 = n2 := by rw [← RI.len HOW6.out, ← hle.1]; exact HPL.out
        subst hn62
        have HLE := hid hle
        have q1 := HPW6.out
        have q2 := HOW6.out
        clear hmo hle
        go_wp2
        go_loopw [10] (fun i wr => ∃ k d : Nat, k ≤ n6 ∧ i = .int .i64 k ∧ wr = w6.drewN d) (fun i _ => n6 - (intOf i).toNat)
        case atStart => exact ⟨0, 0, Nat.zero_le _, rfl, rfl⟩
        case round =>
          obtain ⟨k, d, hk, rfl, rfl⟩ := hrel
          by_cases hlt : k < n6
          · obtain ⟨b7, o7, x, rfl, hb7, hx, hcx⟩ := RI.at_ q1 hlt
            obtain ⟨b8, o8, y, rfl, hb8, hy, hcy⟩ := RI.at_ q2 hlt
            have hxy : ¬ y < x := by
              have := HLE.out.2 k (by rw [HPL.out]; exact hlt)
              rw [pw_of hx, pw_of hy] at this
              omega
            clear hx hy
            go_wp2_with (go_quiet (fail))
            go_roundw
            case rel => exact ⟨k + 1, _, by omega, by go_num, by first | rfl | exact World.drewN_drewN _ _ _⟩
            case measure => simp [intOf]; omega
          · have HLW := hid (HLW6.out.drewN d)
            have HPW := hid (show RI (w6.drewN d) (w6.drewN d).heap.size A2 n6 P from HPW6.out)
            clear q1 q2
            generalize w6.drewN d = wd at HLW HPW ⊢
            · go_wp2_with fail
              go_loopw [11] (fun i wr => ∃ k : Nat, k ≤ n6 ∧ i = .int .i64 k ∧ Below wd.heap.size wd wr) (fun i _ => n6 - (intOf i).toNat)
              case atStart => exact ⟨0, Nat.zero_le _, rfl, Below.refl _ _⟩
              case round =>
                obtain ⟨k, hk, rfl, hbr⟩ := hrel
                have LR := HLW.out.below hbr
                have pr : RI wr wr.heap.size A2 n6 P := RV.more (RV.below HPW.out hbr) hbr.size
                by_cases hlt : k < n6
                · obtain ⟨b7, o7, x, he7, hb7, hx, hcx⟩ := RI.at_ pr hlt
                  have hxb : 0 ≤ x ∧ x ≤ 10000 := by have := HPB.out k (by rw [HPL.out]; exact hlt); rwa [pw_of hx] at this
                  have r1 : IntKind.i64.wrap (x - 1) = x - 1 := IntWalk.i64_in _ (by omega)
                  have HX := hid hx
                  have HLR := hid LR
                  have HPR := hid pr
                  have HNM : Hid (meetB rows N G (P.set k (x - 1)) = false) := hid (meetB_no (fun hh => by
                    have := (HLL.out (P.set k (x - 1)) hh).2 k (by rw [HPL.out]; exact hlt)
                    rw [pw_of HX.out, pw_of (List.getElem?_set_self (by rw [HPL.out]; exact hlt))] at this
                    omega))
                  have hown0 := own_lit0 (w := wr) 3 (Nat.le_refl _)
                  have hk0 : (0 : Int) ≤ (k : Int) := by omega
                  have hkn : (k : Int) < (n6 : Int) := by omega
                  clear hx hcx he7 LR pr
                  go_wp2_with (at_builtin; refine wpList_all rfl _ _ _ rfl wr.heap.size 3 i0 _ 8 Try.underlying34 hi0 hz0 hz1 hz2 rfl (by omega) _ 0 0 [] rfl hown0 wr.heap.size A2 n6 c2 (P.map (Value.int .i64)) rfl (RV.alloc HPR.out (Nat.le_refl _) _) (by intro u hu; obtain ⟨x, _, rfl⟩ := List.mem_map.1 hu; rfl) (by omega) (by omega) (by simp) ?_; intro A5 c5 w5 hown5 hgrow5; simp only [Nat.zero_add, List.nil_append] at hown5; have hb5 := below_push ((Below.refl wr.heap.size wr).alloc (Nat.le_refl _) _) hown0 (Nat.le_refl _) (by simp) hgrow5; obtain ⟨g5, y, hA5, e1, e2, e3, hy, hcy, hfr, hst⟩ := OwnI.stored (k := k) (ownV_of1 hown5) hlt (x - 1); subst hA5; have hyx : x = y := (by have := HX.out; rw [hy] at this; injection this with h; exact h.symm); subst hyx; have hL5 := HLR.out.below hb5; have hbx : w1.heap.size ≠ g5 := (by have := HLR.out.box.lt; omega); have hbx2 : ¬ g5 = w1.heap.size := (by omega); obtain ⟨cq0, cq1, cq2⟩ := blk3 hL5.box; have HQ := hid (And.intro hst (And.intro hL5 hb5)); clear hst hL5 hb5 hown5 hgrow5 hy)
                  have bS : Below wr.heap.size wr (w5.setCell ⟨g5, k, none⟩ (.int .i64 (x - 1))) := HQ.out.2.2.setCell (p := ⟨g5, k, none⟩) e1 _
                  have L6 := HLR.out.below bS
                  have hc6 := linksMeet_impl A1 (some ⟨g5, 0, none⟩) n1 n6 c1 c5 (w5.setCell ⟨g5, k, none⟩ (.int .i64 (x - 1))).heap.size rows N G (P.set k (x - 1)) _ (RVV.more L6.rows L6.hB) (RV.more (OwnI.ri HQ.out.1) (Nat.le_of_eq (by simp [World.setCell]))) (Nat.le_refl _) (by omega) (by omega)
                  rw [HNM.out] at hc6
                  refine hc6.mono ?_
                  rintro e w7 ⟨rfl, hb7'⟩
                  have HB7 := hid (hbr.trans ((bS.trans (hb7'.mono bS.size)).mono hbr.size))
                  clear hb7' bS L6 hc6 hcy hfr cq0 cq1 cq2 hbr
                  go_wp2
                  go_roundw
                  case rel => exact ⟨k + 1, by omega, by go_num, HB7.out⟩
                  case measure => simp [intOf]; omega
                · have hkn : k = n6 := by omega
                  subst hkn
                  have hcs := powerStep_impl A1 A2 n1 k c1 c2 wr.heap.size rows N G P wr (RVV.more LR.rows LR.hB) pr (Nat.le_refl _) (by omega) (by omega)
                  rw [stepI_yes HLO.out.1, HLO.out.2] at hcs
                  have HCS := hid hcs
                  have HL8 := hid LR
                  have HP8 := hid pr
                  obtain ⟨cq0, cq1, cq2⟩ := blk3 LR.box
                  clear hcs
                  go_wp2_with fail
                  refine HCS.out.mono ?_
                  rintro e w8 ⟨A8, n8, c8, rfl, o8, hb8⟩
                  have L9 := HL8.out.below hb8
                  have p9 : RI w8 wr.heap.size A2 k P := RV.below HP8.out hb8
                  have HSA := hid (sameInts_same A8 A2 n8 k c8 c2 w8.heap.size wr.heap.size P w8 (OwnI.ri o8) p9 (by rw [HPL.out]; omega))
                  have HL9 := hid L9
                  have HP9 := hid (And.intro p9 hb8.size)
                  clear cq0 cq1 cq2 L9 p9 o8 hb8
                  go_wp2_with fail
                  refine HSA.out.mono ?_
                  rintro e w9 ⟨rfl, hb9⟩
                  have L10 := HL9.out.below hb9
                  obtain ⟨cq0, cq1, cq2⟩ := blk3 L10.box
                  have hc10 := linksMeet_impl A1 A2 n1 k c1 c2 w9.heap.size rows N G P w9 (RVV.more L10.rows L10.hB) (RV.more (RV.below HP9.out.1 (hb9.mono HP9.out.2)) (Nat.le_trans HP9.out.2 hb9.size)) (Nat.le_refl _) (by omega) (by omega)
                  rw [HM.out] at hc10
                  have HC10 := hid hc10
                  have HF10 := hid L10.bel
                  clear L10 hb9 hc10
                  go_wp2_with fail
                  refine HC10.out.mono ?_
                  rintro e w11 ⟨rfl, hb11⟩
                  have HF11 := hid (HF10.out.trans (hb11.mono HF10.out.size))
                  clear hb11
                  go_wp2
                  go_ret
                  exact ⟨rfl, HF11.out⟩
    · have hPn : P = [] := by rw [← HP.out]; exact leastL_no hlo
      have hMf : M = false := by rw [← HM.out]; exact meetB_nolinks hlo
      have hn20 : n2 = 0 := by rw [← HPL.out, hPn]; rfl
      subst hn20 hMf
      have HF4 := hid L4.bel
      clear L4 v4 hPn hlo
      go_wp2_with fail
      refine (alive_any _).mono ?_
      rintro e w5 ⟨rfl, hb5⟩
      have HB5 := hid (HF4.out.trans (hb5.mono HF4.out.size))
      clear hb5
      go_wp2
      go_ret
      exact ⟨rfl, HB5.out⟩
  · go_enter Try.func10, Try.ntmps10
    go_wp2
    go_ret
    exact ⟨rfl, Below.refl _ _⟩
end Go.Proofs.Ytajnpmnedghckaa
