/-
  FnSlotsComplete, walked: where all stations are in conflict, greedy and best slots are 0, 1, 2 and so on, and the group has all stations.
-/
import Derived.Test.YtgccpjhkgkhllaaDoorDSloD
import Derived.Test.YtgccpjhkgkhllaaDoorSloX
import Derived.Test.YtgccpjhkgkhllaaDoorSloH
import Derived.Test.YtgccpjhkgkhllaaDoorComp
import Derived.Test.YtgccpjhkgkhllaaDoorSmall
import Derived.Test.YtgccpjhkgkhllaaDoorAlive
import Derived.OpenShut
import Derived.Deep.DeepCutAuto
namespace Go.Proofs.YtgccpjhkgkhllaaDoor
open Go.RowKit
set_option linter.unusedVariables false

theorem castL_range_succ (k : Nat) : (castL (List.range (k + 1))).map (Value.int .i64) = (castL (List.range k)).map (Value.int .i64) ++ [.int .i64 (k : Int)] := by
  unfold castL
  rw [List.range_succ]
  simp
theorem compR_vals (n k : Nat) : ((List.range n).map fun (t : Nat) => Value.bool ((t : Int) != (k : Int))) = (compR n k).map Value.bool := by
  unfold compR
  simp [Function.comp_def]
set_option maxRecDepth 100000 in
set_option maxHeartbeats 3200000 in
theorem fnSlotsComplete_walk {A : Option Addr} {n c : Nat} {bs : List Int} (w : World) (hT : TabW w) (h : RV w w.heap.size A n (bs.map (Value.int .u8))) (wf : ∀ x ∈ bs, (Lit.int .u8 x).wf = true) (hl : n ≤ c) (hm : c ≤ maxLen) :
    Calls Tryd.prog 3 #[.slice A n c] w fun e w' => e = .returned (.bool true) ∧ Below w.heap.size w w' := by
  unfold maxLen at hm
  by_cases hn : n ≤ 1048576
  · have hd := drawBestSlots_any A n c w.heap.size bs w h (Nat.le_refl _) hl hn (fun x hx => bounds_u8 (wf x hx))
    obtain ⟨i1, hj0, hj1, hj2, hj3⟩ := info_parts infoRowT
    obtain ⟨ib, hb0, hb1', hb2', hb3'⟩ := info_parts infoBo
    obtain ⟨i0, hi0, hz0, hz1, hz2⟩ := info_parts infoSl
    have HT := hid hT
    clear wf h hT
    go_enter Tryd.func3, Tryd.ntmps3
    go_wp2_with fail
    refine hd.mono ?_
    rintro e w1 ⟨A1, n1, c1, rows, rfl, tab, _, _, hn1, hb1⟩
    have HT1 := hid (TabW.below HT.out hb1 HT.out.lt)
    have HB1 := hid hb1
    obtain ⟨N, hN7, hmin⟩ : ∃ N : Nat, N ≤ 7 ∧ min (n1 : Int) 7 = (N : Int) := ⟨min n1 7, by omega, by omega⟩
    obtain ⟨lo, hlo⟩ : ∃ lo, w1.heap.size = lo := ⟨_, rfl⟩
    obtain ⟨W, HW⟩ : ∃ W : World, W = (w1.alloc (.cells #[] 26)).alloc (.cells #[] 3) := ⟨_, rfl⟩
    have F0 : Fam w1 lo [] := ⟨fun x hx => absurd hx (by simp), List.Pairwise.nil⟩
    have F1 := Fam.new (x := ⟨26, some ⟨w1.heap.size, 0, none⟩, 0, 0, []⟩) F0 ((Below.refl _ _).alloc (Nat.le_refl _) (.cells #[] 26)) (Nat.le_of_eq hlo.symm) (ownV_lit _ _)
    have F2 := Fam.new (x := ⟨3, some ⟨(w1.alloc (.cells #[] 26)).heap.size, 0, none⟩, 0, 0, []⟩) F1 ((Below.refl _ _).alloc (Nat.le_refl _) (.cells #[] 3)) (by simp; omega) (ownV_lit _ _)
    have hs1 : (w1.alloc (.cells #[] 26)).heap.size = lo + 1 := by simp [hlo]
    rw [hs1, hlo, ← HW] at F2
    have bW : Below lo w1 W := by rw [HW]; exact ((Below.refl _ _).alloc (by omega) _).alloc (by simp; omega) _
    have HF2 := hid (And.intro F2 bW)
    clear hd hb1 tab F0 F1 F2 bW
    go_upto_region 4 with fail
    go_cut [4] (fun v4 wx => v4 = .int .i64 (N : Int) ∧ w1 = wx)
    case first =>
      clear HW
      go_wp2
      all_goals
        go_meet
        exact ⟨congrArg _ (by omega), rfl⟩
    case rest =>
    obtain ⟨rfl, rfl⟩ := hcut
    go_wp2
    simp only [← HW]
    clear HW
    go_loopw [5, 6, 7] (fun v5 v6 v7 wr => ∃ (k c5 c6 : Nat) (A5 A6 : Option Addr) (Q : List It), k ≤ N ∧ v5 = .slice A5 k c5 ∧ v6 = .slice A6 k c6 ∧ v7 = .int .i64 k ∧ Fam wr lo (⟨3, A6, k, c6, (castL (List.range k)).map (Value.int .i64)⟩ :: ⟨26, A5, k, c5, Q.map It.hdr⟩ :: Q.reverse) ∧ Hid (Q.map It.vs = ((List.range k).map (compR N)).map fun r => r.map Value.bool) ∧ Below lo w1 wr) (fun _ _ v7 _ => N - (intOf v7).toNat)
    case atStart => exact ⟨0, 0, 0, _, _, [], Nat.zero_le _, rfl, rfl, rfl, by simpa [castL] using HF2.out.1, hid (by simp), HF2.out.2⟩
    case round =>
      obtain ⟨k, c5, c6, A5, A6, Q, hk, rfl, rfl, rfl, fam, HQ, hbr⟩ := hrel
      have hsz := hbr.size
      by_cases hlt : k < N
      · have hkN : (k : Int) < (N : Int) := by omega
        obtain ⟨wo, rfl⟩ : ∃ wo : World, wo = wr := ⟨wr, rfl⟩
        have hzlo : lo ≤ wo.heap.size := by omega
        obtain ⟨Wi, HWi⟩ : ∃ W : World, W = wo.alloc (.cells #[] 4) := ⟨_, rfl⟩
        have f0 := Fam.new (x := ⟨4, some ⟨wo.heap.size, 0, none⟩, 0, 0, []⟩) fam ((Below.refl _ _).alloc (Nat.le_refl _) (.cells #[] 4)) hzlo (ownV_lit _ _)
        have b0 : Below lo w1 (wo.alloc (.cells #[] 4)) := hbr.alloc (by omega) _
        rw [← HWi] at f0 b0
        have HF0 := hid (And.intro f0 b0)
        clear fam hbr f0 b0
        go_wp2
        simp only [← HWi]
        clear HWi
        go_loopw [8, 9] (fun v8 v9 wi => ∃ (j c8 : Nat) (A8 : Option Addr), j ≤ N ∧ v8 = .slice A8 j c8 ∧ v9 = .int .i64 j ∧ Fam wi lo (⟨4, A8, j, c8, (List.range j).map fun (t : Nat) => Value.bool ((t : Int) != (k : Int))⟩ :: ⟨3, A6, k, c6, (castL (List.range k)).map (Value.int .i64)⟩ :: ⟨26, A5, k, c5, Q.map It.hdr⟩ :: Q.reverse) ∧ Below lo w1 wi) (fun _ v9 _ => N - (intOf v9).toNat)
        case atStart => exact ⟨0, 0, _, Nat.zero_le _, rfl, rfl, by simpa using HF0.out.1, HF0.out.2⟩
        case round =>
          obtain ⟨j, c8, A8, hj, rfl, rfl, fam, hbi⟩ := hrel
          have hszi := hbi.size
          by_cases hjt : j < N
          · have hjN : (j : Int) < (N : Int) := by omega
            have hown8 := fam.own
            have HFM := hid (And.intro fam hbi)
            clear fam hbi
            go_wp2_with (at_builtin; refine wpList_pushZ rfl _ _ _ rfl lo 4 ib _ 1 Tryd.underlying26 hb0 hb1' hb2' hb3' rfl (by omega) _ _ A8 j c8 _ rfl hown8 wr.heap.size rfl rfl rfl (by omega) (by omega) ?_; intro g8 cap8 w9 hown8' hgrow8 hlies8 hlt8; have F9 := Fam.push HFM.out.1 hown8' hgrow8 (by rcases hlies8 with h | h; exact .inl h; exact .inr (by omega)); have hb9 := HFM.out.2.trans (grown_bel hown8 hgrow8 (by omega)); have HF9 := hid (And.intro F9 hb9); clear F9 hown8' hgrow8 hlies8 hb9)
            go_roundw
            case rel => exact ⟨j + 1, cap8, _, by omega, rfl, by go_num, by rw [List.range_succ, List.map_append]; exact HF9.out.1, HF9.out.2⟩
            case measure => simp [intOf]; omega
          · have hjn : j = N := by omega
            subst hjn
            have F5 := fam.perm ((List.Perm.cons _ (List.Perm.swap _ _ _)).trans (List.Perm.swap _ _ _))
            have hown5 := F5.own
            have HF5 := hid (And.intro F5 hbi)
            rw [compR_vals] at HF5
            have HQ2 : Hid (∀ A2 c2, (Q ++ [(⟨4, A2, j, c2, (compR j k).map Value.bool⟩ : It)]).map It.vs = ((List.range (k + 1)).map (compR j)).map fun r => r.map Value.bool) := hid (fun A2 c2 => by
              rw [List.map_append, HQ.out, List.range_succ, List.map_append, List.map_append]; rfl)
            clear fam hbi F5
            go_wp2_with (first
              | (at_builtin; refine wpList_pushZ rfl _ _ _ rfl lo 26 i1 _ 24 Tryd.underlying23 hj0 hj1 hj2 hj3 rfl (by omega) _ _ A5 k c5 _ rfl hown5 wr.heap.size rfl rfl rfl (by omega) (by omega) ?_; intro g5 cap5 w5 hown5' hgrow5 hlies5 hlt5; have F6 := (Fam.push HF5.out.1 hown5' hgrow5 (by rcases hlies5 with h | h; exact .inl h; exact .inr (by omega))).perm ((List.Perm.cons _ (List.Perm.swap _ _ _)).trans (List.Perm.swap _ _ _)); have hb5 := HF5.out.2.trans (grown_bel hown5 hgrow5 (by omega)); have hz5 := hb5.size; have hown6 := F6.own; have HF6 := hid (And.intro F6 hb5); clear F6 hown5' hgrow5 hlies5 hb5)
              | (at_builtin; refine wpList_pushZ rfl _ _ _ rfl lo 3 i0 _ 8 Tryd.underlying25 hi0 hz0 hz1 hz2 rfl (by omega) _ _ A6 k c6 _ rfl hown6 w5.heap.size rfl rfl rfl (by omega) (by omega) ?_; intro g6 cap6 w6 hown6' hgrow6 hlies6 hlt6; have F7 := Fam.push HF6.out.1 hown6' hgrow6 (by rcases hlies6 with h | h; exact .inl h; exact .inr (by omega)); have hb6 := HF6.out.2.trans (grown_bel hown6 hgrow6 (by omega)); have HF7 := hid (And.intro F7 hb6); clear F7 hown6' hgrow6 hlies6 hb6))
            go_roundw
            case rel => exact ⟨k + 1, cap5, cap6, _, _, Q ++ [⟨4, A8, j, c8, (compR j k).map Value.bool⟩], by omega, rfl, rfl, by go_num, by rw [castL_range_succ, List.map_append, List.reverse_append]; exact HF7.out.1, hid (HQ2.out A8 c8), HF7.out.2⟩
            case measure => simp [intOf]; omega
      · have hkn : k = N := by omega
        subst hkn
        have p5 := fam.perm (List.Perm.swap _ _ _)
        have htab : RTT wr wr.heap.size A5 k (compT k) := Fam.rtt (x := ⟨26, A5, k, c5, Q.map It.hdr⟩) (Q := Q) (lo := lo) p5.head.rv (fun y hy => fam.1 y (by simp [hy])) HQ.out
        have hord : RI wr wr.heap.size A6 k (castL (List.range k)) := fam.head.rv
        have hTr := TabW.below HT1.out (hbr.mono (Nat.le_of_eq hlo)) HT1.out.lt
        have HI := greedy_impl A5 k c5 wr.heap.size (compT k) wr htab (Nat.le_refl _) (by omega) hTr
        rw [comp_greedy hN7] at HI
        have HI := hid HI
        have HTB := hid htab
        have HOR := hid hord
        have HTR := hid hTr
        have HB := hid (HB1.out.trans (hbr.mono (by rw [← hlo]; exact HB1.out.size)))
        have hcl : (castL (List.range k)).length ≤ 1000000000 := by rw [castL_len]; simp; omega
        clear fam p5 htab hord hTr hbr HQ
        go_wp2_with fail
        refine HI.out.mono ?_
        rintro e w2 ⟨A2, n2, c2, rfl, o2, hb2⟩
        have hz2' := hb2.size
        have hq2 := sameInts_same A2 A6 n2 k c2 c6 w2.heap.size wr.heap.size (castL (List.range k)) w2 (OwnI.ri o2) (RV.below HOR.out hb2) hcl
        have HQ2 := hid hq2
        have HB2 := hid hb2
        clear o2 hq2 hb2
        go_wp2_with fail
        refine HQ2.out.mono ?_
        rintro e w3 ⟨rfl, hb3⟩
        have HB3 := hid (HB2.out.trans (hb3.mono hz2'))
        have hz3 := HB3.out.size
        have hi3 := best_impl A5 k c5 wr.heap.size (compT k) w3 (RVV.below HTB.out HB3.out) hz3 (by omega)
        rw [comp_best hN7] at hi3
        have HI3 := hid hi3
        clear hb3 hi3
        go_wp2_with fail
        refine HI3.out.mono ?_
        rintro e w4 ⟨A4, n4, c4, rfl, o4, hb4⟩
        have HB4 := hid (HB3.out.trans (hb4.mono hz3))
        have hq4 := sameInts_same A4 A6 n4 k c4 c6 w4.heap.size wr.heap.size (castL (List.range k)) w4 (OwnI.ri o4) (RV.below HOR.out HB4.out) hcl
        have HQ4 := hid hq4
        have hz4 := HB4.out.size
        clear o4 hq4 hb4
        go_wp2_with fail
        refine HQ4.out.mono ?_
        rintro e w5 ⟨rfl, hb5⟩
        have HB5 := hid (HB4.out.trans (hb5.mono hz4))
        have hz5 := HB5.out.size
        have hi5 := groupSize_impl A5 k c5 wr.heap.size (compT k) w5 (RVV.below HTB.out HB5.out) hz5 (by omega) (TabW.below HTR.out HB5.out HTR.out.lt)
        rw [comp_group hN7] at hi5
        have HI5 := hid hi5
        clear hb5 hi5
        go_wp2_with fail
        refine HI5.out.mono ?_
        rintro e w6 ⟨rfl, hb6⟩
        have HB6 := hid (HB5.out.trans (hb6.mono hz5))
        have hz6 := HB6.out.size
        have hi6 := greedy_spec A5 k c5 wr.heap.size (compT k) w6 (RVV.below HTB.out HB6.out) hz6 (by omega)
        rw [comp_greedy hN7] at hi6
        have HI6 := hid hi6
        clear hb6 hi6
        go_wp2_with fail
        refine HI6.out.mono ?_
        rintro e w7 ⟨A7, n7, c7, rfl, o7, hb7⟩
        have HB7 := hid (HB6.out.trans (hb7.mono hz6))
        have hq7 := sameInts_same A7 A6 n7 k c7 c6 w7.heap.size wr.heap.size (castL (List.range k)) w7 (OwnI.ri o7) (RV.below HOR.out HB7.out) hcl
        have HQ7 := hid hq7
        have hz7 := HB7.out.size
        clear o7 hq7 hb7
        go_wp2_with fail
        refine HQ7.out.mono ?_
        rintro e w8 ⟨rfl, hb8⟩
        have HF := hid (HB.out.trans ((HB7.out.trans (hb8.mono hz7)).mono HB.out.size))
        clear hb8
        go_wp2
        go_ret
        exact ⟨rfl, HF.out⟩
  · clear wf h hT
    go_enter Tryd.func3, Tryd.ntmps3
    go_wp2
    go_ret
    exact ⟨rfl, Below.refl _ _⟩
end Go.Proofs.YtgccpjhkgkhllaaDoor
