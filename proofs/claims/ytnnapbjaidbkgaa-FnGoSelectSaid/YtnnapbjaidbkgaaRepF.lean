/-
  GoBack and SelectRepeat, the reference's, walked.
-/
import Derived.Test.YtnnapbjaidbkgaaRepE
namespace Go.Proofs.Ytnnapbjaidbkgaa
open Go.RowKit
set_option linter.unusedVariables false

theorem retIB_lit0 (w w' : World) (hb : Below w.heap.size w w') : RetIB w (.returned (.tuple #[.slice (some ⟨w'.heap.size, 0, none⟩) 0 0, .bool false])) (w'.alloc (.cells #[] 3)) ([], false) :=
  ⟨_, 0, 0, rfl, ownV_blk (vs := []) (Blk.new _ _ _) hb.size (by simp) rfl (by simp), hb.alloc hb.size _⟩
theorem retIB_lit00 (w : World) : RetIB w (.returned (.tuple #[.slice (some ⟨w.heap.size, 0, none⟩) 0 0, .bool false])) (w.alloc (.cells #[] 3)) ([], false) := retIB_lit0 w w (Below.refl _ _)

set_option maxHeartbeats 4000000 in
set_option maxRecDepth 20000 in
theorem goBack_spec (n win : Int) (A : Option Addr) (l c B : Nat) (lost : List Bool) (w : World) (h : RT w B A l lost) (hB : B ≤ w.heap.size) (hl : l ≤ 1000000000) :
    Calls Try.prog 21 #[.int .i64 n, .int .i64 win, .slice A l c] w fun e w' => RetIB w e w' (goBack n win lost) := by
  by_cases hv : ValidGo n win
  · obtain ⟨N, rfl⟩ := Int.eq_ofNat_of_zero_le hv.1
    obtain ⟨W, rfl⟩ := Int.eq_ofNat_of_zero_le (show 0 ≤ win by have := hv.2.2.1; omega)
    have hn : N ≤ 30 := by have := hv.2.1; omega
    have hw1 : 1 ≤ W := by have := hv.2.2.1; omega
    have hw8 : W ≤ 8 := by have := hv.2.2.2; omega
    obtain ⟨V, HVV⟩ : ∃ V, Hid (V = gbO N W lost 301 0 []) := ⟨_, hid rfl⟩
    have HV : Hid (goBack N W lost = goOut V) := hid (by rw [HVV.out]; unfold goBack; exact (if_pos hv).trans rfl)
    have HH := hid h
    obtain ⟨i0, hi0, hz0, hz1, hz2⟩ := info_parts infoI
    have hs1 := hid (fun W => l1In_yes (N : Int) 0 30 W (by omega) (by omega))
    have hs2 := hid (fun W' => l1In_yes (W : Int) 1 8 W' (by omega) (by omega))
    clear h hv
    go_enter Try.func21, Try.ntmps21
    go_wp2_with fail
    refine (hs1.out _).mono ?_
    rintro e w1 ⟨rfl, rfl⟩
    go_wp2_with fail
    refine (hs2.out _).mono ?_
    rintro e w1 ⟨rfl, rfl⟩
    go_wp2
    go_loopw [8, 9] (fun sv bv wr => ∃ (f b l1 c1 : Nat) (A1 : Option Addr) (s : List Int), bv = .int .i64 b ∧ sv = .slice A1 l1 c1 ∧ l1 ≤ 308 ∧ b ≤ N ∧ 301 ≤ f + l1 ∧ Hid (OwnI wr 3 w.heap.size wr.heap.size A1 l1 c1 s ∧ Below w.heap.size w wr ∧ gbO N W lost f b s = V)) (fun sv _ _ => 400 - slLenIn sv)
    case atStart => exact ⟨301, 0, 0, 0, _, [], rfl, rfl, by omega, Nat.zero_le _, by omega, hid ⟨ownV_blk (vs := []) (Blk.new _ _ _) (Nat.le_refl _) (by simp) rfl (by simp), (Below.refl _ _).alloc (Nat.le_refl _) _, HVV.out.symm⟩⟩
    case round =>
      obtain ⟨f, b, l1, c1, A1, s, rfl, rfl, hl1, hbn, hfl, HX⟩ := hrel
      have hls : Hid (s.length = l1) := hid (OwnI.len HX.out.1)
      by_cases hb : b < N
      · by_cases h300 : 300 ≤ l1
        · have hN : Hid (V = none) := hid (by
            have h1 := HX.out.2.2
            cases f with
            | zero => rw [gbO, if_pos hb] at h1; exact h1.symm
            | succ f => rw [gbO, if_pos hb, if_pos (by rw [hls.out]; exact h300)] at h1; exact h1.symm)
          go_wp2
          go_ret2
          rw [HV.out, hN.out]
          exact retIB_lit0 _ _ HX.out.2.1
        · obtain ⟨f, rfl⟩ : ∃ f', f = f' + 1 := ⟨f - 1, by omega⟩
          obtain ⟨M, HM⟩ : ∃ M, Hid (M = min (b + W) N - b) := ⟨_, hid rfl⟩
          obtain ⟨R, HR⟩ : ∃ R, Hid (R = gbR lost M b b s) := ⟨_, hid rfl⟩
          have HG1 : Hid (gbO N W lost f R.1 R.2 = V) := hid (by
            have h1 := HX.out.2.2
            rw [gbO, if_pos hb, if_neg (by rw [hls.out]; exact h300), ← HM.out, ← HR.out] at h1
            exact h1)
          have hM : b + M = min (b + W) N := by rw [HM.out]; omega
          have hM1 : b + M ≤ N := by omega
          have hM8 : M ≤ W := by omega
          have hM0 : 1 ≤ M := by omega
          have HM2 := hid hM
          have hRn := gbR_next lost M b b s (Nat.le_refl _)
          have hRl := gbR_len lost M b b s
          rw [← HR.out, hls.out] at hRl
          rw [← HR.out] at hRn
          have HRl := hid hRl
          have HRn := hid hRn
          have HX1 := hid (And.intro HX.out.1 HX.out.2.1)
          clear hM hRl hRn HX
          go_wp2
          go_loopw [10, 8, 11] (fun nv sv kv wr => ∃ (j l3 c3 : Nat) (A3 : Option Addr) (nx3 : Nat) (s3 : List Int), j ≤ M ∧ kv = .int .i64 ((b : Int) + (j : Int)) ∧ sv = .slice A3 l3 c3 ∧ nv = .int .i64 nx3 ∧ nx3 ≤ b + j ∧ l3 ≤ l1 + j ∧ b ≤ nx3 ∧
              Hid (OwnI wr 3 w.heap.size wr.heap.size A3 l3 c3 s3 ∧ Below w.heap.size w wr ∧ gbR lost (M - j) (b + j) nx3 s3 = R)) (fun _ _ kv _ => 100 - (intOf kv).toNat)
          case atStart => exact ⟨0, l1, c1, A1, b, s, Nat.zero_le _, by simp, rfl, rfl, by omega, Nat.le_refl _, Nat.le_refl _, hid ⟨HX1.out.1, HX1.out.2, HR.out.symm⟩⟩
          case round =>
            obtain ⟨j, l3, c3, A3, nx3, s3, hj, rfl, rfl, rfl, hnx3, hl3, hbn3, HX3⟩ := hrel
            by_cases hjM : j < M
            · have hmin : (if (b : Int) + (W : Int) < (N : Int) then (b : Int) + (W : Int) else (N : Int)) = (b : Int) + (M : Int) := by have := HM2.out; split <;> omega
              have hs3l : s3.length = l3 := OwnI.len HX3.out.1
              have hlo := lostAt_spec A l c B lost s3.length wr (RV.below HH.out (HX3.out.2.1.mono hB)) (by omega)
              have hg := HX3.out.2.2
              obtain ⟨m, hm⟩ : ∃ m, M - j = m + 1 := ⟨M - j - 1, by omega⟩
              have hm2 : M - (j + 1) = m := by omega
              rw [hm, gbR] at hg
              rw [hs3l] at hlo hg
              have H4 := hid (And.intro HX3.out.1 HX3.out.2.1)
              have hus := OwnV.own H4.out.1
              have hw4 : w.heap.size ≤ wr.heap.size := H4.out.2.size
              clear HX3 hs3l
              cases hv : lostB lost l3
              · rw [hv] at hlo hg
                by_cases hk : nx3 = b + j
                · rw [if_pos ⟨rfl, hk⟩] at hg
                  have hqq : ((nx3 : Int) == (b : Int) + (j : Int)) = true := by simp; omega
                  have HLO := hid hlo
                  have H5 : Hid (gbR lost (M - (j + 1)) (b + (j + 1)) (b + j + 1) (s3 ++ [((b + j : Nat) : Int)]) = R) := hid (by rw [hm2]; exact hg)
                  clear hlo hg hm hm2 hv hk
                  go_wp2_with fail
                  refine HLO.out.mono ?_
                  rintro e w1 ⟨rfl, rfl⟩
                  go_wp2_with (at_builtin; refine wpList_push rfl _ _ _ rfl w.heap.size 3 i0 _ 8 Try.underlying23 hi0 hz0 hz1 hz2 rfl (by omega) _ _ A3 l3 c3 _ rfl hus rfl rfl (by omega) hw4 ?_; intro g_ cap_ w6 hown6 hgrow6 hlies6 hlt6)
                  have H6 := hid (And.intro (ownPushIn hw4 H4.out.1 hown6) (below_push H4.out.2 hus (Nat.le_refl _) hw4 hgrow6))
                  clear hown6 hgrow6 hlies6 hlt6 hus
                  go_roundw
                  case rel => exact ⟨j + 1, l3 + 1, cap_, _, (b + j + 1), s3 ++ [((b + j : Nat) : Int)], by omega, by go_num, rfl, by go_num, by omega, by omega, by omega, hid ⟨by have := H6.out.1; unfold OwnI; rw [List.map_append]; exact this, H6.out.2, H5.out⟩⟩
                  case measure => simp [intOf]; omega
                · rw [if_neg (fun h => hk h.2)] at hg
                  have hqq : ((nx3 : Int) == (b : Int) + (j : Int)) = false := by simp; omega
                  have HLO := hid hlo
                  have H5 : Hid (gbR lost (M - (j + 1)) (b + (j + 1)) nx3 (s3 ++ [((b + j : Nat) : Int)]) = R) := hid (by rw [hm2]; exact hg)
                  clear hlo hg hm hm2 hv hk
                  go_wp2_with fail
                  refine HLO.out.mono ?_
                  rintro e w1 ⟨rfl, rfl⟩
                  go_wp2_with (at_builtin; refine wpList_push rfl _ _ _ rfl w.heap.size 3 i0 _ 8 Try.underlying23 hi0 hz0 hz1 hz2 rfl (by omega) _ _ A3 l3 c3 _ rfl hus rfl rfl (by omega) hw4 ?_; intro g_ cap_ w6 hown6 hgrow6 hlies6 hlt6)
                  have H6 := hid (And.intro (ownPushIn hw4 H4.out.1 hown6) (below_push H4.out.2 hus (Nat.le_refl _) hw4 hgrow6))
                  clear hown6 hgrow6 hlies6 hlt6 hus
                  go_roundw
                  case rel => exact ⟨j + 1, l3 + 1, cap_, _, nx3, s3 ++ [((b + j : Nat) : Int)], by omega, by go_num, rfl, rfl, by omega, by omega, by omega, hid ⟨by have := H6.out.1; unfold OwnI; rw [List.map_append]; exact this, H6.out.2, H5.out⟩⟩
                  case measure => simp [intOf]; omega
              · rw [hv] at hlo hg
                rw [if_neg (fun h => by cases h.1)] at hg
                have HLO := hid hlo
                have H5 : Hid (gbR lost (M - (j + 1)) (b + (j + 1)) nx3 (s3 ++ [((b + j : Nat) : Int)]) = R) := hid (by rw [hm2]; exact hg)
                clear hlo hg hm hm2 hv
                go_wp2_with fail
                refine HLO.out.mono ?_
                rintro e w1 ⟨rfl, rfl⟩
                go_wp2_with (at_builtin; refine wpList_push rfl _ _ _ rfl w.heap.size 3 i0 _ 8 Try.underlying23 hi0 hz0 hz1 hz2 rfl (by omega) _ _ A3 l3 c3 _ rfl hus rfl rfl (by omega) hw4 ?_; intro g_ cap_ w6 hown6 hgrow6 hlies6 hlt6)
                have H6 := hid (And.intro (ownPushIn hw4 H4.out.1 hown6) (below_push H4.out.2 hus (Nat.le_refl _) hw4 hgrow6))
                clear hown6 hgrow6 hlies6 hlt6 hus
                go_roundw
                case rel => exact ⟨j + 1, l3 + 1, cap_, _, nx3, s3 ++ [((b + j : Nat) : Int)], by omega, by go_num, rfl, rfl, by omega, by omega, by omega, hid ⟨by have := H6.out.1; unfold OwnI; rw [List.map_append]; exact this, H6.out.2, H5.out⟩⟩
                case measure => simp [intOf]; omega
            · have hjM' : j = M := by omega
              subst hjM'
              have hmin : (if (b : Int) + (W : Int) < (N : Int) then (b : Int) + (W : Int) else (N : Int)) = (b : Int) + (j : Int) := by have := HM2.out; split <;> omega
              have hR : R = (nx3, s3) := by have := HX3.out.2.2; rw [Nat.sub_self, gbR] at this; exact this.symm
              have hl31 : l1 < l3 := by have := HRl.out; rw [hR] at this; have h2 := OwnI.len HX3.out.1; simp only at this; omega
              have H7 : Hid (OwnI wr 3 w.heap.size wr.heap.size A3 l3 c3 s3 ∧ Below w.heap.size w wr ∧ gbO N W lost f nx3 s3 = V) := hid ⟨HX3.out.1, HX3.out.2.1, by have := HG1.out; rw [hR] at this; exact this⟩
              clear hR HX3
              go_wp2
              go_roundw
              case rel => exact ⟨f, nx3, l3, c3, A3, s3, rfl, rfl, by omega, by omega, by omega, H7⟩
              case measure => simp [slLenIn]; omega
      · have hN : Hid (V = some s) := hid (by
          have h1 := HX.out.2.2
          cases f with
          | zero => rw [gbO, if_neg hb] at h1; exact h1.symm
          | succ f => rw [gbO, if_neg hb] at h1; exact h1.symm)
        go_wp2
        go_ret2
        rw [HV.out, hN.out]
        exact ⟨_, _, _, rfl, HX.out.1, HX.out.2.1⟩
  · have HV := hid (goBack_no lost hv)
    by_cases h0 : 0 ≤ n ∧ n ≤ 30
    · have h1 : win < 1 ∨ 8 < win := by
        by_cases h2 : 1 ≤ win
        · by_cases h3 : win ≤ 8
          · exact absurd ⟨h0.1, h0.2, h2, h3⟩ hv
          · omega
        · omega
      have hs1 := hid (fun W => l1In_yes n 0 30 W h0.1 h0.2)
      have hs2 := hid (fun W => l1In_no win 1 8 W h1)
      clear hv h0 h1
      go_enter Try.func21, Try.ntmps21
      go_wp2_with fail
      refine (hs1.out _).mono ?_
      rintro e w1 ⟨rfl, rfl⟩
      go_wp2_with fail
      refine (hs2.out _).mono ?_
      rintro e w1 ⟨rfl, rfl⟩
      go_wp2
      go_ret2
      rw [HV.out]
      exact retIB_lit00 w
    · have hs1 := hid (fun W => l1In_no n 0 30 W (by omega))
      clear hv h0
      go_enter Try.func21, Try.ntmps21
      go_wp2_with fail
      refine (hs1.out _).mono ?_
      rintro e w1 ⟨rfl, rfl⟩
      go_wp2
      go_ret2
      rw [HV.out]
      exact retIB_lit00 w
end Go.Proofs.Ytnnapbjaidbkgaa
