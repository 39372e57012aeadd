/-
  FnPowerNoise, walked: with less noise the least powers are not greater, and reach the target.
-/
import Derived.Test.YtajnpmnedghckaaDPow
import Derived.Test.YtajnpmnedghckaaAlive
import Derived.Test.YtajnpmnedghckaaPowG
import Derived.OpenShut
namespace Go.Proofs.Ytajnpmnedghckaa
open Go.RowKit
set_option linter.unusedVariables false

set_option maxHeartbeats 3200000 in
theorem fnPowerNoise_walk {A : Option Addr} {n c : Nat} {bs : List Int} (w : World) (h : RV w w.heap.size A n (bs.map (Value.int .u8))) (wf : ∀ x ∈ bs, (Lit.int .u8 x).wf = true) (hl : n ≤ c) (hm : c ≤ maxLen) :
    Calls Try.prog 9 #[.slice A n c] w fun e w' => e = .returned (.bool true) ∧ Below w.heap.size w w' := by
  unfold maxLen at hm
  by_cases hn : n ≤ 1048576
  · have hd := drawLeastPowers_any A n c w.heap.size bs w h (Nat.le_refl _) hl hn (fun x hx => bounds_u8 (wf x hx))
    clear wf h
    go_enter Try.func9, Try.ntmps9
    go_wp2_with fail
    refine hd.mono ?_
    rintro e w1 ⟨A1, n1, c1, rows, N, G, rfl, tab, hn1, hb1⟩
    obtain ⟨W, HW⟩ : ∃ W : World, W = w1.alloc (.cells #[.slice A1 n1 c1, .int .i64 N, .int .i64 G] 27) := ⟨_, rfl⟩
    have hWs : W.heap.size = w1.heap.size + 1 := by rw [HW]; simp
    have kW : Blk W w1.heap.size 27 #[.slice A1 n1 c1, .int .i64 N, .int .i64 G] := by rw [HW]; exact Blk.new _ _ _
    have rW : RII W w1.heap.size A1 n1 rows := by rw [HW]; exact RVV.alloc (OwnII.rii tab) (Nat.le_refl _) _
    have BW : Below w.heap.size w W := by rw [HW]; exact hb1.alloc hb1.size _
    have hwz := hb1.size
    obtain ⟨P, HP⟩ : ∃ P, Hid (leastL rows N G = P) := ⟨_, hid rfl⟩
    obtain ⟨M, HM⟩ : ∃ M, Hid (meetB rows N G P = M) := ⟨_, hid rfl⟩
    have HPL := hid (show P.length ≤ 5 by rw [← HP.out]; exact leastL_len _ _ _)
    have hc1 := leastPowers_impl A1 n1 c1 w1.heap.size rows N G W rW (by omega) (by omega)
    have hc2 := fun w2 (h : RII w2 w1.heap.size A1 n1 rows) h2 => leastPowers_spec A1 n1 c1 w1.heap.size rows N G w2 h h2 (by omega)
    rw [HP.out, HM.out] at hc1
    simp only [HP.out, HM.out] at hc2
    have HC1 := hid hc1
    have HC2 := hid hc2
    obtain ⟨cw0, cw1, cw2⟩ := blk3 kW
    clear hd tab hb1 hc1 hc2
    go_wp2_with fail
    simp only [← HW]
    clear HW
    refine HC1.out.mono ?_
    rintro e w2 ⟨A2, n2, c2, rfl, o2, hb2⟩
    have k2 := Blk.below kW hb2 (by omega)
    have b2 := BW.trans (hb2.mono (by omega))
    have r2 : RII w2 w1.heap.size A1 n1 rows := RVV.below rW (hb2.mono (by omega))
    have hz2 := hb2.size
    obtain ⟨cx0, cx1, cx2⟩ := blk3 k2
    clear cw0 cw1 cw2 hb2 BW kW rW
    go_wp2_with fail
    refine (HC2.out w2 r2 (by omega)).mono ?_
    rintro e w3 ⟨A3, n3, c3, rfl, o3, hb3⟩
    have k3 := Blk.below k2 hb3 (by omega)
    have b3 := b2.trans (hb3.mono (by omega))
    have r3 : RII w3 w1.heap.size A1 n1 rows := RVV.below r2 (hb3.mono (by omega))
    have hz3 := hb3.size
    have q2 : RI w3 w3.heap.size A2 n2 P := RV.more (RV.below (OwnI.ri o2) hb3) hz3
    have q3 : RI w3 w3.heap.size A3 n3 P := OwnI.ri o3
    have hlP := RI.len q2
    have hlP3 := RI.len q3
    have hn22 : n2 ≤ 5 := by rw [← hlP]; exact HPL.out
    have HSA := hid (sameInts_same A2 A3 n2 n3 c2 c3 w3.heap.size w3.heap.size P w3 q2 q3 (by omega))
    obtain ⟨cy0, cy1, cy2⟩ := blk3 k3
    clear cx0 cx1 cx2 hb3 k2 b2 r2 o2 o3
    go_wp2_with fail
    refine HSA.out.mono ?_
    rintro e w4 ⟨rfl, hb4⟩
    have k4 := Blk.below k3 hb4 (by omega)
    have b4 := b3.trans (hb4.mono (by omega))
    have r4 : RII w4 w1.heap.size A1 n1 rows := RVV.below r3 (hb4.mono (by omega))
    have q4 : RI w4 w3.heap.size A2 n2 P := RV.below q2 hb4
    have hz4 := hb4.size
    obtain ⟨cz0, cz1, cz2⟩ := blk3 k4
    clear cy0 cy1 cy2 hb4 k3 b3 r3 q2 q3
    by_cases hgo : M = true ∧ ¬ N < 2
    · obtain ⟨hM, hN2⟩ := hgo
      have HMO := hid (meetB_iff.1 (HM.out.trans hM))
      have hlk := HMO.out.1.1
      have hn1' : 1 ≤ G := hlk.2.2.2.2.1
      have hN1000 : N ≤ 1000 := hlk.2.2.2.1
      have hless := meet_less HMO.out (show 1 ≤ N - 1 by omega) hn1' (show N - 1 ≤ N by omega) (Int.le_refl G)
      obtain ⟨Q, HQ⟩ : ∃ Q, Hid (leastL rows (N - 1) G = Q) := ⟨_, hid rfl⟩
      have hle := least_le hless
      have hme := least_meet hless
      rw [HQ.out] at hle hme
      have HLE := hid hle
      have hmb := meetB_yes hme
      have hc3 := fun w5 (h : RII w5 w1.heap.size A1 n1 rows) h2 => leastPowers_impl A1 n1 c1 w1.heap.size rows (N - 1) G w5 h h2 (by omega)
      simp only [HQ.out, hmb] at hc3
      have HC3 := hid hc3
      have r1 : IntKind.i64.wrap (N - 1) = N - 1 := IntWalk.i64_in _ (by omega)
      have hN2' : ¬ N < 2 := hN2
      have hcw : (w4.alloc (.cells #[.slice A1 n1 c1, .int .i64 N, .int .i64 G] 27)).cell? ⟨w4.heap.size, 1, none⟩ = some (.int .i64 N) := by
        have := blk3 (Blk.new w4 27 #[.slice A1 n1 c1, .int .i64 N, .int .i64 G])
        exact this.2.1
      have hlt4 : w1.heap.size < w4.heap.size := k4.lt
      have hca := (World.cell?_alloc_lt w4 (.cells #[.slice A1 n1 c1, .int .i64 N, .int .i64 G] 27) ⟨w1.heap.size, 1, none⟩ hlt4).trans cz1
      subst hM
      clear hlk hless hle hme hmb hc3
      go_wp2_with fail
      refine (HC3.out _ (by first | exact RVV.alloc r4 (by omega) _ | exact RVV.below r4 (((Below.refl _ _).alloc (Nat.le_refl _) _).setCell (by simp) _)) (by simp <;> omega)).mono ?_
      rintro e w6 ⟨A6, n6, c6, rfl, o6, hb6⟩
      have b6 := b4.trans ((((Below.refl w4.heap.size w4).alloc (Nat.le_refl _) _).trans (hb6.mono (by simp))).mono (by omega))
      have q6 : RI w6 w6.heap.size A6 n6 Q := OwnI.ri o6
      have q5 : RI w6 w6.heap.size A2 n2 P := RV.more (RV.below (RV.below q4 (((Below.refl w4.heap.size w4).alloc (Nat.le_refl _) (.cells #[.slice A1 n1 c1, .int .i64 (N - 1), .int .i64 G] 27)).mono hz4)) (hb6.mono (by simp; omega))) (by have := hb6.size; simp at this; omega)
      have hl6 := RI.len q6
      have hn66 : n6 = n2 := by rw [← hl6, ← hlP]; exact HLE.out.1
      subst hn66
      have HB6 := hid b6
      clear hb6 o6 b6 b4 r4 k4 q4 cz0 cz1 cz2
      go_wp2
      go_loopw [11] (fun i wr => ∃ k d : Nat, k ≤ n6 ∧ i = .int .i64 k ∧ wr = w6.drewN d) (fun i _ => n6 - (intOf i).toNat)
      case atStart => exact ⟨0, 0, Nat.zero_le _, rfl, rfl⟩
      case round =>
        obtain ⟨k, d, hk, rfl, rfl⟩ := hrel
        by_cases hlt : k < n6
        · obtain ⟨b7, o7, x, rfl, hb7, hx, hcx⟩ := RI.at_ q6 hlt
          obtain ⟨b8, o8, y, rfl, hb8, hy, hcy⟩ := RI.at_ q5 hlt
          have hxy : ¬ y < x := by
            have := HLE.out.2 k (by rw [hl6]; exact hlt)
            rw [pw_of hx, pw_of hy] at this
            omega
          clear hx hy
          go_wp2_with (go_quiet (fail))
          go_roundw
          case rel => exact ⟨k + 1, _, by omega, by go_num, by first | rfl | exact World.drewN_drewN _ _ _⟩
          case measure => simp [intOf]; omega
        · go_wp2
          go_ret
          exact ⟨rfl, HB6.out.trans ((Same.drewN _ _).bel _)⟩
    · have HB4 := hid b4
      clear r4 k4 q4 b4
      by_cases hM : M = true
      · have hN2 : N < 2 := Classical.byContradiction fun h => hgo ⟨hM, h⟩
        subst hM
        clear hgo
        go_wp2_with fail
        refine (alive_any _).mono ?_
        rintro e w5 ⟨rfl, hb5⟩
        have HB5 := hid (HB4.out.trans (hb5.mono HB4.out.size))
        clear hb5
        go_wp2
        go_ret
        exact ⟨rfl, HB5.out⟩
      · have hM2 : M = false := by simpa using hM
        subst hM2
        clear hgo hM
        go_wp2_with fail
        refine (alive_any _).mono ?_
        rintro e w5 ⟨rfl, hb5⟩
        have HB5 := hid (HB4.out.trans (hb5.mono HB4.out.size))
        clear hb5
        go_wp2
        go_ret
        exact ⟨rfl, HB5.out⟩
  · go_enter Try.func9, Try.ntmps9
    go_wp2
    go_ret
    exact ⟨rfl, Below.refl _ _⟩
end Go.Proofs.Ytajnpmnedghckaa
