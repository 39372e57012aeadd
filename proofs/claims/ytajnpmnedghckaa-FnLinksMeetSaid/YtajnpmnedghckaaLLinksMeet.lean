/-
  FnLinksMeet, walked: powers that suffice need not be increased; a lower target is reached, too.
-/
import Derived.Test.YtajnpmnedghckaaLPowerStep
namespace Go.Proofs.Ytajnpmnedghckaa
open Go.RowKit
set_option linter.unusedVariables false

set_option maxHeartbeats 3200000 in
theorem fnLinksMeet_walk {A : Option Addr} {n c : Nat} {bs : List Int} (w : World) (h : RV w w.heap.size A n (bs.map (Value.int .u8))) (wf : ∀ x ∈ bs, (Lit.int .u8 x).wf = true) (hl : n ≤ c) (hm : c ≤ maxLen) :
    Calls Try.prog 5 #[.slice A n c] w fun e w' => e = .returned (.bool true) ∧ Below w.heap.size w w' := by
  unfold maxLen at hm
  by_cases hn : n ≤ 1048576
  · have hd := drawLinksMeet_any A n c w.heap.size bs w h (Nat.le_refl _) hl hn (fun x hx => bounds_u8 (wf x hx))
    clear wf h
    go_enter Try.func5, Try.ntmps5
    go_wp2_with fail
    refine hd.mono ?_
    rintro e w1 ⟨A1, n1, c1, rows, N, G, A9, n9, c9, ps, rfl, tab, hn1, pr, hn9, hb1⟩
    have L := Lk.new (c := c1) (N := N) (G := G) hb1 tab
    have p1 : RI (w1.alloc (.cells #[.slice A1 n1 c1, .int .i64 N, .int .i64 G] 27)) w1.heap.size A9 n9 ps := RV.alloc pr (Nat.le_refl _) _
    obtain ⟨W, HW⟩ : ∃ W : World, W = w1.alloc (.cells #[.slice A1 n1 c1, .int .i64 N, .int .i64 G] 27) := ⟨_, rfl⟩
    rw [← HW] at L p1
    have HPL := hid (RI.len p1)
    obtain ⟨M, HM⟩ : ∃ M, Hid (meetB rows N G ps = M) := ⟨_, hid rfl⟩
    have hc1 := linksMeet_impl A1 A9 n1 n9 c1 c9 w1.heap.size rows N G ps W L.rows p1 L.hB (by omega) (by omega)
    rw [HM.out] at hc1
    have HC1 := hid hc1
    obtain ⟨cw0, cw1, cw2⟩ := blk3 L.box
    clear hd tab pr hb1 hc1
    go_wp2_with fail
    simp only [← HW]
    clear HW
    refine HC1.out.mono ?_
    rintro e w2 ⟨rfl, hb2⟩
    have L2 := L.below hb2
    have p2 : RI w2 w1.heap.size A9 n9 ps := RV.below p1 (hb2.mono L.hB)
    have hc2 := linksMeet_spec A1 A9 n1 n9 c1 c9 w1.heap.size rows N G ps w2 L2.rows p2 L2.hB (by omega) (by omega)
    rw [HM.out] at hc2
    have HC2 := hid hc2
    clear cw0 cw1 cw2 L p1 hb2 hc2
    obtain ⟨cw0, cw1, cw2⟩ := blk3 L2.box
    go_wp2_with fail
    refine HC2.out.mono ?_
    rintro e w3 ⟨rfl, hb3⟩
    have L3 := L2.below hb3
    have p3 : RI w3 w1.heap.size A9 n9 ps := RV.below p2 (hb3.mono L2.hB)
    clear cw0 cw1 cw2 L2 p2 hb3
    have hMM : (M != M) = false := by simp
    cases M
    · have HF3 := hid L3.bel
      clear L3 p3
      go_wp2_with fail
      refine (alive_any _).mono ?_
      rintro e w5 ⟨rfl, hb5⟩
      have HB5 := hid (HF3.out.trans (hb5.mono HF3.out.size))
      clear hb5
      go_wp2
      go_ret
      exact ⟨rfl, HB5.out⟩
    · have HME := hid (meetB_iff.1 HM.out)
      have hpl : ps.length = n9 := HPL.out
      have hn95 : n9 ≤ 5 := by rw [← hpl, HME.out.1.2.1]; exact HME.out.1.1.2.1
      obtain ⟨V, HV⟩ : ∃ V, Hid (stepL rows N G ps = V) := ⟨_, hid rfl⟩
      have hc4 := powerStep_impl A1 A9 n1 n9 c1 c9 w1.heap.size rows N G ps w3 L3.rows p3 L3.hB (by omega) (by omega)
      rw [stepI_yes HME.out.1, HV.out] at hc4
      have HC4 := hid hc4
      have hG1 : 1 ≤ G := HME.out.1.1.2.2.2.2.1
      have hG2 : G ≤ 100 := HME.out.1.1.2.2.2.2.2.1
      have hN1 : 1 ≤ N := HME.out.1.1.2.2.1
      have HLE := hid (show Le V ps by rw [← HV.out]; exact meet_step HME.out)
      obtain ⟨cw0, cw1, cw2⟩ := blk3 L3.box
      clear hc4
      go_wp2_with fail
      refine HC4.out.mono ?_
      rintro e w4 ⟨A4, n4, c4, rfl, o4, hb4⟩
      have L4 := L3.below hb4
      have p4 : RI w4 w1.heap.size A9 n9 ps := RV.below p3 (hb4.mono L3.hB)
      have v4 : RI w4 w4.heap.size A4 n4 V := OwnI.ri o4
      have hn4 : n4 = n9 := by rw [← RI.len v4, HLE.out.1]; exact hpl
      subst hn4
      clear cw0 cw1 cw2 L3 p3 hb4 o4
      go_wp2
      go_loopw [7] (fun i wr => ∃ k d : Nat, k ≤ n4 ∧ i = .int .i64 k ∧ wr = w4.drewN d) (fun i _ => n4 - (intOf i).toNat)
      case atStart => exact ⟨0, 0, Nat.zero_le _, rfl, rfl⟩
      case round =>
        obtain ⟨k, d, hk, rfl, rfl⟩ := hrel
        by_cases hlt : k < n4
        · obtain ⟨b7, o7, x, rfl, hb7, hx, hcx⟩ := RI.at_ v4 hlt
          obtain ⟨b8, o8, y, rfl, hb8, hy, hcy⟩ := RI.at_ p4 hlt
          have hxy : ¬ y < x := by
            have := HLE.out.2 k (by rw [HLE.out.1, hpl]; exact hlt)
            rw [pw_of hx, pw_of hy] at this
            omega
          clear hx hy
          go_wp2_with (go_quiet (fail))
          go_roundw
          case rel => exact ⟨k + 1, _, by omega, by go_num, by first | rfl | exact World.drewN_drewN _ _ _⟩
          case measure => simp [intOf]; omega
        · have L5 := L4.drewN d
          have p5 : RI (w4.drewN d) w1.heap.size A9 n4 ps := p4
          clear L4 p4 v4
          generalize w4.drewN d = w5 at L5 p5 ⊢
          have hlt5 : w1.heap.size < w5.heap.size := L5.box.lt
          obtain ⟨cw0, cw1, cw2⟩ := blk3 L5.box
          have hca := (World.cell?_alloc_lt w5 (.cells #[.slice A1 n1 c1, .int .i64 N, .int .i64 G] 27) ⟨w1.heap.size, 2, none⟩ hlt5).trans cw2
          obtain ⟨G', hG'⟩ : ∃ G' : Int, G' = max 1 (G - 1) := ⟨_, rfl⟩
          have hml := meetB_yes (meet_less HME.out hN1 (show 1 ≤ G' by omega) (Int.le_refl N) (show G' ≤ G by omega))
          have hc6 := fun W' => linksMeet_impl A1 A9 n1 n4 c1 c9 w1.heap.size rows N G' ps W'
          rw [hml] at hc6
          have HC6 := hid hc6
          have HL5 := hid L5
          have HP5 := hid p5
          have r1 : IntKind.i64.wrap (G - 1) = G - 1 := IntWalk.i64_in _ (by omega)
          clear hml hc6 L5 p5
          rcases (show (G - 1 ≤ 1 ∧ G' = 1) ∨ (1 < G - 1 ∧ G' = G - 1) by omega) with ⟨g1, g2⟩ | ⟨g1, g2⟩
          all_goals
            clear hG'
            subst g2
            go_wp2_with fail
            refine (HC6.out _ (RVV.alloc HL5.out.rows HL5.out.hB _) (RV.alloc HP5.out HL5.out.hB _) (by simp; omega) (by omega) (by omega)).mono ?_
            rintro e w7 ⟨rfl, hb7⟩
            have HB7 := hid ((HL5.out.bel.alloc HL5.out.bel.size _).trans (hb7.mono (by have := HL5.out.bel.size; simp; omega)))
            clear hb7
            go_wp2
            go_ret
            exact ⟨rfl, HB7.out⟩
  · go_enter Try.func5, Try.ntmps5
    go_wp2
    go_ret
    exact ⟨rfl, Below.refl _ _⟩
end Go.Proofs.Ytajnpmnedghckaa
