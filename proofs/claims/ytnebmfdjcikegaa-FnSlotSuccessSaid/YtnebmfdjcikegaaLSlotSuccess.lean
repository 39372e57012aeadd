/-
  FnSlotSuccess, walked: who succeeds is alone in its slot; one sender more in its slot, and it doesn't.
-/
import Derived.Test.YtnebmfdjcikegaaDAcc2
import Derived.Test.YtnebmfdjcikegaaAccB
import Derived.Test.YtnebmfdjcikegaaAccC
import Derived.Test.YtnebmfdjcikegaaAlive
import Derived.Test.YtnebmfdjcikegaaApp
import Derived.Test.YtnebmfdjcikegaaRegL
namespace Go.Proofs.Ytnebmfdjcikegaa
open Go.RowKit
set_option linter.unusedVariables false

/-- What is known while the region that asks once more, with one sender more, is carried out. -/
def MoreS (w4 : World) (n1 : Nat) (ss : List Int) (X : Int) (l2 l9 l10 l11 : Bool) (v2 v9 v10 v11 : Value) (W : World) : Prop :=
  Below w4.heap.size w4 W ∧
  (l2 = true → l10 = false → ∃ A2 c2, v2 = .slice A2 n1 c2 ∧ OwnI W 3 w4.heap.size W.heap.size A2 n1 c2 ss) ∧
  (l9 = true → l10 = false → ∃ g, v9 = .slice (some ⟨g, 0, none⟩) 1 1 ∧ Blk W g 3 #[.int .i64 X]) ∧
  (l10 = true → l11 = false → ∃ A8 c8, v10 = .slice A8 (n1 + 1) c8 ∧ OwnI W 3 w4.heap.size W.heap.size A8 (n1 + 1) c8 (ss ++ [X])) ∧
  (l11 = true → ∃ A9 n9 c9, v11 = .slice A9 n9 c9 ∧ RI W W.heap.size A9 n9 (aloneI (ss ++ [X])))
theorem MoreS.alloc {w4 W : World} {n1 : Nat} {ss : List Int} {X : Int} {l2 l9 l10 l11 : Bool} {v2 v9 v10 v11 : Value} (h : MoreS w4 n1 ss X l2 l9 l10 l11 v2 v9 v10 v11 W) (o : Obj) : MoreS w4 n1 ss X l2 l9 l10 l11 v2 v9 v10 v11 (W.alloc o) := by
  obtain ⟨s1, s2, s9, s10, s11⟩ := h
  refine ⟨s1.alloc s1.size _, fun h2 h10 => ?_, fun h9 h10 => ?_, fun h10 h11 => ?_, fun h11 => ?_⟩
  · obtain ⟨A2, c2, e2, o2⟩ := s2 h2 h10; exact ⟨A2, c2, e2, OwnV.more (OwnV.alloc o2 _) (Nat.le_refl _) (by simp)⟩
  · obtain ⟨g9, e9, b9⟩ := s9 h9 h10; exact ⟨g9, e9, b9.alloc _⟩
  · obtain ⟨A8, c8, e8, o8⟩ := s10 h10 h11; exact ⟨A8, c8, e8, OwnV.more (OwnV.alloc o8 _) (Nat.le_refl _) (by simp)⟩
  · obtain ⟨A9, n9, c9, e9, o9⟩ := s11 h11; exact ⟨A9, n9, c9, e9, RV.next o9 ((Below.refl _ _).alloc (Nat.le_refl _) _)⟩
set_option maxRecDepth 100000 in
set_option maxHeartbeats 3200000 in
theorem fnSlotSuccess_walk {A : Option Addr} {n c : Nat} {bs : List Int} (w : World) (h : RV w w.heap.size A n (bs.map (Value.int .u8))) (wf : ∀ x ∈ bs, (Lit.int .u8 x).wf = true) (hl : n ≤ c) (hm : c ≤ maxLen) :
    Calls Try.prog 8 #[.slice A n c] w fun e w' => e = .returned (.bool true) ∧ Below w.heap.size w w' := by
  unfold maxLen at hm
  obtain ⟨i0, hi0, hz0, hz1, hz2⟩ := info_parts infoA
  by_cases hn : n ≤ 1048576
  · have hd := drawSlotSuccess_any A n c w.heap.size bs w h (Nat.le_refl _) hl hn (fun x hx => bounds_u8 (wf x hx))
    clear wf h
    go_enter Try.func8, Try.ntmps8
    go_wp2_with fail
    refine hd.mono ?_
    rintro e w1 ⟨A1, n1, c1, ss, rfl, r1, hn1, hb1⟩
    have HB1 := hid hb1
    have HL := hid (RI.len r1)
    have HR1 := hid r1
    have HI := hid (slotSuccess_impl A1 n1 c1 w1.heap.size ss w1 r1 (Nat.le_refl _) (by omega))
    clear hd hb1 r1
    go_wp2_with fail
    refine HI.out.mono ?_
    rintro e w2 ⟨A2, n2, c2, rfl, o2, hb2⟩
    have HO2 := hid (OwnI.ri o2)
    have HB2 := hid (HB1.out.trans (hb2.mono HB1.out.size))
    have HR2 := hid (RV.next HR1.out hb2)
    have HS := hid (slotSuccess_spec A1 n1 c1 w2.heap.size ss w2 HR2.out (Nat.le_refl _) (by omega))
    clear o2 hb2
    go_wp2_with fail
    refine HS.out.mono ?_
    rintro e w3 ⟨A3, n3, c3, rfl, o3, hb3⟩
    have HO3 := hid (RV.next HO2.out hb3)
    have HR3 := hid (RV.next HR2.out hb3)
    have HQ := hid (sameInts_same A2 A3 n2 n3 c2 c3 w3.heap.size w3.heap.size (aloneI ss) w3 HO3.out (OwnI.ri o3) (by have := aloneI_len ss; omega))
    have HB3 := hid (HB2.out.trans (hb3.mono HB2.out.size))
    clear o3 hb3
    go_wp2_with fail
    refine HQ.out.mono ?_
    rintro e w4 ⟨rfl, hb4⟩
    have HO4 := hid (RV.next HO3.out hb4)
    have HR4 := hid (RV.next HR3.out hb4)
    have HB4 := hid (HB3.out.trans (hb4.mono HB3.out.size))
    clear hb4
    have hl2 := RI.len HO4.out
    by_cases h0 : n2 = 0
    · subst h0
      have HA := hid (alive_any w4)
      clear hl2
      go_wp2_with fail
      refine HA.out.mono ?_
      rintro e w5 ⟨rfl, hb5⟩
      have HF := hid (HB4.out.trans (hb5.mono HB4.out.size))
      clear hb5
      go_wp2
      go_ret
      exact ⟨rfl, HF.out⟩
    · have hok : ChoicesOk ss := by
        by_cases hok : ChoicesOk ss
        · exact hok
        · rw [aloneI_no hok] at hl2; simp at hl2; omega
      have HOK := hid hok
      have HG := hid (show aloneI ss = aloneL ss ss.length from aloneI_yes hok)
      have hn18 : n1 ≤ 8 := by have := hok.1; rw [HL.out] at this; exact this
      have hn28 : n2 ≤ 8 := by rw [← hl2]; exact aloneI_len ss
      have HL2 := hid hl2
      have h0' : 0 < n2 := by omega
      have hq0 : ((n2 : Int) == 0) = false := by simp; omega
      have HSS := hid (show ∀ k, k < n2 → ∃ b o I, A2 = some ⟨b, o, none⟩ ∧ b < w4.heap.size ∧ I < n1 ∧ cntN ss (ss.getD I 0) n1 = 1 ∧ w4.cell? ⟨b, o + k, none⟩ = some (.int .i64 (I : Nat)) from fun k hk => by
        obtain ⟨b, o, x, e, hb, hx, hc⟩ := RI.at_ HO4.out hk
        rw [aloneI_yes hok] at hx
        obtain ⟨I, rfl, hI, hcI⟩ := aloneL_get hx
        rw [HL.out] at hI hcI
        exact ⟨b, o, I, e, hb, hI, hcI, hc⟩)
      clear hok hl2 h0
      go_wp2
      go_loopw [5] (fun iv wr => ∃ k d : Nat, k ≤ n2 ∧ iv = .int .i64 k ∧ wr = w4.drewN d) (fun iv _ => n2 - (intOf iv).toNat)
      case atStart => exact ⟨0, 0, Nat.zero_le _, rfl, by first | rfl | trivial⟩
      case round =>
        obtain ⟨k, d, hk, rfl, rfl⟩ := hrel
        by_cases hlt : k < n2
        · obtain ⟨bo, oo, I, rfl, hbo, hI, hcI, hcell⟩ := HSS.out k hlt
          have HCI := hid hcI
          have hkk : (k : Int) < (n2 : Int) := by omega
          have hII : (I : Int) < (n1 : Int) := by omega
          have hI0 : (0 : Int) ≤ (I : Int) := by omega
          clear hcI
          go_wp2
          go_loopw [6] (fun jv wr => ∃ j d : Nat, j ≤ n1 ∧ jv = .int .i64 j ∧ wr = w4.drewN d) (fun jv _ => n1 - (intOf jv).toNat)
          case atStart => exact ⟨0, d, Nat.zero_le _, rfl, by first | rfl | trivial⟩
          case round =>
            obtain ⟨j, d2, hj, rfl, rfl⟩ := hrel
            by_cases hjt : j < n1
            · obtain ⟨bc, oc, x, rfl, hbc, hx, hcx⟩ := RI.at_ HR4.out hjt
              obtain ⟨b6, o6, y, e6, hb6, hy, hcy⟩ := RI.at_ HR4.out hI
              injection e6 with e6
              injection e6 with e6 e7
              subst e6 e7
              have HX := hid (And.intro (getD_at hx) (getD_at hy))
              have hjn : (j : Int) < (n1 : Int) := by omega
              have hj0 : (0 : Int) ≤ (j : Int) := by omega
              clear hx hy
              by_cases hji : j = I
              · have hne : ((j : Int) != (I : Int)) = false := by simp [hji]
                go_wp2
                go_quiet (fail)
                go_wp2
                go_roundw
                case rel => exact ⟨j + 1, _, by omega, by go_num, by first | rfl | exact World.drewN_drewN _ _ _⟩
                case measure => simp [intOf]; omega
              · have hne : ((j : Int) != (I : Int)) = true := by simp; omega
                have hxy : (x == y) = false := by
                  have : x ≠ y := fun e => by
                    have := cnt_two (ss := ss) (x := ss.getD I 0) (i := j) (j := I) (k := n1) hjt hI hji (by rw [HX.out.1, HX.out.2, e]) rfl
                    have := HCI.out
                    omega
                  simpa using this
                go_wp2
                go_quiet (fail)
                go_wp2
                go_roundw
                case rel => exact ⟨j + 1, _, by omega, by go_num, by first | rfl | exact World.drewN_drewN _ _ _⟩
                case measure => simp [intOf]; omega
            · have hjn : j = n1 := by omega
              subst hjn
              go_wp2
              go_roundw
              case rel => exact ⟨k + 1, _, by omega, by go_num, rfl⟩
              case measure => simp [intOf]; omega
        · have hkn : k = n2 := by omega
          subst hkn
          obtain ⟨wq, hwq⟩ : ∃ wq : World, wq = w4.drewN d := ⟨_, rfl⟩
          obtain ⟨bo, oo, I, rfl, hbo, hI, hcI, hcell⟩ := HSS.out 0 h0'
          obtain ⟨bc, oc, X, rfl, hbc, hx, hcx⟩ := RI.at_ HR4.out hI
          have HX := hid (And.intro (getD_at hx) (HOK.out.2 X (List.mem_of_getElem? hx)))
          have HCI := hid hcI
          have hkk : (0 : Int) < (k : Int) := by omega
          have hII : (I : Int) < (n1 : Int) := by omega
          have hI0 : (0 : Int) ≤ (I : Int) := by omega
          have hn0 : 0 < n1 := by omega
          rw [Nat.add_zero] at hcell
          have HK0 := hid (fun (W : World) (hW : Below w4.heap.size w4 W) => (hW.cell (p := ⟨bo, oo, none⟩) hbo).trans hcell)
          have HK1 := hid (fun (W : World) (hW : Below w4.heap.size w4 W) => (hW.cell (p := ⟨bc, oc + I, none⟩) hbc).trans hcx)
          have HS0 : Hid (MoreS w4 n1 ss X false false false false undef undef undef undef (w4.drewN d).drew) := hid ⟨((Same.drewN w4 d).bel _).trans ((Same.drewN _ 1).bel _), fun h => (by cases h), fun h => (by cases h), fun h => (by cases h), fun h => (by cases h)⟩
          have HS1 : Hid (∀ v2 v9 v10 v11, MoreS w4 n1 ss X false false false false v2 v9 v10 v11 (w4.drewN d).drew) := hid (fun _ _ _ _ => ⟨HS0.out.1, fun h => (by cases h), fun h => (by cases h), fun h => (by cases h), fun h => (by cases h)⟩)
          clear hx hcI hcell hcx hwq
          go_wp2
          refine wp_region_gL (by kernel_rfl) [[], [], [0, 1], [], [], [4], [5], [3, 6], [7], [8], [2, 9], [10], [11]] (by kernel_rfl) 13 (by rfl) [some 56, some 57, some 58, some 59, some 60, some 61, some 62, some 63, some 64, some 65, some 66, some 67, some 7] (by rfl)
            [fun v x _ => ∃ g : Nat, v = .slice (some ⟨g, 0, none⟩) 0 0,
             fun v x _ => v = .slice (some ⟨bc, oc, none⟩) n1 c1,
             fun v x _ => True,
             fun v x _ => v = .slice (some ⟨bc, oc, none⟩) n1 c1,
             fun v x _ => v = .slice (some ⟨bo, oo, none⟩) k c2,
             fun v x _ => v = .pointer (some ⟨bo, oo, none⟩),
             fun v x _ => v = .int .i64 (I : Int),
             fun v x _ => v = .pointer (some ⟨bc, oc + I, none⟩),
             fun v x _ => v = .int .i64 X,
             fun v x _ => True,
             fun v x _ => True,
             fun v x _ => True,
             fun v x _ => v = x 11]
            (fun L x w' => MoreS w4 n1 ss X (L 2) (L 9) (L 10) (L 11) (x 2) (x 9) (x 10) (x 11) w') (fun _ _ => True) (fun _ => trivial) (fun x => HS1.out _ _ _ _) ?loc ?ob ?fin
          case loc =>
            refine ⟨⟨⟨⟨⟨⟨⟨⟨⟨⟨⟨⟨⟨trivial, ?_⟩, ?_⟩, ?_⟩, ?_⟩, ?_⟩, ?_⟩, ?_⟩, ?_⟩, ?_⟩, ?_⟩, ?_⟩, ?_⟩, ?_⟩
            · intro v x x' w w' hx hR h
              revert h
              show (fun v x _ => ∃ g : Nat, v = .slice (some ⟨g, 0, none⟩) 0 0) v x w → (fun v x _ => ∃ g : Nat, v = .slice (some ⟨g, 0, none⟩) 0 0) v x' w'
              intro h
              exact h
            · exact fun _ _ _ _ _ _ _ h => h
            · intro v x x' w w' hx hR h
              revert h
              show (fun v x _ => True) v x w → (fun v x _ => True) v x' w'
              intro h
              exact h
            · exact fun _ _ _ _ _ _ _ h => h
            · exact fun _ _ _ _ _ _ _ h => h
            · exact fun _ _ _ _ _ _ _ h => h
            · exact fun _ _ _ _ _ _ _ h => h
            · exact fun _ _ _ _ _ _ _ h => h
            · exact fun _ _ _ _ _ _ _ h => h
            · intro v x x' w w' hx hR h
              revert h
              show (fun v x _ => True) v x w → (fun v x _ => True) v x' w'
              intro h
              exact h
            · intro v x x' w w' hx hR h
              revert h
              show (fun v x _ => True) v x w → (fun v x _ => True) v x' w'
              intro h
              exact h
            · intro v x x' w w' hx hR h
              revert h
              show (fun v x _ => True) v x w → (fun v x _ => True) v x' w'
              intro h
              exact h
            · intro v x x' w w' hx hR h
              have q11 : x' 11 = x 11 := hx 11 (by decide)
              revert h
              show (fun v x _ => v = x 11) v x w → (fun v x _ => v = x 11) v x' w'
              simp only [q11]
              intro h
              exact h
          case ob =>
            refine ⟨⟨⟨⟨⟨⟨⟨⟨⟨⟨⟨⟨⟨trivial, ?_⟩, ?_⟩, ?_⟩, ?_⟩, ?_⟩, ?_⟩, ?_⟩, ?_⟩, ?_⟩, ?_⟩, ?_⟩, ?_⟩, ?_⟩
            · intro L hL hLa hLc x W hS hd KO hK
              clear hd
              simp only [List.getD_cons_zero, fillL, Nat.reduceAdd, Act.put, List.setIfInBounds_toArray, List.set_cons_zero, List.set_cons_succ] at hK ⊢
              refine wpOp_plain rfl rfl ?_
              go_simp
              exact hK _ _ (MoreS.alloc hS _) trivial ⟨_, rfl⟩
            · intro L hL hLa hLc x W hS hd KO hK
              clear hd
              simp only [List.getD_cons_zero, List.getD_cons_succ, fillL, Nat.reduceAdd, Act.put, List.setIfInBounds_toArray, List.set_cons_zero, List.set_cons_succ] at hK ⊢
              refine wpOp_plain rfl rfl ?_
              go_simp
              exact hK _ _ hS (trivial) rfl
            · intro L hL hLa hLc x W hS hd KO hK
              have h0 : (fun v x _ => ∃ g : Nat, v = .slice (some ⟨g, 0, none⟩) 0 0) (x 0) x W := hd 0 (by decide)
              have h1 : (fun v x _ => v = .slice (some ⟨bc, oc, none⟩) n1 c1) (x 1) x W := hd 1 (by decide)
              have e1 : x 1 = .slice (some ⟨bc, oc, none⟩) n1 c1 := h1
              clear h1
              clear hd
              obtain ⟨g, e0⟩ := h0
              have hl10 : L 10 = false := Bool.eq_false_iff.2 (fun h => absurd (hLc 10 2 h (by decide)) (by rw [hL]; simp))
              have hl11 : L 11 = false := Bool.eq_false_iff.2 (fun h => absurd (hLc 11 10 h (by decide)) (by rw [hl10]; simp))
              obtain ⟨s1, s2, s9, s10, s11⟩ := hS
              simp only [List.getD_cons_zero, List.getD_cons_succ, fillL, Nat.reduceAdd, Act.put, List.setIfInBounds_toArray, List.set_cons_zero, List.set_cons_succ, e1, e0] at hK ⊢
              refine wpOp_ob rfl ?_
              refine step_copyA rfl _ _ _ rfl 3 i0 _ 8 Try.underlying32 hi0 hz0 hz1 hz2 rfl (by omega) g rfl _ _ n1 _ _ rfl (RV.below HR4.out s1) (fun u hu => by obtain ⟨y, _, rfl⟩ := List.mem_map.1 hu; rfl) hn0 (by omega) ?_
              intro A2 c2 w2 ho2 hb2
              exact hK _ _ (show MoreS w4 n1 ss X true (L 9) (L 10) (L 11) (.slice A2 n1 c2) (x 9) (x 10) (x 11) w2 from ⟨s1.trans (hb2.mono s1.size), fun _ _ => ⟨A2, c2, rfl, OwnV.more ho2 s1.size (Nat.le_refl _)⟩, fun h9 h10 => (by obtain ⟨g9, e9, b9⟩ := s9 h9 h10; exact ⟨g9, e9, b9.below hb2 b9.lt⟩), fun h => (by rw [hl10] at h; cases h), fun h => (by rw [hl11] at h; cases h)⟩) trivial trivial
            · intro L hL hLa hLc x W hS hd KO hK
              clear hd
              simp only [List.getD_cons_zero, List.getD_cons_succ, fillL, Nat.reduceAdd, Act.put, List.setIfInBounds_toArray, List.set_cons_zero, List.set_cons_succ] at hK ⊢
              refine wpOp_plain rfl rfl ?_
              go_simp
              exact hK _ _ hS (trivial) rfl
            · intro L hL hLa hLc x W hS hd KO hK
              clear hd
              simp only [List.getD_cons_zero, List.getD_cons_succ, fillL, Nat.reduceAdd, Act.put, List.setIfInBounds_toArray, List.set_cons_zero, List.set_cons_succ] at hK ⊢
              refine wpOp_plain rfl rfl ?_
              go_simp
              exact hK _ _ hS (trivial) rfl
            · intro L hL hLa hLc x W hS hd KO hK
              have h4 : (fun v x _ => v = .slice (some ⟨bo, oo, none⟩) k c2) (x 4) x W := hd 4 (by decide)
              have e4 : x 4 = .slice (some ⟨bo, oo, none⟩) k c2 := h4
              clear h4
              clear hd
              simp only [List.getD_cons_zero, List.getD_cons_succ, fillL, Nat.reduceAdd, Act.put, List.setIfInBounds_toArray, List.set_cons_zero, List.set_cons_succ, e4] at hK ⊢
              refine wpOp_plain rfl rfl ?_
              go_simp
              exact hK _ _ hS trivial rfl
            · intro L hL hLa hLc x W hS hd KO hK
              have h5 : (fun v x _ => v = .pointer (some ⟨bo, oo, none⟩)) (x 5) x W := hd 5 (by decide)
              have e5 : x 5 = .pointer (some ⟨bo, oo, none⟩) := h5
              clear h5
              clear hd
              have hc6 := HK0.out _ hS.1
              simp only [List.getD_cons_zero, List.getD_cons_succ, fillL, Nat.reduceAdd, Act.put, List.setIfInBounds_toArray, List.set_cons_zero, List.set_cons_succ, e5] at hK ⊢
              refine wpOp_plain rfl rfl ?_
              go_simp
              exact hK _ _ hS trivial rfl
            · intro L hL hLa hLc x W hS hd KO hK
              have h3 : (fun v x _ => v = .slice (some ⟨bc, oc, none⟩) n1 c1) (x 3) x W := hd 3 (by decide)
              have e3 : x 3 = .slice (some ⟨bc, oc, none⟩) n1 c1 := h3
              clear h3
              have h6 : (fun v x _ => v = .int .i64 (I : Int)) (x 6) x W := hd 6 (by decide)
              have e6 : x 6 = .int .i64 (I : Int) := h6
              clear h6
              clear hd
              simp only [List.getD_cons_zero, List.getD_cons_succ, fillL, Nat.reduceAdd, Act.put, List.setIfInBounds_toArray, List.set_cons_zero, List.set_cons_succ, e3, e6] at hK ⊢
              refine wpOp_plain rfl rfl ?_
              go_simp
              exact hK _ _ hS trivial rfl
            · intro L hL hLa hLc x W hS hd KO hK
              have h7 : (fun v x _ => v = .pointer (some ⟨bc, oc + I, none⟩)) (x 7) x W := hd 7 (by decide)
              have e7 : x 7 = .pointer (some ⟨bc, oc + I, none⟩) := h7
              clear h7
              clear hd
              have hc8 := HK1.out _ hS.1
              simp only [List.getD_cons_zero, List.getD_cons_succ, fillL, Nat.reduceAdd, Act.put, List.setIfInBounds_toArray, List.set_cons_zero, List.set_cons_succ, e7] at hK ⊢
              refine wpOp_plain rfl rfl ?_
              go_simp
              exact hK _ _ hS trivial rfl
            · intro L hL hLa hLc x W hS hd KO hK
              have h8 : (fun v x _ => v = .int .i64 X) (x 8) x W := hd 8 (by decide)
              have e8 : x 8 = .int .i64 X := h8
              clear h8
              clear hd
              have hl10 : L 10 = false := Bool.eq_false_iff.2 (fun h => absurd (hLc 10 9 h (by decide)) (by rw [hL]; simp))
              have hl11 : L 11 = false := Bool.eq_false_iff.2 (fun h => absurd (hLc 11 10 h (by decide)) (by rw [hl10]; simp))
              obtain ⟨s1, s2, s9, s10, s11⟩ := hS
              simp only [List.getD_cons_zero, List.getD_cons_succ, fillL, Nat.reduceAdd, Act.put, List.setIfInBounds_toArray, List.set_cons_zero, List.set_cons_succ, e8] at hK ⊢
              refine wpOp_plain rfl rfl ?_
              go_simp
              exact hK _ _ (show MoreS w4 n1 ss X (L 2) true (L 10) (L 11) (x 2) (.slice (some ⟨W.heap.size, 0, none⟩) 1 1) (x 10) (x 11) (W.alloc (.cells #[.int .i64 X] 3)) from ⟨s1.alloc s1.size _, fun h2 h10 => (by obtain ⟨A2, c2, e2, o2⟩ := s2 h2 h10; exact ⟨A2, c2, e2, OwnV.more (OwnV.alloc o2 _) (Nat.le_refl _) (by simp)⟩), fun _ _ => ⟨_, rfl, Blk.new _ _ _⟩, fun h => (by rw [hl10] at h; cases h), fun h => (by rw [hl11] at h; cases h)⟩) trivial trivial
            · intro L hL hLa hLc x W hS hd KO hK
              have h2 : (fun v x _ => True) (x 2) x W := hd 2 (by decide)
              have h9 : (fun v x _ => True) (x 9) x W := hd 9 (by decide)
              clear hd
              obtain ⟨s1, s2, s9, s10, s11⟩ := hS
              obtain ⟨A2, c2, e2, o2⟩ := s2 (hLa 2 (by decide)) hL
              obtain ⟨g9, e9, b9⟩ := s9 (hLa 9 (by decide)) hL
              have hl11 : L 11 = false := Bool.eq_false_iff.2 (fun h => absurd (hLc 11 10 h (by decide)) (by rw [hL]; simp))
              have hc9 : W.cell? ⟨g9, 0, none⟩ = some (.int .i64 X) := (b9.cell 0).trans rfl
              have hsz9 := s1.size
              simp only [List.getD_cons_zero, List.getD_cons_succ, fillL, Nat.reduceAdd, Act.put, List.setIfInBounds_toArray, List.set_cons_zero, List.set_cons_succ, e2, e9] at hK ⊢
              refine wpOp_ob rfl ?_
              refine step_push rfl _ _ _ rfl w4.heap.size 3 i0 _ 8 Try.underlying32 hi0 hz0 hz1 hz2 rfl (by omega) _ g9 _ n1 c2 _ rfl (OwnV.own o2) rfl hc9 rfl (by omega) (by omega) ?_
              intro g cap w9 hown hgrow hlies hlt
              have hbel := below_push s1 (OwnV.own o2) (Nat.le_refl _) hsz9 hgrow
              have hmine : OwnI w9 3 w4.heap.size w9.heap.size (some ⟨g, 0, none⟩) (n1 + 1) cap (ss ++ [X]) := Mine.own (by unfold Mine; rw [List.map_append]; exact hown)
              exact hK _ _ (show MoreS w4 n1 ss X (L 2) (L 9) true (L 11) (x 2) (x 9) (.slice (some ⟨g, 0, none⟩) (n1 + 1) cap) (x 11) w9 from ⟨hbel, fun _ h => (by cases h), fun _ h => (by cases h), fun _ _ => ⟨_, _, rfl, hmine⟩, fun h => (by rw [hl11] at h; cases h)⟩) trivial trivial
            · intro L hL hLa hLc x W hS hd KO hK
              have h10 : (fun v x _ => True) (x 10) x W := hd 10 (by decide)
              clear hd
              obtain ⟨s1, s2, s9, s10, s11⟩ := hS
              have hl10 : L 10 = true := hLa 10 (by decide)
              obtain ⟨A8, c8, e10, o8⟩ := s10 hl10 hL
              simp only [List.getD_cons_zero, List.getD_cons_succ, fillL, Nat.reduceAdd, Act.put, List.setIfInBounds_toArray, List.set_cons_zero, List.set_cons_succ, e10] at hK ⊢
              refine wpOp_plain rfl rfl ?_
              go_simp
              refine (slotSuccess_impl A8 (n1 + 1) c8 W.heap.size (ss ++ [X]) W (OwnI.ri o8) (Nat.le_refl _) (by omega)).mono ?_
              rintro e W1 ⟨A9, n9, c9, rfl, o9, hb9⟩
              have HO9 := hid (And.intro o9 hb9)
              clear o9 hb9
              go_wp2_with fail
              exact hK _ _ (show MoreS w4 n1 ss X (L 2) (L 9) (L 10) true (x 2) (x 9) (x 10) (.slice A9 n9 c9) W1 from ⟨s1.trans (HO9.out.2.mono s1.size), fun _ h => (by rw [hl10] at h; cases h), fun _ h => (by rw [hl10] at h; cases h), fun _ h => (by cases h), fun _ => ⟨_, _, _, rfl, OwnI.ri HO9.out.1⟩⟩) trivial trivial
            · intro L hL hLa hLc x W hS hd KO hK
              have h11 : (fun v x _ => True) (x 11) x W := hd 11 (by decide)
              clear hd
              simp only [List.getD_cons_zero, List.getD_cons_succ, fillL, Nat.reduceAdd, Act.put, List.setIfInBounds_toArray, List.set_cons_zero, List.set_cons_succ] at hK ⊢
              refine wpOp_plain rfl rfl ?_
              go_simp
              exact hK _ _ hS (trivial) rfl
          case fin =>
            intro x W L hL hS hd
            have h0 : (fun v x _ => ∃ g : Nat, v = .slice (some ⟨g, 0, none⟩) 0 0) (x 0) x W := hd 0 (by decide)
            have h1 : (fun v x _ => v = .slice (some ⟨bc, oc, none⟩) n1 c1) (x 1) x W := hd 1 (by decide)
            have e1 : x 1 = .slice (some ⟨bc, oc, none⟩) n1 c1 := h1
            clear h1
            have h2 : (fun v x _ => True) (x 2) x W := hd 2 (by decide)
            have h3 : (fun v x _ => v = .slice (some ⟨bc, oc, none⟩) n1 c1) (x 3) x W := hd 3 (by decide)
            have e3 : x 3 = .slice (some ⟨bc, oc, none⟩) n1 c1 := h3
            clear h3
            have h4 : (fun v x _ => v = .slice (some ⟨bo, oo, none⟩) k c2) (x 4) x W := hd 4 (by decide)
            have e4 : x 4 = .slice (some ⟨bo, oo, none⟩) k c2 := h4
            clear h4
            have h5 : (fun v x _ => v = .pointer (some ⟨bo, oo, none⟩)) (x 5) x W := hd 5 (by decide)
            have e5 : x 5 = .pointer (some ⟨bo, oo, none⟩) := h5
            clear h5
            have h6 : (fun v x _ => v = .int .i64 (I : Int)) (x 6) x W := hd 6 (by decide)
            have e6 : x 6 = .int .i64 (I : Int) := h6
            clear h6
            have h7 : (fun v x _ => v = .pointer (some ⟨bc, oc + I, none⟩)) (x 7) x W := hd 7 (by decide)
            have e7 : x 7 = .pointer (some ⟨bc, oc + I, none⟩) := h7
            clear h7
            have h8 : (fun v x _ => v = .int .i64 X) (x 8) x W := hd 8 (by decide)
            have e8 : x 8 = .int .i64 X := h8
            clear h8
            have h9 : (fun v x _ => True) (x 9) x W := hd 9 (by decide)
            have h10 : (fun v x _ => True) (x 10) x W := hd 10 (by decide)
            have h11 : (fun v x _ => True) (x 11) x W := hd 11 (by decide)
            have h12 : (fun v x _ => v = x 11) (x 12) x W := hd 12 (by decide)
            have e12 : x 12 = x 11 := h12
            clear h12
            clear hd
            simp only [fillL, Nat.reduceAdd, Act.put, List.setIfInBounds_toArray, List.set_cons_zero, List.set_cons_succ, e1, e3, e4, e5, e6, e7, e8, e12]
            clear e1 e3 e4 e5 e6 e7 e8 e12
            obtain ⟨s1, _, _, _, s11⟩ := hS
            obtain ⟨A9, n9, c9, e11, o9⟩ := s11 (hL 11 (by decide))
            have hl9 := RI.len o9
            have HF := hid (HB4.out.trans (s1.mono HB4.out.size))
            have HL9 := hid hl9
            simp only [e11]
            clear h0 h2 h9 h10 h11 e11 o9 s1 s11 hl9
            by_cases h8 : n1 = 8
            · subst h8
              go_wp2
              go_ret
              exact ⟨rfl, HF.out⟩
            · have h8b : ((n1 : Int) == 8) = false := by simp; omega
              have hlen9 : (n9 : Int) = (k : Int) - 1 := by
                have h1 := HL9.out
                have h2 := HL2.out
                rw [aloneI_yes (choices_more HOK.out HX.out.2 (by rw [HL.out]; exact h8))] at h1
                rw [HG.out] at h2
                have h3 := more_len (ss := ss) (i0 := I) (by rw [HL.out]; exact hI) (by rw [HL.out]; exact HCI.out)
                rw [HX.out.1] at h3
                rw [List.length_append, List.length_singleton] at h1
                omega
              have hq9 : ((n9 : Int) == (k : Int) - 1) = true := by simp; omega
              go_wp2
              go_ret
              exact ⟨rfl, HF.out⟩
  · clear wf h
    go_enter Try.func8, Try.ntmps8
    go_wp2
    go_ret
    exact ⟨rfl, Below.refl _ _⟩
end Go.Proofs.Ytnebmfdjcikegaa
