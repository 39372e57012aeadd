/-
  FnPowerStep, walked: steps are monotone; a fixed point below the greatest power reaches the target.
-/
import Derived.Test.YtajnpmnedghckaaDPow4
import Derived.Test.YtajnpmnedghckaaAlive
import Derived.OpenShut
namespace Go.Proofs.Ytajnpmnedghckaa
open Go.RowKit
set_option linter.unusedVariables false

/-- Greater powers: each by its number and one more, at most the greatest. -/
def moreP (ps : List Int) : List Int := (List.range ps.length).map fun k => min 10000 (pw ps k + (k : Int) + 1)
theorem moreP_len (ps : List Int) : (moreP ps).length = ps.length := by simp [moreP]
theorem moreP_get {ps : List Int} {k : Nat} (h : k < ps.length) : (moreP ps)[k]? = some (min 10000 (pw ps k + (k : Int) + 1)) := by
  rw [moreP, List.getElem?_map, List.getElem?_range h]; rfl
theorem moreP_ok {rows : List (List Int)} {N G : Int} {ps : List Int} (h : PowOk rows N G ps) : PowOk rows N G (moreP ps) ∧ Le ps (moreP ps) := by
  refine ⟨⟨h.1, by rw [moreP_len]; exact h.2.1, fun k hk => ?_⟩, by rw [moreP_len], fun k hk => ?_⟩
  · rw [moreP_len] at hk
    rw [pw_of (moreP_get hk)]
    have := h.2.2 k hk
    omega
  · rw [pw_of (moreP_get hk)]
    have := h.2.2 k hk
    omega
/-- The links' variable, in a later world. -/
structure Lk (w : World) (b : Nat) (A : Option Addr) (n c : Nat) (rows : List (List Int)) (N G : Int) (B : Nat) (W : World) : Prop where
  bel : Below w.heap.size w W
  box : Blk W b 27 #[.slice A n c, .int .i64 N, .int .i64 G]
  rows : RII W B A n rows
  hB : B ≤ W.heap.size
  hb : w.heap.size ≤ b
theorem Lk.below {w W W' : World} {b n c B : Nat} {A : Option Addr} {rows : List (List Int)} {N G : Int} (h : Lk w b A n c rows N G B W) (hb : Below W.heap.size W W') : Lk w b A n c rows N G B W' :=
  ⟨h.bel.trans (hb.mono h.bel.size), Blk.below h.box hb h.box.lt, RVV.below h.rows (hb.mono h.hB), Nat.le_trans h.hB hb.size, h.hb⟩
theorem Lk.alloc {w W : World} {b n c B : Nat} {A : Option Addr} {rows : List (List Int)} {N G : Int} (h : Lk w b A n c rows N G B W) (o : Obj) : Lk w b A n c rows N G B (W.alloc o) := h.below ((Below.refl _ _).alloc (Nat.le_refl _) o)
theorem Lk.drewN {w W : World} {b n c B : Nat} {A : Option Addr} {rows : List (List Int)} {N G : Int} (h : Lk w b A n c rows N G B W) (m : Nat) : Lk w b A n c rows N G B (W.drewN m) := h.below ((Same.drewN W m).bel _)
theorem Lk.new {w w1 : World} {n c : Nat} {A : Option Addr} {rows : List (List Int)} {N G : Int} (hb : Below w.heap.size w w1) (hr : RII w1 w1.heap.size A n rows) : Lk w w1.heap.size A n c rows N G w1.heap.size (w1.alloc (.cells #[.slice A n c, .int .i64 N, .int .i64 G] 27)) :=
  ⟨hb.alloc hb.size _, Blk.new _ _ _, RVV.alloc hr (Nat.le_refl _) _, by simp, hb.size⟩

set_option maxHeartbeats 3200000 in
theorem fnPowerStep_walk {A : Option Addr} {n c : Nat} {bs : List Int} (w : World) (h : RV w w.heap.size A n (bs.map (Value.int .u8))) (wf : ∀ x ∈ bs, (Lit.int .u8 x).wf = true) (hl : n ≤ c) (hm : c ≤ maxLen) :
    Calls Try.prog 8 #[.slice A n c] w fun e w' => e = .returned (.bool true) ∧ Below w.heap.size w w' := by
  unfold maxLen at hm
  by_cases hn : n ≤ 1048576
  · have hd := drawPowerStep_any A n c w.heap.size bs w h (Nat.le_refl _) hl hn (fun x hx => bounds_u8 (wf x hx))
    obtain ⟨i0, hi0, hz0, hz1, hz2⟩ := info_parts infoInt
    clear wf h
    go_enter Try.func8, Try.ntmps8
    go_wp2_with fail
    refine hd.mono ?_
    rintro e w1 ⟨A1, n1, c1, rows, N, G, A9, n9, c9, ps, rfl, tab, hn1, pr, hn9, hb1⟩
    have L := Lk.new (c := c1) (N := N) (G := G) hb1 tab
    have p1 : RI (w1.alloc (.cells #[.slice A1 n1 c1, .int .i64 N, .int .i64 G] 27)) w1.heap.size A9 n9 ps := RV.alloc pr (Nat.le_refl _) _
    obtain ⟨W, HW⟩ : ∃ W : World, W = w1.alloc (.cells #[.slice A1 n1 c1, .int .i64 N, .int .i64 G] 27) := ⟨_, rfl⟩
    rw [← HW] at L p1
    have HPL := hid (RI.len p1)
    obtain ⟨V, HV⟩ : ∃ V, Hid (stepI rows N G ps = V) := ⟨_, hid rfl⟩
    have HVL := hid (show V.length ≤ 5 by rw [← HV.out]; exact stepI_len _ _ _ _)
    have hc1 := powerStep_impl A1 A9 n1 n9 c1 c9 w1.heap.size rows N G ps W L.rows p1 L.hB (by omega) (by omega)
    rw [HV.out] at hc1
    have HC1 := hid hc1
    obtain ⟨cw0, cw1, cw2⟩ := blk3 L.box
    clear hd tab pr hb1 hc1
    go_wp2_with fail
    simp only [← HW]
    clear HW
    refine HC1.out.mono ?_
    rintro e w2 ⟨A2, n2, c2, rfl, o2, hb2⟩
    have L2 := L.below hb2
    have p2 : RI w2 w1.heap.size A9 n9 ps := RV.below p1 (hb2.mono L.hB)
    have v2 : RI w2 w2.heap.size A2 n2 V := OwnI.ri o2
    have hc2 := powerStep_spec A1 A9 n1 n9 c1 c9 w1.heap.size rows N G ps w2 L2.rows p2 L2.hB (by omega) (by omega)
    rw [HV.out] at hc2
    have HC2 := hid hc2
    clear cw0 cw1 cw2 L p1 hb2 o2 hc2
    obtain ⟨cw0, cw1, cw2⟩ := blk3 L2.box
    go_wp2_with fail
    refine HC2.out.mono ?_
    rintro e w3 ⟨A3, n3, c3, rfl, o3, hb3⟩
    have L3 := L2.below hb3
    have p3 : RI w3 w1.heap.size A9 n9 ps := RV.below p2 (hb3.mono L2.hB)
    have v3 : RI w3 w2.heap.size A2 n2 V := RV.below v2 hb3
    have hz3 := hb3.size
    have HSA := hid (sameInts_same A2 A3 n2 n3 c2 c3 w2.heap.size w3.heap.size V w3 v3 (OwnI.ri o3) (by have := HVL.out; omega))
    clear cw0 cw1 cw2 L2 p2 hb3 v2 o3
    obtain ⟨cw0, cw1, cw2⟩ := blk3 L3.box
    go_wp2_with fail
    refine HSA.out.mono ?_
    rintro e w4 ⟨rfl, hb4⟩
    have L4 := L3.below hb4
    have p4 : RI w4 w1.heap.size A9 n9 ps := RV.below p3 (hb4.mono L3.hB)
    have v4 : RI w4 w2.heap.size A2 n2 V := RV.below v3 (hb4.mono hz3)
    have hz4 := hb4.size
    have hlV := RI.len v4
    clear cw0 cw1 cw2 L3 p3 hb4 v3
    by_cases hpo : PowOk rows N G ps
    · have hVs : V = stepL rows N G ps := by rw [← HV.out, stepI_yes hpo]
      have hpl : ps.length = n9 := HPL.out
      have hn29 : n2 = n9 := by rw [← hlV, hVs, stepL_len, hpl]
      subst hn29
      have hn20 : 0 < n2 := by rw [← hpl, hpo.2.1]; exact hpo.1.1
      have hn25 : n2 ≤ 5 := by rw [← hpl, hpo.2.1]; exact hpo.1.2.1
      have hne : ((n2 : Int) == 0) = false := by simp; omega
      have HO := hid hpo
      have HVs := hid hVs
      have HK0 : Hid (∀ k, k < n2 → pw V k = stepV rows N G ps k) := hid (fun k hk => by rw [hVs, pw_step (by omega)])
      have HL4 := hid L4
      have HP4 := hid p4
      have HV4 := hid v4
      obtain ⟨W4, HW4⟩ : ∃ W : World, W = w4.alloc (.cells #[] 3) := ⟨_, rfl⟩
      have hz44 : W4.heap.size = w4.heap.size + 1 := by rw [HW4]; simp
      have own4 : W4.ownsRow w4.heap.size 3 1 (.slice (some ⟨w4.heap.size, 0, none⟩) 0 0) 0 [] := by rw [HW4]; exact own_lit0 _ (Nat.le_refl _)
      have bel4 : Below w4.heap.size w4 W4 := by rw [HW4]; exact (Below.refl _ _).alloc (Nat.le_refl _) _
      clear hVs hpo hpl L4 p4 v4
      go_wp2
      simp only [← HW4]
      clear HW4
      go_loopw [6, 7, 8] (fun v l i wr => ∃ (k cc : Nat) (AA : Option Addr) (b : Bool), k ≤ n2 ∧ i = .int .i64 k ∧ l = .bool b ∧ v = .slice AA k cc ∧ wr.ownsRow w4.heap.size 3 1 (.slice AA k cc) k (((moreP ps).take k).map (Value.int .i64)) ∧ Below w4.heap.size w4 wr ∧ Hid (b = true → ∀ j, j < k → pw V j < 10000)) (fun _ _ i _ => n2 - (intOf i).toNat)
      case atStart => exact ⟨0, 0, _, true, Nat.zero_le _, rfl, rfl, rfl, by simpa using own4, bel4, hid (fun _ j hj => by omega)⟩
      case round =>
        obtain ⟨k, cc, AA, b, hk, rfl, rfl, rfl, hown, hbr, HB⟩ := hrel
        have hszr := hbr.size
        by_cases hlt : k < n2
        · have pr : RI wr w1.heap.size A9 n2 ps := RV.below HP4.out (hbr.mono HL4.out.hB)
          have vr : RI wr w2.heap.size A2 n2 V := RV.below HV4.out (hbr.mono (by omega))
          obtain ⟨b5, o5, p, rfl, hb5, hp, hcp⟩ := RI.at_ pr hlt
          have hpb := HO.out.2.2 k (by rw [HPL.out]; exact hlt)
          rw [pw_of hp] at hpb
          have r1 : IntKind.i64.wrap (p + (k : Int)) = p + (k : Int) := IntWalk.i64_in _ (by omega)
          have r2 : IntKind.i64.wrap (p + (k : Int) + 1) = p + (k : Int) + 1 := IntWalk.i64_in _ (by omega)
          obtain ⟨mm, hmm⟩ : ∃ mm : Int, mm = min 10000 (p + (k : Int) + 1) := ⟨_, rfl⟩
          have HM := hid (show (moreP ps)[k]? = some mm by rw [hmm, ← pw_of hp]; exact moreP_get (by rw [HPL.out]; exact hlt))
          obtain ⟨b6, o6, x, rfl, hb6, hx, hcx⟩ := RI.at_ vr hlt
          have HX := hid (pw_of hx)
          have hgr : ∀ W', Below w4.heap.size wr W' → W'.cell? ⟨b6, o6 + k, none⟩ = some (.int .i64 x) := fun W' hb => (hb.cell (p := ⟨b6, o6 + k, none⟩) (by show b6 < _; omega)).trans hcx
          have HGR := hid hgr
          clear hp hx pr vr hgr own4 bel4
          have hcase : (p + (k : Int) + 1 < 10000 ∧ mm = p + (k : Int) + 1) ∨ (10000 ≤ p + (k : Int) + 1 ∧ mm = 10000) := by omega
          clear hmm
          rcases hcase with ⟨m1, m2⟩ | ⟨m1, m2⟩
          all_goals
            subst m2
            by_cases hx10 : x < 10000
            all_goals
              cases b
              all_goals
                go_wp2_with (at_builtin; refine wpList_push rfl _ _ _ rfl w4.heap.size 3 i0 _ 8 Try.underlying34 hi0 hz0 hz1 hz2 rfl (by omega) _ _ AA k cc _ rfl hown rfl rfl (by omega) (by omega) ?_; intro g' cap w5 hown5 hgrow5 hlies5 hlt5; have hc5 := HGR.out w5 (grown_bel hown hgrow5 (by omega)))
                have hbel5 := below_push hbr hown (Nat.le_refl _) (by omega) hgrow5
                go_roundw
                case rel => exact ⟨k + 1, cap, _, _, by omega, by go_num, rfl, rfl, by rw [take_snoc _ _ _ HM.out, List.map_append]; exact hown5, hbel5, hid (fun hb j hj => by
                  by_cases hjk : j = k
                  · subst hjk; rw [HX.out]; first | exact hx10 | (cases hb)
                  · first | exact HB.out hb j (by omega) | exact HB.out rfl j (by omega) | (cases hb))⟩
                case measure => simp [intOf]; omega
        · have hkn : k = n2 := by omega
          subst hkn
          have hmo := moreP_ok HO.out
          have hM2 : RI wr wr.heap.size AA k (moreP ps) := by
            have := RV.of_own hown
            rw [List.take_of_length_le (by rw [moreP_len, HPL.out]; exact Nat.le_refl _)] at this
            exact this
          have L5 := HL4.out.below hbr
          have hcu := powerStep_impl A1 AA n1 k c1 cc wr.heap.size rows N G (moreP ps) wr (RVV.more L5.rows L5.hB) hM2 (Nat.le_refl _) (by omega) (by omega)
          rw [stepI_yes hmo.1] at hcu
          obtain ⟨U, HU⟩ : ∃ U, Hid (stepL rows N G (moreP ps) = U) := ⟨_, hid rfl⟩
          rw [HU.out] at hcu
          have HCU := hid hcu
          have HBR := hid hbr
          have HUV : Hid (∀ j, j < k → pw V j ≤ pw U j) := hid (fun j hj => by
            have := (step_mono HO.out.1 HO.out.2.1 hmo.2).2 j (by rw [stepL_len, HPL.out]; exact hj)
            rw [HVs.out, ← HU.out]
            exact this)
          have HV1 : Hid (∀ j, j < k → 1 ≤ pw V j) := hid (fun j hj => by
            rw [HK0.out j hj]
            exact (stepV_bd HO.out (by rw [HPL.out]; exact hj)).1)
          have hUl : U.length = k := by rw [← HU.out, stepL_len, moreP_len, HPL.out]
          obtain ⟨cv0, cv1, cv2⟩ := blk3 L5.box
          clear hmo hM2 hcu hown hbr own4 bel4
          go_wp2_with fail
          refine HCU.out.mono ?_
          rintro e w6 ⟨A6, n6, c6, rfl, o6, hb6⟩
          have L6 := L5.below hb6
          have hz6 := hb6.size
          have b46 := HBR.out.trans (hb6.mono HBR.out.size)
          have p6 : RI w6 w1.heap.size A9 k ps := RV.below HP4.out (b46.mono HL4.out.hB)
          have v6 : RI w6 w2.heap.size A2 k V := RV.below HV4.out (b46.mono (by omega))
          have u6 : RI w6 w6.heap.size A6 n6 U := OwnI.ri o6
          have hn6 : n6 = k := by rw [← RI.len u6]; exact hUl
          subst hn6
          clear cv0 cv1 cv2 L5 hb6 b46 o6 HCU
          go_wp2
          go_loopw [10] (fun i wr => ∃ m d : Nat, m ≤ n6 ∧ i = .int .i64 m ∧ wr = w6.drewN d) (fun i _ => n6 - (intOf i).toNat)
          case atStart => exact ⟨0, 0, Nat.zero_le _, rfl, rfl⟩
          case round =>
            obtain ⟨m, d, hm', rfl, rfl⟩ := hrel
            by_cases hmt : m < n6
            · obtain ⟨b7, o7, x, rfl, hb7, hx, hcx⟩ := RI.at_ u6 hmt
              obtain ⟨b8, o8, y, rfl, hb8, hy, hcy⟩ := RI.at_ v6 hmt
              have hxy : ¬ x < y := by
                have := HUV.out m hmt
                rw [pw_of hx, pw_of hy] at this
                omega
              have hy1 : ¬ y < 1 := by
                have := HV1.out m hmt
                rw [pw_of hy] at this
                omega
              clear hx hy
              go_wp2_with (go_quiet (fail))
              go_roundw
              case rel => exact ⟨m + 1, _, by omega, by go_num, by first | rfl | exact World.drewN_drewN _ _ _⟩
              case measure => simp [intOf]; omega
            · have hmn : m = n6 := by omega
              subst hmn
              have L7 := L6.drewN d
              have hF := hid L7.bel
              have hF6 := hid L6.bel
              have HS7 := hid (sameInts_any A2 A9 m m c2 c9 w2.heap.size w1.heap.size V ps (w6.drewN d) v6 p6 (by omega) (by omega))
              cases b
              · clear L6 L7 p6 v6 u6
                go_wp2
                go_ret
                exact ⟨rfl, hF.out⟩
              · by_cases hvp : V = ps
                · have HME := hid (fix_meet HO.out (by rw [← HVs.out]; exact hvp) (fun j hj => by
                    have h1 := HB.out rfl j (by rw [HPL.out] at hj; exact hj)
                    rw [HK0.out j (by rw [HPL.out] at hj; exact hj)] at h1
                    unfold stepV at h1
                    omega))
                  have hd1 : decide (V = ps) = true := decide_eq_true hvp
                  rw [hd1] at HS7
                  have hcm := linksMeet_impl A1 A9 n1 m c1 c9 w1.heap.size rows N G ps
                  rw [meetB_yes HME.out] at hcm
                  have HCM := hid hcm
                  have HL6 := hid L6
                  have HP6 := hid p6
                  clear L6 L7 p6 v6 u6 hd1 hvp hcm
                  go_wp2_with fail
                  refine HS7.out.mono ?_
                  rintro e w8 ⟨rfl, d8, rfl⟩
                  have L8 := HL6.out.drewN (d + d8)
                  obtain ⟨cv0, cv1, cv2⟩ := blk3 L8.box
                  have HM8 := hid (HCM.out _ L8.rows HP6.out L8.hB (by omega) (by omega))
                  have HF8 := hid L8.bel
                  clear L8
                  go_wp2_with fail
                  refine HM8.out.mono ?_
                  rintro e w9 ⟨rfl, hb9⟩
                  have HF9 := hid (HF8.out.trans (hb9.mono HF8.out.size))
                  clear hb9
                  go_wp2
                  go_ret
                  exact ⟨rfl, HF9.out⟩
                · have hd1 : decide (V = ps) = false := decide_eq_false hvp
                  rw [hd1] at HS7
                  clear L6 L7 p6 v6 u6 hd1 hvp
                  go_wp2_with fail
                  refine HS7.out.mono ?_
                  rintro e w8 ⟨rfl, d8, rfl⟩
                  go_wp2
                  go_ret
                  exact ⟨rfl, hF6.out.trans ((Same.drewN _ _).bel _)⟩
    · have hVn : V = [] := by rw [← HV.out, stepI_no hpo]
      have hn20 : n2 = 0 := by rw [← hlV, hVn]; rfl
      subst hn20
      have HB4 := hid L4.bel
      clear L4 p4 v4 hVn hpo
      go_wp2_with fail
      refine (alive_any _).mono ?_
      rintro e w5 ⟨rfl, hb5⟩
      have HB5 := hid (HB4.out.trans (hb5.mono HB4.out.size))
      clear hb5
      go_wp2
      go_ret
      exact ⟨rfl, HB5.out⟩
  · go_enter Try.func8, Try.ntmps8
    go_wp2
    go_ret
    exact ⟨rfl, Below.refl _ _⟩
end Go.Proofs.Ytajnpmnedghckaa
