/-
  PowerStep, the program's and the reference's, walked.
-/
import Derived.Test.YtajnpmnedghckaaPowD
namespace Go.Proofs.Ytajnpmnedghckaa
open Go.RowKit
set_option linter.unusedVariables false

theorem stepI_len (rows : List (List Int)) (N G : Int) (ps : List Int) : (stepI rows N G ps).length ≤ 5 := by
  by_cases h : PowOk rows N G ps
  · rw [stepI_yes h, stepL_len, h.2.1]; exact h.1.2.1
  · rw [stepI_no h]; simp
set_option maxHeartbeats 1600000 in
theorem powerStep_impl (A A' : Option Addr) (n n' cx cx' B : Nat) (rows : List (List Int)) (N G : Int) (ps : List Int) (w : World) (h : RII w B A n rows) (h' : RI w B A' n' ps) (hB : B ≤ w.heap.size) (hn : n ≤ 1000000000) (hn' : n' ≤ 1000000000) :
    Calls Try.prog 22 #[.agg #[.slice A n cx, .int .i64 N, .int .i64 G], .slice A' n' cx'] w fun e w' => RetI 3 w e w' (stepI rows N G ps) := by
  have hlen : rows.length = n := RII.len h
  have hlen' : ps.length = n' := RI.len h'
  obtain ⟨WA, HW⟩ : ∃ WA : World, WA = w.alloc (.cells #[.slice A n cx, .int .i64 N, .int .i64 G] 27) := ⟨_, rfl⟩
  have hWs : WA.heap.size = w.heap.size + 1 := by rw [HW]; simp
  have rW : RII WA B A n rows := by rw [HW]; exact RVV.alloc h hB _
  have pW : RI WA B A' n' ps := by rw [HW]; exact RV.alloc h' hB _
  have kW : Blk WA w.heap.size 27 #[.slice A n cx, .int .i64 N, .int .i64 G] := by rw [HW]; exact Blk.new _ _ _
  have BW : Below w.heap.size w WA := by rw [HW]; exact (Below.refl w.heap.size w).alloc (Nat.le_refl _) _
  have hcv := powOk_impl A A' n n' cx cx' B rows N G ps WA rW pW (by omega) hn hn'
  by_cases hp : PowOk rows N G ps
  · rw [powB_yes hp] at hcv
    rw [stepI_yes hp]
    have HCV := hid hcv
    have HO := hid hp
    have HL := hid (And.intro hlen hlen')
    have hnn : n' = n := by rw [← HL.out.1, ← HL.out.2]; exact HO.out.2.1
    subst hnn
    have hn5 : n' ≤ 5 := by rw [← hlen]; exact hp.1.2.1
    have hn0 : 0 < n' := by have := hp.1.1; omega
    have hmk := run_make_row' (P := Try.prog) 34 3 (.int .i64 0) 8 Try.underlying34 infoInt rfl .i64 .i64 n' (by omega) (by omega)
    have HWW := hid HW
    clear hcv hp h h' hlen hlen'
    go_enter Try.func22, Try.ntmps22
    go_wp2_with fail
    simp only [← HW]
    clear HW
    refine HCV.out.mono ?_
    rintro e w1 ⟨rfl, hb⟩
    have r1 : RII w1 B A n' rows := RVV.below rW (hb.mono (by omega))
    have p1 : RI w1 B A' n' ps := RV.below pW (hb.mono (by omega))
    have k1 : Blk w1 w.heap.size 27 #[.slice A n' cx, .int .i64 N, .int .i64 G] := Blk.below kW hb (by omega)
    have hs1 := hb.size
    have HB1 := hid (BW.trans (hb.mono BW.size))
    obtain ⟨c0, c1, c2⟩ := blk3 k1
    obtain ⟨b2, o2, p, rfl, hb2, hp2, hcp⟩ := RI.at_ p1 hn0
    have hk2 : Blk (w1.alloc (.cells (madeCells #[.int .i64 0] n') 3)) w.heap.size 27 #[.slice A n' cx, .int .i64 N, .int .i64 G] := Blk.alloc k1 _
    obtain ⟨d0, d1, d2⟩ := blk3 hk2
    have HCS := hid (stepPowers_impl A _ (some ⟨w1.heap.size, 0, none⟩) n' n' cx cx' n' w1.heap.size (w1.heap.size + 1) rows N G ps (List.replicate n' 0) (w1.alloc (.cells (madeCells #[.int .i64 0] n') 3))
      (RVV.more (RVV.alloc r1 (by omega) _) (by omega)) (RV.more (RV.alloc p1 (by omega) _) (by simp; omega)) (fun a ha => by injection ha with ha; subst ha; simp only; omega) (ownV_blk (blk_made w1 _ n' (0 : Int) rfl) (Nat.le_refl _) (by omega) (by simp) (by unfold maxLen; omega)) (by simp) (by omega) HO.out)
    have HB2 := hid (HB1.out.alloc (show w.heap.size ≤ w1.heap.size by omega) (.cells (madeCells #[.int .i64 0] n') 3))
    have HS2 := hid (show w.heap.size ≤ w1.heap.size by omega)
    clear hb rW pW kW BW r1 p1 k1 hk2 hp2 hcp
    go_wp2_with fail
    refine HCS.out.mono ?_
    rintro e w3 ⟨rfl, ho3, hon3⟩
    have HF := hid (show RetI 3 w (.returned (.slice (some ⟨w1.heap.size, 0, none⟩) n' n')) w3 (stepL rows N G ps) from
      ⟨_, _, _, rfl, OwnV.more ho3 HS2.out (by have := hon3.size; simp at this; omega), HB2.out.trans (hon3.below HS2.out (by simp; have := HS2.out; omega))⟩)
    clear ho3 hon3
    go_wp2
    go_ret
    exact HF.out
  · rw [powB_no hp] at hcv
    rw [stepI_no hp]
    have HCV := hid hcv
    have HBW := hid BW
    clear hcv hp h h' rW pW kW BW
    go_enter Try.func22, Try.ntmps22
    go_wp2_with fail
    simp only [← HW]
    clear HW
    refine HCV.out.mono ?_
    rintro e w1 ⟨rfl, hb⟩
    have HB1 := hid (HBW.out.trans (hb.mono HBW.out.size))
    clear hb
    go_wp2
    go_ret
    exact ⟨none, 0, 0, rfl, OwnV.nil_ _ _ _ _, HB1.out⟩
set_option maxRecDepth 100000 in
set_option maxHeartbeats 1600000 in
theorem powerStep_spec (A A' : Option Addr) (n n' cx cx' B : Nat) (rows : List (List Int)) (N G : Int) (ps : List Int) (w : World) (h : RII w B A n rows) (h' : RI w B A' n' ps) (hB : B ≤ w.heap.size) (hn : n ≤ 1000000000) (hn' : n' ≤ 1000000000) :
    Calls Try.prog 25 #[.agg #[.slice A n cx, .int .i64 N, .int .i64 G], .slice A' n' cx'] w fun e w' => RetI 3 w e w' (stepI rows N G ps) := by
  have hlen : rows.length = n := RII.len h
  have hlen' : ps.length = n' := RI.len h'
  obtain ⟨i0, hi0, hz0, hz1, hz2⟩ := info_parts infoInt
  obtain ⟨WA, HW⟩ : ∃ WA : World, WA = w.alloc (.cells #[.slice A n cx, .int .i64 N, .int .i64 G] 27) := ⟨_, rfl⟩
  have hWs : WA.heap.size = w.heap.size + 1 := by rw [HW]; simp
  have rW : RII WA B A n rows := by rw [HW]; exact RVV.alloc h hB _
  have pW : RI WA B A' n' ps := by rw [HW]; exact RV.alloc h' hB _
  have kW : Blk WA w.heap.size 27 #[.slice A n cx, .int .i64 N, .int .i64 G] := by rw [HW]; exact Blk.new _ _ _
  have BW : Below w.heap.size w WA := by rw [HW]; exact (Below.refl w.heap.size w).alloc (Nat.le_refl _) _
  have hcv := powOk_spec A A' n n' cx cx' B rows N G ps (WA.alloc (.cells #[] 3)) (RVV.alloc rW (by omega) _) (RV.alloc pW (by omega) _) (by simp; omega) hn hn'
  have kZ := Blk.alloc kW (.cells #[] 3)
  obtain ⟨z0, z1, z2⟩ := blk3 kZ
  have oZ : (WA.alloc (.cells #[] 3)).ownsRow WA.heap.size 3 1 (.slice (some ⟨WA.heap.size, 0, none⟩) 0 0) 0 [] := own_lit0 _ (Nat.le_refl _)
  by_cases hp : PowOk rows N G ps
  · rw [powB_yes hp] at hcv
    rw [stepI_yes hp]
    have HCV := hid hcv
    have HO := hid hp
    have HL := hid (And.intro hlen hlen')
    have hnn : n' = n := by rw [← HL.out.1, ← HL.out.2]; exact HO.out.2.1
    subst hnn
    have hn5 : n' ≤ 5 := by rw [← hlen]; exact hp.1.2.1
    have HWW := hid HW
    clear hcv hp h h' hlen hlen'
    go_enter Try.func25, Try.ntmps25
    go_wp2_with fail
    simp only [← HW, ← hWs]
    clear HW
    refine HCV.out.mono ?_
    rintro e w1 ⟨rfl, hb⟩
    have b1 : Below WA.heap.size WA w1 := ((Below.refl WA.heap.size WA).alloc (Nat.le_refl _) (.cells #[] 3)).trans (hb.mono (by simp))
    have own1 : w1.ownsRow WA.heap.size 3 1 (.slice (some ⟨w.heap.size + 1, 0, none⟩) 0 0) 0 [] := by rw [← hWs]; exact own_only (lo := (WA.alloc (.cells #[] 3)).heap.size) (hi := (WA.alloc (.cells #[] 3)).heap.size) oZ (Below.only hb) (.inr (Nat.le_refl _))
    have hs1 := b1.size
    obtain ⟨c0, c1, c2⟩ := blk3 (Blk.below kW b1 (by omega))
    have HBW := hid BW
    clear hb oZ kZ BW
    go_wp2
    go_loopw [5, 6] (fun v i wr => ∃ (k cc : Nat) (AA : Option Addr), k ≤ n' ∧ i = .int .i64 k ∧ v = .slice AA k cc ∧ wr.ownsRow WA.heap.size 3 1 (.slice AA k cc) k (((stepL rows N G ps).take k).map (Value.int .i64)) ∧ Below WA.heap.size WA wr) (fun _ i _ => n' - (intOf i).toNat)
    case atStart => exact ⟨0, 0, _, Nat.zero_le _, rfl, rfl, by simpa using own1, b1⟩
    case round =>
      obtain ⟨k, cc, AA, hk, rfl, rfl, hown, hbr⟩ := hrel
      have hszr := hbr.size
      by_cases hlt : k < n'
      · have r2 : RII wr B A n' rows := RVV.below rW (hbr.mono (by omega))
        have p2 : RI wr B A' n' ps := RV.below pW (hbr.mono (by omega))
        have k2 : Blk wr w.heap.size 27 #[.slice A n' cx, .int .i64 N, .int .i64 G] := Blk.below kW hbr (by omega)
        obtain ⟨d0, d1, d2⟩ := blk3 k2
        obtain ⟨b, o, A1, n1, c1', r, rfl, hb, hx, hcl, hr, hn1, hc1⟩ := RII.at_ r2 hlt
        have hn11 : n1 = n' := by rw [← RI.len hr, (HO.out.1.2.2.2.2.2.2 k r hx).1, HL.out.1]
        subst hn11
        obtain ⟨b3, o3, g, rfl, hb3, hg, hcg⟩ := RI.at_ hr hlt
        obtain ⟨b2, o2, p, rfl, hb2, hp, hcp⟩ := RI.at_ p2 hlt
        have hgk := gn_self HO.out.1 (show k < rows.length by rw [HL.out.1]; exact hlt)
        rw [gn_of hx hg] at hgk
        have HW0 := want_bd HO.out.1 (show k < rows.length by rw [HL.out.1]; exact hlt) (fun j hj => HO.out.2.2 j (by rw [HL.out.2]; rw [HL.out.1] at hj; exact hj)) HO.out.2.1
        obtain ⟨W0, hW0⟩ : ∃ W0, want rows N G ps k = W0 := ⟨_, rfl⟩
        rw [hW0] at HW0
        obtain ⟨D, hD⟩ : ∃ D, N + dsum rows ps k ps.length = D := ⟨_, rfl⟩
        have HCW : Hid (∀ WA', Below wr.heap.size wr WA' → Calls Try.prog 46 #[.agg #[.slice (some ⟨b, o, none⟩) n1 cx, .int .i64 N, .int .i64 G], .slice (some ⟨b2, o2, none⟩) n1 cx', .int .i64 k] WA' fun e w' => e = .returned (.int .i64 D) ∧ Below WA'.heap.size WA' w') := hid (fun WA' hb => by
          have := disturb_spec _ _ n1 n1 cx cx' wr.heap.size k rows N G ps WA' (RVV.below (RVV.more r2 (by omega)) hb) (RV.below (RV.more p2 (by omega)) hb) hb.size HO.out hlt
          rw [hD] at this
          exact this)
        have e5 : G * D = W0 := by rw [← hD, ← hW0]; rfl
        have e6 : IntKind.i64.wrap W0 = W0 := IntWalk.i64_in _ (by omega)
        have HN : Hid (stepV rows N G ps k = min ((W0 + 10 * g - 1) / (10 * g)) 10000) := hid (by unfold stepV needV; rw [hW0, gn_of hx hg])
        have hS0 := stepV_bd HO.out (show k < ps.length by rw [HL.out.2]; exact hlt)
        obtain ⟨S, hSS⟩ : ∃ S, stepV rows N G ps k = S := ⟨_, rfl⟩
        rw [hSS] at HN hS0
        have hV0 : 0 ≤ (W0 + 10 * g - 1) / (10 * g) := Int.ediv_nonneg (by omega) (by omega)
        have hV1 : (W0 + 10 * g - 1) / (10 * g) ≤ W0 + 10 * g - 1 := Int.ediv_le_self _ (by omega)
        obtain ⟨VV, hVV⟩ : ∃ VV, (W0 + 10 * g - 1) / (10 * g) = VV := ⟨_, rfl⟩
        have q4 : Int.tdiv (W0 + 10 * g - 1) (10 * g) = VV := by rw [Int.tdiv_eq_ediv_of_nonneg (by omega), hVV]
        rw [hVV] at HN hV0 hV1
        have q1 : IntKind.i64.wrap (10 * g) = 10 * g := IntWalk.i64_in _ (by omega)
        have q2 : IntKind.i64.wrap (W0 + 10 * g) = W0 + 10 * g := IntWalk.i64_in _ (by omega)
        have q3 : IntKind.i64.wrap (W0 + 10 * g - 1) = W0 + 10 * g - 1 := IntWalk.i64_in _ (by omega)
        have q5 : IntKind.i64.wrap VV = VV := IntWalk.i64_in _ (by omega)
        have hSV : (VV < 10000 ∧ S = VV) ∨ (10000 ≤ VV ∧ S = 10000) := by have := HN.out; omega
        have HSS : Hid ((stepL rows N G ps)[k]? = some S) := hid (by rw [stepL, List.getElem?_map, List.getElem?_range (by rw [HL.out.2]; exact hlt), ← hSS]; rfl)
        have HK0 : Hid (∀ WA', Below wr.heap.size wr WA' → WA'.cell? ⟨w.heap.size, 0, none⟩ = some (.slice (some ⟨b, o, none⟩) n1 cx) ∧ WA'.cell? ⟨w.heap.size, 1, none⟩ = some (.int .i64 N) ∧ WA'.cell? ⟨w.heap.size, 2, none⟩ = some (.int .i64 G)) := hid (fun WA' h => blk3 (Blk.below k2 h (by omega)))
        have HK1 : Hid (∀ WA', Below wr.heap.size wr WA' → WA'.cell? ⟨b3, o3 + k, none⟩ = some (.int .i64 g)) := hid (fun WA' h => (bcell h).1 b3 _ (by omega) ▸ hcg)
        have HK3 : Hid (∀ WA', Below wr.heap.size wr WA' → WA'.cell? ⟨b, o + k, none⟩ = some (.slice (some ⟨b3, o3, none⟩) n1 c1')) := hid (fun WA' h => (bcell h).1 b _ (by omega) ▸ hcl)
        have HBT := hid hbr
        have HOW := hid hown
        have hk0 : (0 : Int) ≤ (k : Int) := by omega
        have hkn : (k : Int) < (n1 : Int) := by omega
        clear hx hg hp hcp r2 p2 k2 hr hbr hown d1 hW0 hD hSS hVV rW pW kW own1 b1
        go_wp2_with fail
        refine wp_region_g (by kernel_rfl) [[], [0], [], [], [], [2, 3, 4], [1, 5], [6]] (by kernel_rfl) 8 (by rfl) [some 21, some 22, some 23, some 24, some 25, some 26, some 27, some 7] (by rfl)
          [fun v x _ => v = .pointer (some ⟨w.heap.size, 2, none⟩),
           fun v x _ => v = .int .i64 G,
           fun v x _ => v = .agg #[.slice (some ⟨b, o, none⟩) n1 cx, .int .i64 N, .int .i64 G],
           fun v x _ => v = .slice (some ⟨b2, o2, none⟩) n1 cx',
           fun v x _ => v = .int .i64 (k : Int),
           fun v x _ => v = .int .i64 D,
           fun v x _ => v = .int .i64 W0,
           fun v x _ => v = .int .i64 W0]
          (fun _ w' => Below wr.heap.size wr w') (fun w w' => Below w.heap.size w w') (fun _ => Below.refl _ _) ((Below.refl _ _).drew) ?loc ?ob ?fin
        case loc =>
          refine ⟨⟨⟨⟨⟨⟨⟨⟨trivial, ?_⟩, ?_⟩, ?_⟩, ?_⟩, ?_⟩, ?_⟩, ?_⟩, ?_⟩
          · exact fun _ _ _ _ _ _ _ h => h
          · exact fun _ _ _ _ _ _ _ h => h
          · exact fun _ _ _ _ _ _ _ h => h
          · exact fun _ _ _ _ _ _ _ h => h
          · exact fun _ _ _ _ _ _ _ h => h
          · exact fun _ _ _ _ _ _ _ h => h
          · exact fun _ _ _ _ _ _ _ h => h
          · exact fun _ _ _ _ _ _ _ h => h
        case ob =>
          refine ⟨⟨⟨⟨⟨⟨⟨⟨trivial, ?_⟩, ?_⟩, ?_⟩, ?_⟩, ?_⟩, ?_⟩, ?_⟩, ?_⟩
          · intro c hc x W hS hd KO hK
            clear hd
            simp only [List.getD_cons_zero, fillL, Nat.reduceAdd, Act.put, List.setIfInBounds_toArray, List.set_cons_zero, List.set_cons_succ] at hK ⊢
            refine wpOp_plain rfl rfl ?_
            go_simp
            exact hK _ _ hS (Below.refl _ _) rfl
          · intro c hc x W hS hd KO hK
            have h0 : (fun v x _ => v = .pointer (some ⟨w.heap.size, 2, none⟩)) (x 0) x W := hd 0 (by decide)
            have e0 : x 0 = .pointer (some ⟨w.heap.size, 2, none⟩) := h0
            clear h0
            clear hd
            have hc0 := (HK0.out _ hS).1
            have hc1 := (HK0.out _ hS).2.1
            have hc2 := (HK0.out _ hS).2.2
            simp only [List.getD_cons_zero, List.getD_cons_succ, fillL, Nat.reduceAdd, Act.put, List.setIfInBounds_toArray, List.set_cons_zero, List.set_cons_succ, e0] at hK ⊢
            refine wpOp_plain rfl rfl ?_
            go_simp
            exact hK _ _ hS (Below.refl _ _) rfl
          · intro c hc x W hS hd KO hK
            clear hd
            have hc0 := (HK0.out _ hS).1
            have hc1 := (HK0.out _ hS).2.1
            have hc2 := (HK0.out _ hS).2.2
            simp only [List.getD_cons_zero, List.getD_cons_succ, fillL, Nat.reduceAdd, Act.put, List.setIfInBounds_toArray, List.set_cons_zero, List.set_cons_succ] at hK ⊢
            refine wpOp_plain rfl rfl ?_
            go_simp
            exact hK _ _ hS (Below.refl _ _) rfl
          · intro c hc x W hS hd KO hK
            clear hd
            simp only [List.getD_cons_zero, List.getD_cons_succ, fillL, Nat.reduceAdd, Act.put, List.setIfInBounds_toArray, List.set_cons_zero, List.set_cons_succ] at hK ⊢
            refine wpOp_plain rfl rfl ?_
            go_simp
            exact hK _ _ hS (Below.refl _ _) rfl
          · intro c hc x W hS hd KO hK
            clear hd
            simp only [List.getD_cons_zero, List.getD_cons_succ, fillL, Nat.reduceAdd, Act.put, List.setIfInBounds_toArray, List.set_cons_zero, List.set_cons_succ] at hK ⊢
            refine wpOp_plain rfl rfl ?_
            go_simp
            exact hK _ _ hS (Below.refl _ _) rfl
          · intro c hc x W hS hd KO hK
            have h2 : (fun v x _ => v = .agg #[.slice (some ⟨b, o, none⟩) n1 cx, .int .i64 N, .int .i64 G]) (x 2) x W := hd 2 (by decide)
            have e2 : x 2 = .agg #[.slice (some ⟨b, o, none⟩) n1 cx, .int .i64 N, .int .i64 G] := h2
            clear h2
            have h3 : (fun v x _ => v = .slice (some ⟨b2, o2, none⟩) n1 cx') (x 3) x W := hd 3 (by decide)
            have e3 : x 3 = .slice (some ⟨b2, o2, none⟩) n1 cx' := h3
            clear h3
            have h4 : (fun v x _ => v = .int .i64 (k : Int)) (x 4) x W := hd 4 (by decide)
            have e4 : x 4 = .int .i64 (k : Int) := h4
            clear h4
            clear hd
            simp only [List.getD_cons_zero, List.getD_cons_succ, fillL, Nat.reduceAdd, Act.put, List.setIfInBounds_toArray, List.set_cons_zero, List.set_cons_succ, e2, e3, e4] at hK ⊢
            refine wpOp_plain rfl rfl ?_
            go_simp
            refine (HCW.out _ hS).mono ?_
            rintro e W1 ⟨rfl, hb1⟩
            go_wp2_with fail
            exact hK _ _ (hS.trans (hb1.mono hS.size)) hb1 rfl
          · intro c hc x W hS hd KO hK
            have h1 : (fun v x _ => v = .int .i64 G) (x 1) x W := hd 1 (by decide)
            have e1 : x 1 = .int .i64 G := h1
            clear h1
            have h5 : (fun v x _ => v = .int .i64 D) (x 5) x W := hd 5 (by decide)
            have e5 : x 5 = .int .i64 D := h5
            clear h5
            clear hd
            simp only [List.getD_cons_zero, List.getD_cons_succ, fillL, Nat.reduceAdd, Act.put, List.setIfInBounds_toArray, List.set_cons_zero, List.set_cons_succ, e1, e5] at hK ⊢
            refine wpOp_plain rfl rfl ?_
            go_simp
            exact hK _ _ hS (Below.refl _ _) rfl
          · intro c hc x W hS hd KO hK
            have h6 : (fun v x _ => v = .int .i64 W0) (x 6) x W := hd 6 (by decide)
            have e6 : x 6 = .int .i64 W0 := h6
            clear h6
            clear hd
            simp only [List.getD_cons_zero, List.getD_cons_succ, fillL, Nat.reduceAdd, Act.put, List.setIfInBounds_toArray, List.set_cons_zero, List.set_cons_succ, e6] at hK ⊢
            refine wpOp_plain rfl rfl ?_
            go_simp
            exact hK _ _ hS (Below.refl _ _) rfl
        case fin =>
          intro x W hS hd
          have h0 : (fun v x _ => v = .pointer (some ⟨w.heap.size, 2, none⟩)) (x 0) x W := hd 0 (by decide)
          have e0 : x 0 = .pointer (some ⟨w.heap.size, 2, none⟩) := h0
          clear h0
          have h1 : (fun v x _ => v = .int .i64 G) (x 1) x W := hd 1 (by decide)
          have e1 : x 1 = .int .i64 G := h1
          clear h1
          have h2 : (fun v x _ => v = .agg #[.slice (some ⟨b, o, none⟩) n1 cx, .int .i64 N, .int .i64 G]) (x 2) x W := hd 2 (by decide)
          have e2 : x 2 = .agg #[.slice (some ⟨b, o, none⟩) n1 cx, .int .i64 N, .int .i64 G] := h2
          clear h2
          have h3 : (fun v x _ => v = .slice (some ⟨b2, o2, none⟩) n1 cx') (x 3) x W := hd 3 (by decide)
          have e3 : x 3 = .slice (some ⟨b2, o2, none⟩) n1 cx' := h3
          clear h3
          have h4 : (fun v x _ => v = .int .i64 (k : Int)) (x 4) x W := hd 4 (by decide)
          have e4 : x 4 = .int .i64 (k : Int) := h4
          clear h4
          have h5 : (fun v x _ => v = .int .i64 D) (x 5) x W := hd 5 (by decide)
          have e5 : x 5 = .int .i64 D := h5
          clear h5
          have h6 : (fun v x _ => v = .int .i64 W0) (x 6) x W := hd 6 (by decide)
          have e6 : x 6 = .int .i64 W0 := h6
          clear h6
          have h7 : (fun v x _ => v = .int .i64 W0) (x 7) x W := hd 7 (by decide)
          have e7 : x 7 = .int .i64 W0 := h7
          clear h7
          clear hd
          simp only [fillL, Nat.reduceAdd, Act.put, List.setIfInBounds_toArray, List.set_cons_zero, List.set_cons_succ, e0, e1, e2, e3, e4, e5, e6, e7]
          clear e0 e1 e2 e3 e4 e5 e6 e7
          have hc0 := (HK0.out _ hS).1
          have hc1g := HK1.out _ hS
          have hc3 := HK3.out _ hS
          have hown2 := own_only (lo := wr.heap.size) (hi := wr.heap.size) HOW.out (Below.only hS) (.inr (Nat.le_refl _))
          have hbel2 := HBT.out.trans (hS.mono HBT.out.size)
          have hsz2 := hbel2.size
          rcases hSV with ⟨v1, v2⟩ | ⟨v1, v2⟩
          all_goals
            subst v2
            go_wp2_with (at_builtin; refine wpList_push rfl _ _ _ rfl WA.heap.size 3 i0 _ 8 Try.underlying34 hi0 hz0 hz1 hz2 rfl (by omega) _ _ AA k cc _ rfl hown2 rfl rfl (by omega) (by omega) ?_; intro g' cap w5 hown5 hgrow5 hlies5 hlt5)
            have hbel5 := below_push hbel2 hown2 (Nat.le_refl _) (by omega) hgrow5
            go_roundw
            case rel => exact ⟨k + 1, cap, _, by omega, by go_num, rfl, by rw [take_snoc _ _ _ HSS.out, List.map_append]; exact hown5, hbel5⟩
            case measure => simp [intOf]; omega
      · have e : k = n' := by omega
        subst e
        have HF := hid (retI_of (w := w) (n := k) (own_base hown (show w.heap.size ≤ WA.heap.size by omega)) (HBW.out.trans (hbr.mono HBW.out.size)))
        rw [List.take_of_length_le (by rw [stepL_len, HL.out.2]; omega)] at HF
        clear hown hbr own1 b1 rW pW kW
        go_wp2
        go_ret
        exact HF.out
  · rw [powB_no hp] at hcv
    rw [stepI_no hp]
    have HCV := hid hcv
    have HBW := hid BW
    clear hcv hp h h' rW pW kW BW
    go_enter Try.func25, Try.ntmps25
    go_wp2_with fail
    simp only [← HW, ← hWs]
    clear HW
    refine HCV.out.mono ?_
    rintro e w1 ⟨rfl, hb⟩
    have b1 : Below WA.heap.size WA w1 := ((Below.refl WA.heap.size WA).alloc (Nat.le_refl _) (.cells #[] 3)).trans (hb.mono (by simp))
    have own1 : w1.ownsRow WA.heap.size 3 1 (.slice (some ⟨w.heap.size + 1, 0, none⟩) 0 0) 0 [] := by rw [← hWs]; exact own_only (lo := (WA.alloc (.cells #[] 3)).heap.size) (hi := (WA.alloc (.cells #[] 3)).heap.size) oZ (Below.only hb) (.inr (Nat.le_refl _))
    have HF := hid (retI_of (w := w) (n := 0) (xs := []) (own_base own1 (show w.heap.size ≤ WA.heap.size by omega)) (HBW.out.trans (b1.mono HBW.out.size)))
    clear hb own1 b1 oZ kZ
    go_wp2
    go_ret
    exact HF.out
end Go.Proofs.Ytajnpmnedghckaa
