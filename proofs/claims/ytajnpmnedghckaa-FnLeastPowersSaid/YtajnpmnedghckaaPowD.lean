/-
  LinksMeet, the program's and the reference's, walked.
-/
import Derived.Test.YtajnpmnedghckaaPowC
namespace Go.Proofs.Ytajnpmnedghckaa
open Go.RowKit
set_option linter.unusedVariables false

set_option maxRecDepth 100000 in
set_option maxHeartbeats 1200000 in
theorem linksMeet_impl (A A' : Option Addr) (n n' cx cx' B : Nat) (rows : List (List Int)) (N G : Int) (ps : List Int) (w : World) (h : RII w B A n rows) (h' : RI w B A' n' ps) (hB : B ≤ w.heap.size) (hn : n ≤ 1000000000) (hn' : n' ≤ 1000000000) :
    Calls Try.prog 20 #[.agg #[.slice A n cx, .int .i64 N, .int .i64 G], .slice A' n' cx'] w fun e w' => e = .returned (.bool (meetB rows N G ps)) ∧ Below w.heap.size w w' := by
  have hlen : rows.length = n := RII.len h
  have hlen' : ps.length = n' := RI.len h'
  obtain ⟨W, HW⟩ : ∃ W : World, W = w.alloc (.cells #[.slice A n cx, .int .i64 N, .int .i64 G] 27) := ⟨_, rfl⟩
  have hWs : W.heap.size = w.heap.size + 1 := by rw [HW]; simp
  have rW : RII W B A n rows := by rw [HW]; exact RVV.alloc h hB _
  have pW : RI W B A' n' ps := by rw [HW]; exact RV.alloc h' hB _
  have kW : Blk W w.heap.size 27 #[.slice A n cx, .int .i64 N, .int .i64 G] := by rw [HW]; exact Blk.new _ _ _
  have BW : Below w.heap.size w W := by rw [HW]; exact (Below.refl w.heap.size w).alloc (Nat.le_refl _) _
  have hcv := powOk_impl A A' n n' cx cx' B rows N G ps W rW pW (by omega) hn hn'
  by_cases hp : PowOk rows N G ps
  · rw [powB_yes hp] at hcv
    have HCV := hid hcv
    have HO := hid hp
    have HL := hid (And.intro hlen hlen')
    have HWW := hid HW
    clear hcv hp h h' hlen hlen'
    go_enter Try.func20, Try.ntmps20
    go_wp2_with fail
    simp only [← HW]
    clear HW
    refine HCV.out.mono ?_
    rintro e w1 ⟨rfl, hb⟩
    have r1 : RII w1 B A n rows := RVV.below rW (hb.mono (by omega))
    have p1 : RI w1 B A' n' ps := RV.below pW (hb.mono (by omega))
    have k1 : Blk w1 w.heap.size 27 #[.slice A n cx, .int .i64 N, .int .i64 G] := Blk.below kW hb (by omega)
    have hs1 := hb.size
    have HB1 := hid (BW.trans (hb.mono BW.size))
    obtain ⟨c0, c1, c2⟩ := blk3 k1
    clear hb rW pW kW BW
    go_wp2
    go_loopw [14] (fun i wr => ∃ k : Nat, k ≤ n ∧ i = .int .i64 k ∧ Below w1.heap.size w1 wr ∧ Hid (∀ j, j < k → want rows N G ps j ≤ 10 * gn rows j j * pw ps j)) (fun i _ => n - (intOf i).toNat)
    case atStart => exact ⟨0, Nat.zero_le _, rfl, Below.refl _ _, hid (fun j hj => by omega)⟩
    case round =>
      obtain ⟨k, hk, rfl, hbr, HK⟩ := hrel
      have hnn : n' = n := by rw [← HL.out.1, ← HL.out.2]; exact HO.out.2.1
      subst hnn
      by_cases hlt : k < n'
      · have hszr := hbr.size
        have r2 : RII wr B A n' rows := RVV.below r1 (hbr.mono (by omega))
        have p2 : RI wr B A' n' ps := RV.below p1 (hbr.mono (by omega))
        have k2 : Blk wr w.heap.size 27 #[.slice A n' cx, .int .i64 N, .int .i64 G] := Blk.below k1 hbr (by omega)
        obtain ⟨d0, d1, d2⟩ := blk3 k2
        obtain ⟨b, o, A1, n1, c1', r, rfl, hb, hx, hcl, hr, hn1, hc1⟩ := RII.at_ r2 hlt
        have hn11 : n1 = n' := by rw [← RI.len hr, (HO.out.1.2.2.2.2.2.2 k r hx).1, HL.out.1]
        subst hn11
        obtain ⟨b3, o3, g, rfl, hb3, hg, hcg⟩ := RI.at_ hr hlt
        obtain ⟨b2, o2, p, rfl, hb2, hp, hcp⟩ := RI.at_ p2 hlt
        have hgk := gn_self HO.out.1 (show k < rows.length by rw [HL.out.1]; exact hlt)
        rw [gn_of hx hg] at hgk
        have hpk := HO.out.2.2 k (by rw [HL.out.2]; exact hlt)
        rw [pw_of hp] at hpk
        have HG := hid (And.intro (gn_of hx hg) (pw_of hp))
        have hm := mul_bd (show 0 ≤ 10 * g by omega) (show 10 * g ≤ 10000 by omega) hpk.1 hpk.2
        have e1 : IntKind.i64.wrap (10 * g) = 10 * g := IntWalk.i64_in _ (by omega)
        have e2 : IntKind.i64.wrap (10 * g * p) = 10 * g * p := IntWalk.i64_in _ (by omega)
        have HW0 := want_bd HO.out.1 (show k < rows.length by rw [HL.out.1]; exact hlt) (fun j hj => HO.out.2.2 j (by rw [HL.out.2]; rw [HL.out.1] at hj; exact hj)) HO.out.2.1
        obtain ⟨W0, hW0⟩ : ∃ W0, want rows N G ps k = W0 := ⟨_, rfl⟩
        rw [hW0] at HW0
        have HWK := hid hW0
        have HCW : Hid (∀ W', Below wr.heap.size wr W' → Calls Try.prog 44 #[.agg #[.slice (some ⟨b, o, none⟩) n1 cx, .int .i64 N, .int .i64 G], .slice (some ⟨b2, o2, none⟩) n1 cx', .int .i64 k] W' fun e w' => e = .returned (.int .i64 W0) ∧ Below W'.heap.size W' w') := hid (fun W' hb => by
          have := wantedAt_impl _ _ n1 n1 cx cx' wr.heap.size k rows N G ps W' (RVV.below (RVV.more r2 (by omega)) hb) (RV.below (RV.more p2 (by omega)) hb) hb.size HO.out hlt
          rw [hW0] at this
          exact this)
        have HK0 : Hid (∀ W', Below wr.heap.size wr W' → W'.cell? ⟨w.heap.size, 0, none⟩ = some (.slice (some ⟨b, o, none⟩) n1 cx) ∧ W'.cell? ⟨w.heap.size, 1, none⟩ = some (.int .i64 N) ∧ W'.cell? ⟨w.heap.size, 2, none⟩ = some (.int .i64 G)) := hid (fun W' h => blk3 (Blk.below k2 h (by omega)))
        have HK1 : Hid (∀ W', Below wr.heap.size wr W' → W'.cell? ⟨b3, o3 + k, none⟩ = some (.int .i64 g)) := hid (fun W' h => (bcell h).1 b3 _ (by omega) ▸ hcg)
        have HK2 : Hid (∀ W', Below wr.heap.size wr W' → W'.cell? ⟨b2, o2 + k, none⟩ = some (.int .i64 p)) := hid (fun W' h => (bcell h).1 b2 _ (by omega) ▸ hcp)
        have HK3 : Hid (∀ W', Below wr.heap.size wr W' → W'.cell? ⟨b, o + k, none⟩ = some (.slice (some ⟨b3, o3, none⟩) n1 c1')) := hid (fun W' h => (bcell h).1 b _ (by omega) ▸ hcl)
        have HBR := hid (HB1.out.trans (hbr.mono (by omega)))
        have HBT := hid hbr
        have hk0 : (0 : Int) ≤ (k : Int) := by omega
        have hkn : (k : Int) < (n1 : Int) := by omega
        obtain ⟨Z, HZ⟩ : ∃ Z, Hid (10 * g * p = Z) := ⟨_, hid rfl⟩
        rw [HZ.out] at e2 hm
        have e3 := HZ.out
        clear hx hg hp hcg hcp r2 p2 k2 hr hbr d1 d2
        go_wp2_with fail
        refine wp_region_g (by kernel_rfl) [[], [], [0, 1], [2], [3], [], [], [5, 6], [7], [4, 8], [], [], [], [10, 11, 12], [9, 13]] (by kernel_rfl) 15 (by rfl) [some 19, some 20, some 21, some 22, some 23, some 24, some 25, some 26, some 27, some 28, some 29, some 30, some 31, some 32, some 33] (by rfl)
          [fun v x _ => v = .slice (some ⟨b3, o3, none⟩) n1 c1',
           fun v x _ => v = .int .i64 (k : Int),
           fun v x _ => v = .pointer (some ⟨b3, o3 + k, none⟩),
           fun v x _ => v = .int .i64 g,
           fun v x _ => v = .int .i64 (10 * g),
           fun v x _ => v = .slice (some ⟨b2, o2, none⟩) n1 cx',
           fun v x _ => v = .int .i64 (k : Int),
           fun v x _ => v = .pointer (some ⟨b2, o2 + k, none⟩),
           fun v x _ => v = .int .i64 p,
           fun v x _ => v = .int .i64 Z,
           fun v x _ => v = .agg #[.slice (some ⟨b, o, none⟩) n1 cx, .int .i64 N, .int .i64 G],
           fun v x _ => v = .slice (some ⟨b2, o2, none⟩) n1 cx',
           fun v x _ => v = .int .i64 (k : Int),
           fun v x _ => v = .int .i64 W0,
           fun v x _ => v = .bool (decide (Z < W0))]
          (fun _ w' => Below wr.heap.size wr w') (fun w w' => Below w.heap.size w w') (fun _ => Below.refl _ _) ((Below.refl _ _).drew) ?loc ?ob ?fin
        case loc =>
          refine ⟨⟨⟨⟨⟨⟨⟨⟨⟨⟨⟨⟨⟨⟨⟨trivial, ?_⟩, ?_⟩, ?_⟩, ?_⟩, ?_⟩, ?_⟩, ?_⟩, ?_⟩, ?_⟩, ?_⟩, ?_⟩, ?_⟩, ?_⟩, ?_⟩, ?_⟩
          · exact fun _ _ _ _ _ _ _ h => h
          · exact fun _ _ _ _ _ _ _ h => h
          · exact fun _ _ _ _ _ _ _ h => h
          · exact fun _ _ _ _ _ _ _ h => h
          · exact fun _ _ _ _ _ _ _ h => h
          · exact fun _ _ _ _ _ _ _ h => h
          · exact fun _ _ _ _ _ _ _ h => h
          · exact fun _ _ _ _ _ _ _ h => h
          · exact fun _ _ _ _ _ _ _ h => h
          · exact fun _ _ _ _ _ _ _ h => h
          · exact fun _ _ _ _ _ _ _ h => h
          · exact fun _ _ _ _ _ _ _ h => h
          · exact fun _ _ _ _ _ _ _ h => h
          · exact fun _ _ _ _ _ _ _ h => h
          · exact fun _ _ _ _ _ _ _ h => h
        case ob =>
          refine ⟨⟨⟨⟨⟨⟨⟨⟨⟨⟨⟨⟨⟨⟨⟨trivial, ?_⟩, ?_⟩, ?_⟩, ?_⟩, ?_⟩, ?_⟩, ?_⟩, ?_⟩, ?_⟩, ?_⟩, ?_⟩, ?_⟩, ?_⟩, ?_⟩, ?_⟩
          · intro c hc x W hS hd KO hK
            clear hd
            simp only [List.getD_cons_zero, fillL, Nat.reduceAdd, Act.put, List.setIfInBounds_toArray, List.set_cons_zero, List.set_cons_succ] at hK ⊢
            refine wpOp_plain rfl rfl ?_
            go_simp
            exact hK _ _ hS (Below.refl _ _) rfl
          · intro c hc x W hS hd KO hK
            clear hd
            simp only [List.getD_cons_zero, List.getD_cons_succ, fillL, Nat.reduceAdd, Act.put, List.setIfInBounds_toArray, List.set_cons_zero, List.set_cons_succ] at hK ⊢
            refine wpOp_plain rfl rfl ?_
            go_simp
            exact hK _ _ hS (Below.refl _ _) rfl
          · intro c hc x W hS hd KO hK
            have h0 : (fun v x _ => v = .slice (some ⟨b3, o3, none⟩) n1 c1') (x 0) x W := hd 0 (by decide)
            have e0 : x 0 = .slice (some ⟨b3, o3, none⟩) n1 c1' := h0
            clear h0
            have h1 : (fun v x _ => v = .int .i64 (k : Int)) (x 1) x W := hd 1 (by decide)
            have e1 : x 1 = .int .i64 (k : Int) := h1
            clear h1
            clear hd
            simp only [List.getD_cons_zero, List.getD_cons_succ, fillL, Nat.reduceAdd, Act.put, List.setIfInBounds_toArray, List.set_cons_zero, List.set_cons_succ, e0, e1] at hK ⊢
            refine wpOp_plain rfl rfl ?_
            go_simp
            exact hK _ _ hS (Below.refl _ _) rfl
          · intro c hc x W hS hd KO hK
            have h2 : (fun v x _ => v = .pointer (some ⟨b3, o3 + k, none⟩)) (x 2) x W := hd 2 (by decide)
            have e2 : x 2 = .pointer (some ⟨b3, o3 + k, none⟩) := h2
            clear h2
            clear hd
            have hc := HK1.out _ hS
            simp only [List.getD_cons_zero, List.getD_cons_succ, fillL, Nat.reduceAdd, Act.put, List.setIfInBounds_toArray, List.set_cons_zero, List.set_cons_succ, e2] at hK ⊢
            refine wpOp_plain rfl rfl ?_
            go_simp
            exact hK _ _ hS (Below.refl _ _) rfl
          · intro c hc x W hS hd KO hK
            have h3 : (fun v x _ => v = .int .i64 g) (x 3) x W := hd 3 (by decide)
            have e3 : x 3 = .int .i64 g := h3
            clear h3
            clear hd
            simp only [List.getD_cons_zero, List.getD_cons_succ, fillL, Nat.reduceAdd, Act.put, List.setIfInBounds_toArray, List.set_cons_zero, List.set_cons_succ, e3] at hK ⊢
            refine wpOp_plain rfl rfl ?_
            go_simp
            exact hK _ _ hS (Below.refl _ _) rfl
          · intro c hc x W hS hd KO hK
            clear hd
            simp only [List.getD_cons_zero, List.getD_cons_succ, fillL, Nat.reduceAdd, Act.put, List.setIfInBounds_toArray, List.set_cons_zero, List.set_cons_succ] at hK ⊢
            refine wpOp_plain rfl rfl ?_
            go_simp
            exact hK _ _ hS (Below.refl _ _) rfl
          · intro c hc x W hS hd KO hK
            clear hd
            simp only [List.getD_cons_zero, List.getD_cons_succ, fillL, Nat.reduceAdd, Act.put, List.setIfInBounds_toArray, List.set_cons_zero, List.set_cons_succ] at hK ⊢
            refine wpOp_plain rfl rfl ?_
            go_simp
            exact hK _ _ hS (Below.refl _ _) rfl
          · intro c hc x W hS hd KO hK
            have h5 : (fun v x _ => v = .slice (some ⟨b2, o2, none⟩) n1 cx') (x 5) x W := hd 5 (by decide)
            have e5 : x 5 = .slice (some ⟨b2, o2, none⟩) n1 cx' := h5
            clear h5
            have h6 : (fun v x _ => v = .int .i64 (k : Int)) (x 6) x W := hd 6 (by decide)
            have e6 : x 6 = .int .i64 (k : Int) := h6
            clear h6
            clear hd
            simp only [List.getD_cons_zero, List.getD_cons_succ, fillL, Nat.reduceAdd, Act.put, List.setIfInBounds_toArray, List.set_cons_zero, List.set_cons_succ, e5, e6] at hK ⊢
            refine wpOp_plain rfl rfl ?_
            go_simp
            exact hK _ _ hS (Below.refl _ _) rfl
          · intro c hc x W hS hd KO hK
            have h7 : (fun v x _ => v = .pointer (some ⟨b2, o2 + k, none⟩)) (x 7) x W := hd 7 (by decide)
            have e7 : x 7 = .pointer (some ⟨b2, o2 + k, none⟩) := h7
            clear h7
            clear hd
            have hc := HK2.out _ hS
            simp only [List.getD_cons_zero, List.getD_cons_succ, fillL, Nat.reduceAdd, Act.put, List.setIfInBounds_toArray, List.set_cons_zero, List.set_cons_succ, e7] at hK ⊢
            refine wpOp_plain rfl rfl ?_
            go_simp
            exact hK _ _ hS (Below.refl _ _) rfl
          · intro c hc x W hS hd KO hK
            have h4 : (fun v x _ => v = .int .i64 (10 * g)) (x 4) x W := hd 4 (by decide)
            have e4 : x 4 = .int .i64 (10 * g) := h4
            clear h4
            have h8 : (fun v x _ => v = .int .i64 p) (x 8) x W := hd 8 (by decide)
            have e8 : x 8 = .int .i64 p := h8
            clear h8
            clear hd
            simp only [List.getD_cons_zero, List.getD_cons_succ, fillL, Nat.reduceAdd, Act.put, List.setIfInBounds_toArray, List.set_cons_zero, List.set_cons_succ, e4, e8] at hK ⊢
            refine wpOp_plain rfl rfl ?_
            go_simp
            exact hK _ _ hS (Below.refl _ _) rfl
          · intro c hc x W hS hd KO hK
            clear hd
            have hc0 := (HK0.out _ hS).1
            have hc1 := (HK0.out _ hS).2.1
            have hc2 := (HK0.out _ hS).2.2
            simp only [List.getD_cons_zero, List.getD_cons_succ, fillL, Nat.reduceAdd, Act.put, List.setIfInBounds_toArray, List.set_cons_zero, List.set_cons_succ] at hK ⊢
            refine wpOp_plain rfl rfl ?_
            go_simp
            exact hK _ _ hS (Below.refl _ _) rfl
          · intro c hc x W hS hd KO hK
            clear hd
            simp only [List.getD_cons_zero, List.getD_cons_succ, fillL, Nat.reduceAdd, Act.put, List.setIfInBounds_toArray, List.set_cons_zero, List.set_cons_succ] at hK ⊢
            refine wpOp_plain rfl rfl ?_
            go_simp
            exact hK _ _ hS (Below.refl _ _) rfl
          · intro c hc x W hS hd KO hK
            clear hd
            simp only [List.getD_cons_zero, List.getD_cons_succ, fillL, Nat.reduceAdd, Act.put, List.setIfInBounds_toArray, List.set_cons_zero, List.set_cons_succ] at hK ⊢
            refine wpOp_plain rfl rfl ?_
            go_simp
            exact hK _ _ hS (Below.refl _ _) rfl
          · intro c hc x W hS hd KO hK
            have h10 : (fun v x _ => v = .agg #[.slice (some ⟨b, o, none⟩) n1 cx, .int .i64 N, .int .i64 G]) (x 10) x W := hd 10 (by decide)
            have e10 : x 10 = .agg #[.slice (some ⟨b, o, none⟩) n1 cx, .int .i64 N, .int .i64 G] := h10
            clear h10
            have h11 : (fun v x _ => v = .slice (some ⟨b2, o2, none⟩) n1 cx') (x 11) x W := hd 11 (by decide)
            have e11 : x 11 = .slice (some ⟨b2, o2, none⟩) n1 cx' := h11
            clear h11
            have h12 : (fun v x _ => v = .int .i64 (k : Int)) (x 12) x W := hd 12 (by decide)
            have e12 : x 12 = .int .i64 (k : Int) := h12
            clear h12
            clear hd
            simp only [List.getD_cons_zero, List.getD_cons_succ, fillL, Nat.reduceAdd, Act.put, List.setIfInBounds_toArray, List.set_cons_zero, List.set_cons_succ, e10, e11, e12] at hK ⊢
            refine wpOp_plain rfl rfl ?_
            go_simp
            refine (HCW.out _ hS).mono ?_
            rintro e W1 ⟨rfl, hb1⟩
            go_wp2_with fail
            exact hK _ _ (hS.trans (hb1.mono hS.size)) hb1 rfl
          · intro c hc x W hS hd KO hK
            have h9 : (fun v x _ => v = .int .i64 Z) (x 9) x W := hd 9 (by decide)
            have e9 : x 9 = .int .i64 Z := h9
            clear h9
            have h13 : (fun v x _ => v = .int .i64 W0) (x 13) x W := hd 13 (by decide)
            have e13 : x 13 = .int .i64 W0 := h13
            clear h13
            clear hd
            simp only [List.getD_cons_zero, List.getD_cons_succ, fillL, Nat.reduceAdd, Act.put, List.setIfInBounds_toArray, List.set_cons_zero, List.set_cons_succ, e9, e13] at hK ⊢
            refine wpOp_plain rfl rfl ?_
            go_simp
            exact hK _ _ hS (Below.refl _ _) rfl
        case fin =>
          intro x W hS hd
          have h0 : (fun v x _ => v = .slice (some ⟨b3, o3, none⟩) n1 c1') (x 0) x W := hd 0 (by decide)
          have e0 : x 0 = .slice (some ⟨b3, o3, none⟩) n1 c1' := h0
          clear h0
          have h1 : (fun v x _ => v = .int .i64 (k : Int)) (x 1) x W := hd 1 (by decide)
          have e1 : x 1 = .int .i64 (k : Int) := h1
          clear h1
          have h2 : (fun v x _ => v = .pointer (some ⟨b3, o3 + k, none⟩)) (x 2) x W := hd 2 (by decide)
          have e2 : x 2 = .pointer (some ⟨b3, o3 + k, none⟩) := h2
          clear h2
          have h3 : (fun v x _ => v = .int .i64 g) (x 3) x W := hd 3 (by decide)
          have e3 : x 3 = .int .i64 g := h3
          clear h3
          have h4 : (fun v x _ => v = .int .i64 (10 * g)) (x 4) x W := hd 4 (by decide)
          have e4 : x 4 = .int .i64 (10 * g) := h4
          clear h4
          have h5 : (fun v x _ => v = .slice (some ⟨b2, o2, none⟩) n1 cx') (x 5) x W := hd 5 (by decide)
          have e5 : x 5 = .slice (some ⟨b2, o2, none⟩) n1 cx' := h5
          clear h5
          have h6 : (fun v x _ => v = .int .i64 (k : Int)) (x 6) x W := hd 6 (by decide)
          have e6 : x 6 = .int .i64 (k : Int) := h6
          clear h6
          have h7 : (fun v x _ => v = .pointer (some ⟨b2, o2 + k, none⟩)) (x 7) x W := hd 7 (by decide)
          have e7 : x 7 = .pointer (some ⟨b2, o2 + k, none⟩) := h7
          clear h7
          have h8 : (fun v x _ => v = .int .i64 p) (x 8) x W := hd 8 (by decide)
          have e8 : x 8 = .int .i64 p := h8
          clear h8
          have h9 : (fun v x _ => v = .int .i64 Z) (x 9) x W := hd 9 (by decide)
          have e9 : x 9 = .int .i64 Z := h9
          clear h9
          have h10 : (fun v x _ => v = .agg #[.slice (some ⟨b, o, none⟩) n1 cx, .int .i64 N, .int .i64 G]) (x 10) x W := hd 10 (by decide)
          have e10 : x 10 = .agg #[.slice (some ⟨b, o, none⟩) n1 cx, .int .i64 N, .int .i64 G] := h10
          clear h10
          have h11 : (fun v x _ => v = .slice (some ⟨b2, o2, none⟩) n1 cx') (x 11) x W := hd 11 (by decide)
          have e11 : x 11 = .slice (some ⟨b2, o2, none⟩) n1 cx' := h11
          clear h11
          have h12 : (fun v x _ => v = .int .i64 (k : Int)) (x 12) x W := hd 12 (by decide)
          have e12 : x 12 = .int .i64 (k : Int) := h12
          clear h12
          have h13 : (fun v x _ => v = .int .i64 W0) (x 13) x W := hd 13 (by decide)
          have e13 : x 13 = .int .i64 W0 := h13
          clear h13
          have h14 : (fun v x _ => v = .bool (decide (Z < W0))) (x 14) x W := hd 14 (by decide)
          have e14 : x 14 = .bool (decide (Z < W0)) := h14
          clear h14
          clear hd
          simp only [fillL, Nat.reduceAdd, Act.put, List.setIfInBounds_toArray, List.set_cons_zero, List.set_cons_succ, e0, e1, e2, e3, e4, e5, e6, e7, e8, e9, e10, e11, e12, e13, e14]
          clear e0 e1 e2 e3 e4 e5 e6 e7 e8 e9 e10 e11 e12 e13 e14
          by_cases hzw : Z < W0
          · have HV := hid (meetB_no (rows := rows) (N := N) (G := G) (ps := ps) (fun hh => by
              have := hh.2 k (by rw [HL.out.2]; exact hlt)
              rw [HWK.out, HG.out.1, HG.out.2, HZ.out] at this
              omega))
            have hd : decide (Z < W0) = true := decide_eq_true hzw
            simp only [hd]
            go_wp2
            go_ret
            exact ⟨ret_bool HV.out.symm, HBR.out.trans (hS.mono HBR.out.size)⟩
          · have hd : decide (Z < W0) = false := decide_eq_false hzw
            simp only [hd]
            go_wp2
            go_roundw
            case rel => exact ⟨k + 1, by omega, by go_num, HBT.out.trans (hS.mono HBT.out.size), hid (fun j hj => by
              by_cases hjk : j = k
              · subst hjk; rw [HWK.out, HG.out.1, HG.out.2, HZ.out]; omega
              · exact HK.out j (by omega))⟩
            case measure => simp [intOf]; omega
      · have hkn : k = n' := by omega
        subst hkn
        have HV := hid (meetB_yes (rows := rows) (N := N) (G := G) (ps := ps) ⟨HO.out, fun i hi => HK.out i (by rw [HL.out.2] at hi; exact hi)⟩)
        have HBR := hid (HB1.out.trans (hbr.mono (by omega)))
        clear hbr r1 p1 k1
        go_wp2
        go_ret
        exact ⟨ret_bool HV.out.symm, HBR.out⟩
  · rw [powB_no hp] at hcv
    have HCV := hid hcv
    have HV := hid (meetB_no (rows := rows) (N := N) (G := G) (ps := ps) (fun hh => hp hh.1))
    have HBW := hid BW
    clear hcv hp h h' rW pW kW BW
    go_enter Try.func20, Try.ntmps20
    go_wp2_with fail
    simp only [← HW]
    clear HW
    refine HCV.out.mono ?_
    rintro e w1 ⟨rfl, hb⟩
    have HB1 := hid (HBW.out.trans (hb.mono HBW.out.size))
    clear hb
    go_wp2
    go_ret
    exact ⟨ret_bool HV.out.symm, HB1.out⟩
set_option maxRecDepth 100000 in
set_option maxHeartbeats 1200000 in
theorem linksMeet_spec (A A' : Option Addr) (n n' cx cx' B : Nat) (rows : List (List Int)) (N G : Int) (ps : List Int) (w : World) (h : RII w B A n rows) (h' : RI w B A' n' ps) (hB : B ≤ w.heap.size) (hn : n ≤ 1000000000) (hn' : n' ≤ 1000000000) :
    Calls Try.prog 21 #[.agg #[.slice A n cx, .int .i64 N, .int .i64 G], .slice A' n' cx'] w fun e w' => e = .returned (.bool (meetB rows N G ps)) ∧ Below w.heap.size w w' := by
  have hlen : rows.length = n := RII.len h
  have hlen' : ps.length = n' := RI.len h'
  obtain ⟨W, HW⟩ : ∃ W : World, W = w.alloc (.cells #[.slice A n cx, .int .i64 N, .int .i64 G] 27) := ⟨_, rfl⟩
  have hWs : W.heap.size = w.heap.size + 1 := by rw [HW]; simp
  have rW : RII W B A n rows := by rw [HW]; exact RVV.alloc h hB _
  have pW : RI W B A' n' ps := by rw [HW]; exact RV.alloc h' hB _
  have kW : Blk W w.heap.size 27 #[.slice A n cx, .int .i64 N, .int .i64 G] := by rw [HW]; exact Blk.new _ _ _
  have BW : Below w.heap.size w W := by rw [HW]; exact (Below.refl w.heap.size w).alloc (Nat.le_refl _) _
  have hcv := powOk_spec A A' n n' cx cx' B rows N G ps W rW pW (by omega) hn hn'
  by_cases hp : PowOk rows N G ps
  · rw [powB_yes hp] at hcv
    have HCV := hid hcv
    have HO := hid hp
    have HL := hid (And.intro hlen hlen')
    have HWW := hid HW
    clear hcv hp h h' hlen hlen'
    go_enter Try.func21, Try.ntmps21
    go_wp2_with fail
    simp only [← HW]
    clear HW
    refine HCV.out.mono ?_
    rintro e w1 ⟨rfl, hb⟩
    have r1 : RII w1 B A n rows := RVV.below rW (hb.mono (by omega))
    have p1 : RI w1 B A' n' ps := RV.below pW (hb.mono (by omega))
    have k1 : Blk w1 w.heap.size 27 #[.slice A n cx, .int .i64 N, .int .i64 G] := Blk.below kW hb (by omega)
    have hs1 := hb.size
    have HB1 := hid (BW.trans (hb.mono BW.size))
    obtain ⟨c0, c1, c2⟩ := blk3 k1
    clear hb rW pW kW BW
    go_wp2
    go_loopw [5] (fun i wr => ∃ k : Nat, k ≤ n' ∧ i = .int .i64 k ∧ Below w1.heap.size w1 wr ∧ Hid (∀ j, j < k → want rows N G ps j ≤ 10 * gn rows j j * pw ps j)) (fun i _ => n' - (intOf i).toNat)
    case atStart => exact ⟨0, Nat.zero_le _, rfl, Below.refl _ _, hid (fun j hj => by omega)⟩
    case round =>
      obtain ⟨k, hk, rfl, hbr, HK⟩ := hrel
      have hnn : n' = n := by rw [← HL.out.1, ← HL.out.2]; exact HO.out.2.1
      subst hnn
      by_cases hlt : k < n'
      · have hszr := hbr.size
        have r2 : RII wr B A n' rows := RVV.below r1 (hbr.mono (by omega))
        have p2 : RI wr B A' n' ps := RV.below p1 (hbr.mono (by omega))
        have k2 : Blk wr w.heap.size 27 #[.slice A n' cx, .int .i64 N, .int .i64 G] := Blk.below k1 hbr (by omega)
        obtain ⟨d0, d1, d2⟩ := blk3 k2
        obtain ⟨b, o, A1, n1, c1', r, rfl, hb, hx, hcl, hr, hn1, hc1⟩ := RII.at_ r2 hlt
        have hn11 : n1 = n' := by rw [← RI.len hr, (HO.out.1.2.2.2.2.2.2 k r hx).1, HL.out.1]
        subst hn11
        obtain ⟨b3, o3, g, rfl, hb3, hg, hcg⟩ := RI.at_ hr hlt
        obtain ⟨b2, o2, p, rfl, hb2, hp, hcp⟩ := RI.at_ p2 hlt
        have hgk := gn_self HO.out.1 (show k < rows.length by rw [HL.out.1]; exact hlt)
        rw [gn_of hx hg] at hgk
        have hpk := HO.out.2.2 k (by rw [HL.out.2]; exact hlt)
        rw [pw_of hp] at hpk
        have HG := hid (And.intro (gn_of hx hg) (pw_of hp))
        have hm := mul_bd (show 0 ≤ 10 * g by omega) (show 10 * g ≤ 10000 by omega) hpk.1 hpk.2
        have e1 : IntKind.i64.wrap (10 * g) = 10 * g := IntWalk.i64_in _ (by omega)
        have e2 : IntKind.i64.wrap (10 * g * p) = 10 * g * p := IntWalk.i64_in _ (by omega)
        have HW0 := want_bd HO.out.1 (show k < rows.length by rw [HL.out.1]; exact hlt) (fun j hj => HO.out.2.2 j (by rw [HL.out.2]; rw [HL.out.1] at hj; exact hj)) HO.out.2.1
        obtain ⟨W0, hW0⟩ : ∃ W0, want rows N G ps k = W0 := ⟨_, rfl⟩
        rw [hW0] at HW0
        have HWK := hid hW0
        obtain ⟨D, hD⟩ : ∃ D, N + dsum rows ps k ps.length = D := ⟨_, rfl⟩
        have HCW : Hid (∀ W', Below wr.heap.size wr W' → Calls Try.prog 46 #[.agg #[.slice (some ⟨b, o, none⟩) n1 cx, .int .i64 N, .int .i64 G], .slice (some ⟨b2, o2, none⟩) n1 cx', .int .i64 k] W' fun e w' => e = .returned (.int .i64 D) ∧ Below W'.heap.size W' w') := hid (fun W' hb => by
          have := disturb_spec _ _ n1 n1 cx cx' wr.heap.size k rows N G ps W' (RVV.below (RVV.more r2 (by omega)) hb) (RV.below (RV.more p2 (by omega)) hb) hb.size HO.out hlt
          rw [hD] at this
          exact this)
        have e5 : G * D = W0 := by rw [← hD, ← hW0]; rfl
        have e6 : IntKind.i64.wrap W0 = W0 := IntWalk.i64_in _ (by omega)
        have HK0 : Hid (∀ W', Below wr.heap.size wr W' → W'.cell? ⟨w.heap.size, 0, none⟩ = some (.slice (some ⟨b, o, none⟩) n1 cx) ∧ W'.cell? ⟨w.heap.size, 1, none⟩ = some (.int .i64 N) ∧ W'.cell? ⟨w.heap.size, 2, none⟩ = some (.int .i64 G)) := hid (fun W' h => blk3 (Blk.below k2 h (by omega)))
        have HK1 : Hid (∀ W', Below wr.heap.size wr W' → W'.cell? ⟨b3, o3 + k, none⟩ = some (.int .i64 g)) := hid (fun W' h => (bcell h).1 b3 _ (by omega) ▸ hcg)
        have HK2 : Hid (∀ W', Below wr.heap.size wr W' → W'.cell? ⟨b2, o2 + k, none⟩ = some (.int .i64 p)) := hid (fun W' h => (bcell h).1 b2 _ (by omega) ▸ hcp)
        have HK3 : Hid (∀ W', Below wr.heap.size wr W' → W'.cell? ⟨b, o + k, none⟩ = some (.slice (some ⟨b3, o3, none⟩) n1 c1')) := hid (fun W' h => (bcell h).1 b _ (by omega) ▸ hcl)
        have HBR := hid (HB1.out.trans (hbr.mono (by omega)))
        have HBT := hid hbr
        have hk0 : (0 : Int) ≤ (k : Int) := by omega
        have hkn : (k : Int) < (n1 : Int) := by omega
        obtain ⟨Z, HZ⟩ : ∃ Z, Hid (10 * g * p = Z) := ⟨_, hid rfl⟩
        rw [HZ.out] at e2 hm
        have e3 := HZ.out
        clear hx hg hp hcg hcp r2 p2 k2 hr hbr d1 d2
        go_wp2_with fail
        refine wp_region_g (by kernel_rfl) [[], [0], [], [1, 2], [3], [], [4, 5], [6], [7], [], [], [9, 10], [11], [8, 12], [], [14], [], [], [], [16, 17, 18], [15, 19], [13, 20]] (by kernel_rfl) 22 (by rfl) [some 16, some 17, some 18, some 19, some 20, some 21, some 22, some 23, some 24, some 25, some 26, some 27, some 28, some 29, some 30, some 31, some 32, some 33, some 34, some 35, some 36, some 37] (by rfl)
          [fun v x _ => v = .pointer (some ⟨w.heap.size, 0, none⟩),
           fun v x _ => v = .slice (some ⟨b, o, none⟩) n1 cx,
           fun v x _ => v = .int .i64 (k : Int),
           fun v x _ => v = .pointer (some ⟨b, o + k, none⟩),
           fun v x _ => v = .slice (some ⟨b3, o3, none⟩) n1 c1',
           fun v x _ => v = .int .i64 (k : Int),
           fun v x _ => v = .pointer (some ⟨b3, o3 + k, none⟩),
           fun v x _ => v = .int .i64 g,
           fun v x _ => v = .int .i64 (10 * g),
           fun v x _ => v = .slice (some ⟨b2, o2, none⟩) n1 cx',
           fun v x _ => v = .int .i64 (k : Int),
           fun v x _ => v = .pointer (some ⟨b2, o2 + k, none⟩),
           fun v x _ => v = .int .i64 p,
           fun v x _ => v = .int .i64 Z,
           fun v x _ => v = .pointer (some ⟨w.heap.size, 2, none⟩),
           fun v x _ => v = .int .i64 G,
           fun v x _ => v = .agg #[.slice (some ⟨b, o, none⟩) n1 cx, .int .i64 N, .int .i64 G],
           fun v x _ => v = .slice (some ⟨b2, o2, none⟩) n1 cx',
           fun v x _ => v = .int .i64 (k : Int),
           fun v x _ => v = .int .i64 D,
           fun v x _ => v = .int .i64 W0,
           fun v x _ => v = .bool (decide (Z < W0))]
          (fun _ w' => Below wr.heap.size wr w') (fun w w' => Below w.heap.size w w') (fun _ => Below.refl _ _) ((Below.refl _ _).drew) ?loc ?ob ?fin
        case loc =>
          refine ⟨⟨⟨⟨⟨⟨⟨⟨⟨⟨⟨⟨⟨⟨⟨⟨⟨⟨⟨⟨⟨⟨trivial, ?_⟩, ?_⟩, ?_⟩, ?_⟩, ?_⟩, ?_⟩, ?_⟩, ?_⟩, ?_⟩, ?_⟩, ?_⟩, ?_⟩, ?_⟩, ?_⟩, ?_⟩, ?_⟩, ?_⟩, ?_⟩, ?_⟩, ?_⟩, ?_⟩, ?_⟩
          · exact fun _ _ _ _ _ _ _ h => h
          · exact fun _ _ _ _ _ _ _ h => h
          · exact fun _ _ _ _ _ _ _ h => h
          · exact fun _ _ _ _ _ _ _ h => h
          · exact fun _ _ _ _ _ _ _ h => h
          · exact fun _ _ _ _ _ _ _ h => h
          · exact fun _ _ _ _ _ _ _ h => h
          · exact fun _ _ _ _ _ _ _ h => h
          · exact fun _ _ _ _ _ _ _ h => h
          · exact fun _ _ _ _ _ _ _ h => h
          · exact fun _ _ _ _ _ _ _ h => h
          · exact fun _ _ _ _ _ _ _ h => h
          · exact fun _ _ _ _ _ _ _ h => h
          · exact fun _ _ _ _ _ _ _ h => h
          · exact fun _ _ _ _ _ _ _ h => h
          · exact fun _ _ _ _ _ _ _ h => h
          · exact fun _ _ _ _ _ _ _ h => h
          · exact fun _ _ _ _ _ _ _ h => h
          · exact fun _ _ _ _ _ _ _ h => h
          · exact fun _ _ _ _ _ _ _ h => h
          · exact fun _ _ _ _ _ _ _ h => h
          · exact fun _ _ _ _ _ _ _ h => h
        case ob =>
          refine ⟨⟨⟨⟨⟨⟨⟨⟨⟨⟨⟨⟨⟨⟨⟨⟨⟨⟨⟨⟨⟨⟨trivial, ?_⟩, ?_⟩, ?_⟩, ?_⟩, ?_⟩, ?_⟩, ?_⟩, ?_⟩, ?_⟩, ?_⟩, ?_⟩, ?_⟩, ?_⟩, ?_⟩, ?_⟩, ?_⟩, ?_⟩, ?_⟩, ?_⟩, ?_⟩, ?_⟩, ?_⟩
          · intro c hc x W hS hd KO hK
            clear hd
            simp only [List.getD_cons_zero, fillL, Nat.reduceAdd, Act.put, List.setIfInBounds_toArray, List.set_cons_zero, List.set_cons_succ] at hK ⊢
            refine wpOp_plain rfl rfl ?_
            go_simp
            exact hK _ _ hS (Below.refl _ _) rfl
          · intro c hc x W hS hd KO hK
            have h0 : (fun v x _ => v = .pointer (some ⟨w.heap.size, 0, none⟩)) (x 0) x W := hd 0 (by decide)
            have e0 : x 0 = .pointer (some ⟨w.heap.size, 0, none⟩) := h0
            clear h0
            clear hd
            have hc0 := (HK0.out _ hS).1
            have hc1 := (HK0.out _ hS).2.1
            have hc2 := (HK0.out _ hS).2.2
            simp only [List.getD_cons_zero, List.getD_cons_succ, fillL, Nat.reduceAdd, Act.put, List.setIfInBounds_toArray, List.set_cons_zero, List.set_cons_succ, e0] at hK ⊢
            refine wpOp_plain rfl rfl ?_
            go_simp
            exact hK _ _ hS (Below.refl _ _) rfl
          · intro c hc x W hS hd KO hK
            clear hd
            simp only [List.getD_cons_zero, List.getD_cons_succ, fillL, Nat.reduceAdd, Act.put, List.setIfInBounds_toArray, List.set_cons_zero, List.set_cons_succ] at hK ⊢
            refine wpOp_plain rfl rfl ?_
            go_simp
            exact hK _ _ hS (Below.refl _ _) rfl
          · intro c hc x W hS hd KO hK
            have h1 : (fun v x _ => v = .slice (some ⟨b, o, none⟩) n1 cx) (x 1) x W := hd 1 (by decide)
            have e1 : x 1 = .slice (some ⟨b, o, none⟩) n1 cx := h1
            clear h1
            have h2 : (fun v x _ => v = .int .i64 (k : Int)) (x 2) x W := hd 2 (by decide)
            have e2 : x 2 = .int .i64 (k : Int) := h2
            clear h2
            clear hd
            simp only [List.getD_cons_zero, List.getD_cons_succ, fillL, Nat.reduceAdd, Act.put, List.setIfInBounds_toArray, List.set_cons_zero, List.set_cons_succ, e1, e2] at hK ⊢
            refine wpOp_plain rfl rfl ?_
            go_simp
            exact hK _ _ hS (Below.refl _ _) rfl
          · intro c hc x W hS hd KO hK
            have h3 : (fun v x _ => v = .pointer (some ⟨b, o + k, none⟩)) (x 3) x W := hd 3 (by decide)
            have e3 : x 3 = .pointer (some ⟨b, o + k, none⟩) := h3
            clear h3
            clear hd
            have hc := HK3.out _ hS
            simp only [List.getD_cons_zero, List.getD_cons_succ, fillL, Nat.reduceAdd, Act.put, List.setIfInBounds_toArray, List.set_cons_zero, List.set_cons_succ, e3] at hK ⊢
            refine wpOp_plain rfl rfl ?_
            go_simp
            exact hK _ _ hS (Below.refl _ _) rfl
          · intro c hc x W hS hd KO hK
            clear hd
            simp only [List.getD_cons_zero, List.getD_cons_succ, fillL, Nat.reduceAdd, Act.put, List.setIfInBounds_toArray, List.set_cons_zero, List.set_cons_succ] at hK ⊢
            refine wpOp_plain rfl rfl ?_
            go_simp
            exact hK _ _ hS (Below.refl _ _) rfl
          · intro c hc x W hS hd KO hK
            have h4 : (fun v x _ => v = .slice (some ⟨b3, o3, none⟩) n1 c1') (x 4) x W := hd 4 (by decide)
            have e4 : x 4 = .slice (some ⟨b3, o3, none⟩) n1 c1' := h4
            clear h4
            have h5 : (fun v x _ => v = .int .i64 (k : Int)) (x 5) x W := hd 5 (by decide)
            have e5 : x 5 = .int .i64 (k : Int) := h5
            clear h5
            clear hd
            simp only [List.getD_cons_zero, List.getD_cons_succ, fillL, Nat.reduceAdd, Act.put, List.setIfInBounds_toArray, List.set_cons_zero, List.set_cons_succ, e4, e5] at hK ⊢
            refine wpOp_plain rfl rfl ?_
            go_simp
            exact hK _ _ hS (Below.refl _ _) rfl
          · intro c hc x W hS hd KO hK
            have h6 : (fun v x _ => v = .pointer (some ⟨b3, o3 + k, none⟩)) (x 6) x W := hd 6 (by decide)
            have e6 : x 6 = .pointer (some ⟨b3, o3 + k, none⟩) := h6
            clear h6
            clear hd
            have hc := HK1.out _ hS
            simp only [List.getD_cons_zero, List.getD_cons_succ, fillL, Nat.reduceAdd, Act.put, List.setIfInBounds_toArray, List.set_cons_zero, List.set_cons_succ, e6] at hK ⊢
            refine wpOp_plain rfl rfl ?_
            go_simp
            exact hK _ _ hS (Below.refl _ _) rfl
          · intro c hc x W hS hd KO hK
            have h7 : (fun v x _ => v = .int .i64 g) (x 7) x W := hd 7 (by decide)
            have e7 : x 7 = .int .i64 g := h7
            clear h7
            clear hd
            simp only [List.getD_cons_zero, List.getD_cons_succ, fillL, Nat.reduceAdd, Act.put, List.setIfInBounds_toArray, List.set_cons_zero, List.set_cons_succ, e7] at hK ⊢
            refine wpOp_plain rfl rfl ?_
            go_simp
            exact hK _ _ hS (Below.refl _ _) rfl
          · intro c hc x W hS hd KO hK
            clear hd
            simp only [List.getD_cons_zero, List.getD_cons_succ, fillL, Nat.reduceAdd, Act.put, List.setIfInBounds_toArray, List.set_cons_zero, List.set_cons_succ] at hK ⊢
            refine wpOp_plain rfl rfl ?_
            go_simp
            exact hK _ _ hS (Below.refl _ _) rfl
          · intro c hc x W hS hd KO hK
            clear hd
            simp only [List.getD_cons_zero, List.getD_cons_succ, fillL, Nat.reduceAdd, Act.put, List.setIfInBounds_toArray, List.set_cons_zero, List.set_cons_succ] at hK ⊢
            refine wpOp_plain rfl rfl ?_
            go_simp
            exact hK _ _ hS (Below.refl _ _) rfl
          · intro c hc x W hS hd KO hK
            have h9 : (fun v x _ => v = .slice (some ⟨b2, o2, none⟩) n1 cx') (x 9) x W := hd 9 (by decide)
            have e9 : x 9 = .slice (some ⟨b2, o2, none⟩) n1 cx' := h9
            clear h9
            have h10 : (fun v x _ => v = .int .i64 (k : Int)) (x 10) x W := hd 10 (by decide)
            have e10 : x 10 = .int .i64 (k : Int) := h10
            clear h10
            clear hd
            simp only [List.getD_cons_zero, List.getD_cons_succ, fillL, Nat.reduceAdd, Act.put, List.setIfInBounds_toArray, List.set_cons_zero, List.set_cons_succ, e9, e10] at hK ⊢
            refine wpOp_plain rfl rfl ?_
            go_simp
            exact hK _ _ hS (Below.refl _ _) rfl
          · intro c hc x W hS hd KO hK
            have h11 : (fun v x _ => v = .pointer (some ⟨b2, o2 + k, none⟩)) (x 11) x W := hd 11 (by decide)
            have e11 : x 11 = .pointer (some ⟨b2, o2 + k, none⟩) := h11
            clear h11
            clear hd
            have hc := HK2.out _ hS
            simp only [List.getD_cons_zero, List.getD_cons_succ, fillL, Nat.reduceAdd, Act.put, List.setIfInBounds_toArray, List.set_cons_zero, List.set_cons_succ, e11] at hK ⊢
            refine wpOp_plain rfl rfl ?_
            go_simp
            exact hK _ _ hS (Below.refl _ _) rfl
          · intro c hc x W hS hd KO hK
            have h8 : (fun v x _ => v = .int .i64 (10 * g)) (x 8) x W := hd 8 (by decide)
            have e8 : x 8 = .int .i64 (10 * g) := h8
            clear h8
            have h12 : (fun v x _ => v = .int .i64 p) (x 12) x W := hd 12 (by decide)
            have e12 : x 12 = .int .i64 p := h12
            clear h12
            clear hd
            simp only [List.getD_cons_zero, List.getD_cons_succ, fillL, Nat.reduceAdd, Act.put, List.setIfInBounds_toArray, List.set_cons_zero, List.set_cons_succ, e8, e12] at hK ⊢
            refine wpOp_plain rfl rfl ?_
            go_simp
            exact hK _ _ hS (Below.refl _ _) rfl
          · intro c hc x W hS hd KO hK
            clear hd
            simp only [List.getD_cons_zero, List.getD_cons_succ, fillL, Nat.reduceAdd, Act.put, List.setIfInBounds_toArray, List.set_cons_zero, List.set_cons_succ] at hK ⊢
            refine wpOp_plain rfl rfl ?_
            go_simp
            exact hK _ _ hS (Below.refl _ _) rfl
          · intro c hc x W hS hd KO hK
            have h14 : (fun v x _ => v = .pointer (some ⟨w.heap.size, 2, none⟩)) (x 14) x W := hd 14 (by decide)
            have e14 : x 14 = .pointer (some ⟨w.heap.size, 2, none⟩) := h14
            clear h14
            clear hd
            have hc0 := (HK0.out _ hS).1
            have hc1 := (HK0.out _ hS).2.1
            have hc2 := (HK0.out _ hS).2.2
            simp only [List.getD_cons_zero, List.getD_cons_succ, fillL, Nat.reduceAdd, Act.put, List.setIfInBounds_toArray, List.set_cons_zero, List.set_cons_succ, e14] at hK ⊢
            refine wpOp_plain rfl rfl ?_
            go_simp
            exact hK _ _ hS (Below.refl _ _) rfl
          · intro c hc x W hS hd KO hK
            clear hd
            have hc0 := (HK0.out _ hS).1
            have hc1 := (HK0.out _ hS).2.1
            have hc2 := (HK0.out _ hS).2.2
            simp only [List.getD_cons_zero, List.getD_cons_succ, fillL, Nat.reduceAdd, Act.put, List.setIfInBounds_toArray, List.set_cons_zero, List.set_cons_succ] at hK ⊢
            refine wpOp_plain rfl rfl ?_
            go_simp
            exact hK _ _ hS (Below.refl _ _) rfl
          · intro c hc x W hS hd KO hK
            clear hd
            simp only [List.getD_cons_zero, List.getD_cons_succ, fillL, Nat.reduceAdd, Act.put, List.setIfInBounds_toArray, List.set_cons_zero, List.set_cons_succ] at hK ⊢
            refine wpOp_plain rfl rfl ?_
            go_simp
            exact hK _ _ hS (Below.refl _ _) rfl
          · intro c hc x W hS hd KO hK
            clear hd
            simp only [List.getD_cons_zero, List.getD_cons_succ, fillL, Nat.reduceAdd, Act.put, List.setIfInBounds_toArray, List.set_cons_zero, List.set_cons_succ] at hK ⊢
            refine wpOp_plain rfl rfl ?_
            go_simp
            exact hK _ _ hS (Below.refl _ _) rfl
          · intro c hc x W hS hd KO hK
            have h16 : (fun v x _ => v = .agg #[.slice (some ⟨b, o, none⟩) n1 cx, .int .i64 N, .int .i64 G]) (x 16) x W := hd 16 (by decide)
            have e16 : x 16 = .agg #[.slice (some ⟨b, o, none⟩) n1 cx, .int .i64 N, .int .i64 G] := h16
            clear h16
            have h17 : (fun v x _ => v = .slice (some ⟨b2, o2, none⟩) n1 cx') (x 17) x W := hd 17 (by decide)
            have e17 : x 17 = .slice (some ⟨b2, o2, none⟩) n1 cx' := h17
            clear h17
            have h18 : (fun v x _ => v = .int .i64 (k : Int)) (x 18) x W := hd 18 (by decide)
            have e18 : x 18 = .int .i64 (k : Int) := h18
            clear h18
            clear hd
            simp only [List.getD_cons_zero, List.getD_cons_succ, fillL, Nat.reduceAdd, Act.put, List.setIfInBounds_toArray, List.set_cons_zero, List.set_cons_succ, e16, e17, e18] at hK ⊢
            refine wpOp_plain rfl rfl ?_
            go_simp
            refine (HCW.out _ hS).mono ?_
            rintro e W1 ⟨rfl, hb1⟩
            go_wp2_with fail
            exact hK _ _ (hS.trans (hb1.mono hS.size)) hb1 rfl
          · intro c hc x W hS hd KO hK
            have h15 : (fun v x _ => v = .int .i64 G) (x 15) x W := hd 15 (by decide)
            have e15 : x 15 = .int .i64 G := h15
            clear h15
            have h19 : (fun v x _ => v = .int .i64 D) (x 19) x W := hd 19 (by decide)
            have e19 : x 19 = .int .i64 D := h19
            clear h19
            clear hd
            simp only [List.getD_cons_zero, List.getD_cons_succ, fillL, Nat.reduceAdd, Act.put, List.setIfInBounds_toArray, List.set_cons_zero, List.set_cons_succ, e15, e19] at hK ⊢
            refine wpOp_plain rfl rfl ?_
            go_simp
            exact hK _ _ hS (Below.refl _ _) rfl
          · intro c hc x W hS hd KO hK
            have h13 : (fun v x _ => v = .int .i64 Z) (x 13) x W := hd 13 (by decide)
            have e13 : x 13 = .int .i64 Z := h13
            clear h13
            have h20 : (fun v x _ => v = .int .i64 W0) (x 20) x W := hd 20 (by decide)
            have e20 : x 20 = .int .i64 W0 := h20
            clear h20
            clear hd
            simp only [List.getD_cons_zero, List.getD_cons_succ, fillL, Nat.reduceAdd, Act.put, List.setIfInBounds_toArray, List.set_cons_zero, List.set_cons_succ, e13, e20] at hK ⊢
            refine wpOp_plain rfl rfl ?_
            go_simp
            exact hK _ _ hS (Below.refl _ _) rfl
        case fin =>
          intro x W hS hd
          have h0 : (fun v x _ => v = .pointer (some ⟨w.heap.size, 0, none⟩)) (x 0) x W := hd 0 (by decide)
          have e0 : x 0 = .pointer (some ⟨w.heap.size, 0, none⟩) := h0
          clear h0
          have h1 : (fun v x _ => v = .slice (some ⟨b, o, none⟩) n1 cx) (x 1) x W := hd 1 (by decide)
          have e1 : x 1 = .slice (some ⟨b, o, none⟩) n1 cx := h1
          clear h1
          have h2 : (fun v x _ => v = .int .i64 (k : Int)) (x 2) x W := hd 2 (by decide)
          have e2 : x 2 = .int .i64 (k : Int) := h2
          clear h2
          have h3 : (fun v x _ => v = .pointer (some ⟨b, o + k, none⟩)) (x 3) x W := hd 3 (by decide)
          have e3 : x 3 = .pointer (some ⟨b, o + k, none⟩) := h3
          clear h3
          have h4 : (fun v x _ => v = .slice (some ⟨b3, o3, none⟩) n1 c1') (x 4) x W := hd 4 (by decide)
          have e4 : x 4 = .slice (some ⟨b3, o3, none⟩) n1 c1' := h4
          clear h4
          have h5 : (fun v x _ => v = .int .i64 (k : Int)) (x 5) x W := hd 5 (by decide)
          have e5 : x 5 = .int .i64 (k : Int) := h5
          clear h5
          have h6 : (fun v x _ => v = .pointer (some ⟨b3, o3 + k, none⟩)) (x 6) x W := hd 6 (by decide)
          have e6 : x 6 = .pointer (some ⟨b3, o3 + k, none⟩) := h6
          clear h6
          have h7 : (fun v x _ => v = .int .i64 g) (x 7) x W := hd 7 (by decide)
          have e7 : x 7 = .int .i64 g := h7
          clear h7
          have h8 : (fun v x _ => v = .int .i64 (10 * g)) (x 8) x W := hd 8 (by decide)
          have e8 : x 8 = .int .i64 (10 * g) := h8
          clear h8
          have h9 : (fun v x _ => v = .slice (some ⟨b2, o2, none⟩) n1 cx') (x 9) x W := hd 9 (by decide)
          have e9 : x 9 = .slice (some ⟨b2, o2, none⟩) n1 cx' := h9
          clear h9
          have h10 : (fun v x _ => v = .int .i64 (k : Int)) (x 10) x W := hd 10 (by decide)
          have e10 : x 10 = .int .i64 (k : Int) := h10
          clear h10
          have h11 : (fun v x _ => v = .pointer (some ⟨b2, o2 + k, none⟩)) (x 11) x W := hd 11 (by decide)
          have e11 : x 11 = .pointer (some ⟨b2, o2 + k, none⟩) := h11
          clear h11
          have h12 : (fun v x _ => v = .int .i64 p) (x 12) x W := hd 12 (by decide)
          have e12 : x 12 = .int .i64 p := h12
          clear h12
          have h13 : (fun v x _ => v = .int .i64 Z) (x 13) x W := hd 13 (by decide)
          have e13 : x 13 = .int .i64 Z := h13
          clear h13
          have h14 : (fun v x _ => v = .pointer (some ⟨w.heap.size, 2, none⟩)) (x 14) x W := hd 14 (by decide)
          have e14 : x 14 = .pointer (some ⟨w.heap.size, 2, none⟩) := h14
          clear h14
          have h15 : (fun v x _ => v = .int .i64 G) (x 15) x W := hd 15 (by decide)
          have e15 : x 15 = .int .i64 G := h15
          clear h15
          have h16 : (fun v x _ => v = .agg #[.slice (some ⟨b, o, none⟩) n1 cx, .int .i64 N, .int .i64 G]) (x 16) x W := hd 16 (by decide)
          have e16 : x 16 = .agg #[.slice (some ⟨b, o, none⟩) n1 cx, .int .i64 N, .int .i64 G] := h16
          clear h16
          have h17 : (fun v x _ => v = .slice (some ⟨b2, o2, none⟩) n1 cx') (x 17) x W := hd 17 (by decide)
          have e17 : x 17 = .slice (some ⟨b2, o2, none⟩) n1 cx' := h17
          clear h17
          have h18 : (fun v x _ => v = .int .i64 (k : Int)) (x 18) x W := hd 18 (by decide)
          have e18 : x 18 = .int .i64 (k : Int) := h18
          clear h18
          have h19 : (fun v x _ => v = .int .i64 D) (x 19) x W := hd 19 (by decide)
          have e19 : x 19 = .int .i64 D := h19
          clear h19
          have h20 : (fun v x _ => v = .int .i64 W0) (x 20) x W := hd 20 (by decide)
          have e20 : x 20 = .int .i64 W0 := h20
          clear h20
          have h21 : (fun v x _ => v = .bool (decide (Z < W0))) (x 21) x W := hd 21 (by decide)
          have e21 : x 21 = .bool (decide (Z < W0)) := h21
          clear h21
          clear hd
          simp only [fillL, Nat.reduceAdd, Act.put, List.setIfInBounds_toArray, List.set_cons_zero, List.set_cons_succ, e0, e1, e2, e3, e4, e5, e6, e7, e8, e9, e10, e11, e12, e13, e14, e15, e16, e17, e18, e19, e20, e21]
          clear e0 e1 e2 e3 e4 e5 e6 e7 e8 e9 e10 e11 e12 e13 e14 e15 e16 e17 e18 e19 e20 e21
          by_cases hzw : Z < W0
          · have HV := hid (meetB_no (rows := rows) (N := N) (G := G) (ps := ps) (fun hh => by
              have := hh.2 k (by rw [HL.out.2]; exact hlt)
              rw [HWK.out, HG.out.1, HG.out.2, HZ.out] at this
              omega))
            have hd : decide (Z < W0) = true := decide_eq_true hzw
            simp only [hd]
            go_wp2
            go_ret
            exact ⟨ret_bool HV.out.symm, HBR.out.trans (hS.mono HBR.out.size)⟩
          · have hd : decide (Z < W0) = false := decide_eq_false hzw
            simp only [hd]
            go_wp2
            go_roundw
            case rel => exact ⟨k + 1, by omega, by go_num, HBT.out.trans (hS.mono HBT.out.size), hid (fun j hj => by
              by_cases hjk : j = k
              · subst hjk; rw [HWK.out, HG.out.1, HG.out.2, HZ.out]; omega
              · exact HK.out j (by omega))⟩
            case measure => simp [intOf]; omega
      · have hkn : k = n' := by omega
        subst hkn
        have HV := hid (meetB_yes (rows := rows) (N := N) (G := G) (ps := ps) ⟨HO.out, fun i hi => HK.out i (by rw [HL.out.2] at hi; exact hi)⟩)
        have HBR := hid (HB1.out.trans (hbr.mono (by omega)))
        clear hbr r1 p1 k1
        go_wp2
        go_ret
        exact ⟨ret_bool HV.out.symm, HBR.out⟩
  · rw [powB_no hp] at hcv
    have HCV := hid hcv
    have HV := hid (meetB_no (rows := rows) (N := N) (G := G) (ps := ps) (fun hh => hp hh.1))
    have HBW := hid BW
    clear hcv hp h h' rW pW kW BW
    go_enter Try.func21, Try.ntmps21
    go_wp2_with fail
    simp only [← HW]
    clear HW
    refine HCV.out.mono ?_
    rintro e w1 ⟨rfl, hb⟩
    have HB1 := hid (HBW.out.trans (hb.mono HBW.out.size))
    clear hb
    go_wp2
    go_ret
    exact ⟨ret_bool HV.out.symm, HB1.out⟩
end Go.Proofs.Ytajnpmnedghckaa
