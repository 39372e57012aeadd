/-
  The draw of links and powers, some of them the least, walked: DrawLinksMeet.
-/
import Derived.Test.YtajnpmnedghckaaDPow3
namespace Go.Proofs.Ytajnpmnedghckaa
open Go.RowKit
set_option linter.unusedVariables false

theorem OwnV.set3 {w : World} {t : TypeId} {lo hi n c b : Nat} {A : Option Addr} {vs : List Value} (h : OwnV w t lo hi A n c vs) (hb : b < lo) (u0 u1 u2 : Value) : OwnV (((w.setCell ⟨b, 0, none⟩ u0).setCell ⟨b, 1, none⟩ u1).setCell ⟨b, 2, none⟩ u2) t lo hi A n c vs := by
  have s1 : ∀ (W : World) (k : Nat) (u : Value), OwnV W t lo hi A n c vs → OwnV (W.setCell ⟨b, k, none⟩ u) t lo hi A n c vs := fun W k u h =>
    OwnV.only h (Only.setCell (p := ⟨b, k, none⟩) (Only.refl b (b + 1) W) (Nat.le_refl _) (Nat.lt_succ_self _) u) (.inr (by omega))
  exact s1 _ _ _ (s1 _ _ _ (s1 _ _ _ h))
set_option maxRecDepth 100000 in
set_option maxHeartbeats 3200000 in
theorem drawLinksMeet_any (A : Option Addr) (n c B : Nat) (bs : List Int) (w : World) (h : RB w B A n bs) (hB : B ≤ w.heap.size) (hc : n ≤ c) (hn : n ≤ 1048576) (hb : ∀ x ∈ bs, 0 ≤ x ∧ x ≤ 255) :
    Calls Try.prog 19 #[.slice A n c] w fun e w' => DrawnLI w e w' := by
  have hg : (w.alloc (.cells #[.slice none 0 0, .int .i64 0, .int .i64 0] 27)).heap.size = w.heap.size + 1 := by simp
  have ho := l20Open_any A n c B bs (w.alloc (.cells #[.slice none 0 0, .int .i64 0, .int .i64 0] 27)) (RV.alloc h hB _) (by omega) hc hn hb
  have kR := Blk.new w 27 #[.slice none 0 0, .int .i64 0, .int .i64 0]
  have BW := (Below.refl w.heap.size w).alloc (Nat.le_refl _) (.cells #[.slice none 0 0, .int .i64 0, .int .i64 0] 27)
  rw [hg] at ho
  clear hb h hg
  go_enter Try.func19, Try.ntmps19
  go_wp2_with fail
  refine ho.mono ?_
  rintro e w1 ⟨rfl, hr, hb1, hs1⟩
  have kR1 := Blk.below kR hb1 (Nat.lt_succ_self _)
  have hz1 := hb1.size
  have BW1 := BW.trans (hb1.mono (by simp))
  have hw1 : w.heap.size + 1 < w1.heap.size := hr.lt
  clear ho kR hb1 BW
  go_wp2_with fail
  refine (l20Links_any _ 0 12 _ hr (by omega) (by omega)).mono ?_
  rintro e w2 ⟨A2, n2, c2, rows, N, G, rfl, tab, hn2, ⟨q', _, hq', hr2⟩, ho2⟩
  have hz2 := ho2.size
  obtain ⟨X, hX⟩ : ∃ X, w2.heap.size = X := ⟨_, rfl⟩
  obtain ⟨W5, HW5⟩ : ∃ W : World, W = w2.alloc (.cells #[.slice A2 n2 c2, .int .i64 N, .int .i64 G] 27) := ⟨_, rfl⟩
  obtain ⟨H, hH⟩ : ∃ H, W5.heap.size = H := ⟨_, rfl⟩
  have hHX : H = X + 1 := by rw [← hH, HW5, ← hX]; simp
  have kR2 := Blk.only kR1 ho2 (by omega)
  have BW2 := BW1.trans (ho2.below (B := w.heap.size) (by omega) (by omega))
  have tab5 : OwnII W5 34 3 (w.heap.size + 2) H A2 n2 c2 rows := by rw [HW5]; exact OwnVV.more (OwnVV.alloc tab _) (by omega) (by omega)
  have kX5 : Blk W5 X 27 #[.slice A2 n2 c2, .int .i64 N, .int .i64 G] := by rw [HW5, ← hX]; exact Blk.new _ _ _
  have kR5 : Blk W5 w.heap.size 27 #[.slice none 0 0, .int .i64 0, .int .i64 0] := by rw [HW5]; exact Blk.alloc kR2 _
  have BW5 : Below w.heap.size w W5 := by rw [HW5]; exact BW2.alloc (by omega) _
  have hr5 : Rd W5 (w.heap.size + 1) q' := by rw [HW5]; exact hr2.alloc _
  clear kR1 kR2 tab ho2 hr hr2 BW1 BW2
  have hz5 := BW5.size
  go_wp2_with fail
  simp only [← HW5]
  clear HW5
  refine (pick_any _ q' 2 W5 hr5 (by omega)).mono ?_
  rintro e w6 ⟨kk, rfl, hkk, _, hr6, ho6, hs6⟩
  obtain ⟨kk0, kk1⟩ := hkk (by omega)
  have tab := tab5; have kX := kX5; have kR := kR5; have bel := BW5
  clear tab5 kX5 kR5 BW5 hr5 hkk
  have n_ := OwnVV.only tab ho6 (.inr (by omega)); clear tab; have tab := n_; clear n_
  have n_ := Blk.only kX ho6 (by omega); clear kX; have kX := n_; clear n_
  have n_ := Blk.only kR ho6 (by omega); clear kR; have kR := n_; clear n_
  have n_ := bel.trans (ho6.below (by omega) (by omega)); clear bel; have bel := n_; clear n_
  clear ho6
  have hz6 : w6.heap.size = H := by omega
  clear hs6
  rcases (show kk = 0 ∨ kk = 1 by omega) with rfl | rfl
  · obtain ⟨x0, x1, x2⟩ := blk3 kX
    obtain ⟨P, HP⟩ : ∃ P, Hid (leastL rows N G = P) := ⟨_, hid rfl⟩
    have HPB := hid (show ∀ k, k < P.length → 0 ≤ pw P k ∧ pw P k ≤ 10000 from by
      rw [← HP.out]
      by_cases h : LinksOk rows N G
      · exact fun k hk => (least_ok h).1.2.2 k hk
      · rw [leastL_no h]; intro k hk; simp at hk)
    have hPL : P.length ≤ 5 := by rw [← HP.out]; exact leastL_len _ _ _
    have hlp := leastPowers_spec A2 n2 c2 w6.heap.size rows N G w6 (RVV.more (OwnII.rii tab) (by omega)) (Nat.le_refl _) (by omega)
    rw [HP.out] at hlp
    have HLP := hid hlp
    clear hlp
    go_wp2_with fail
    refine HLP.out.mono ?_
    rintro e w7 ⟨A7, n7, c7, rfl, o7, hb7⟩
    have hz7 := hb7.size
    have hr7 := hr6.below hb7 (by omega)
    clear x0 x1 x2 hr6
    have n_ := OwnVV.below tab hb7 (by omega); clear tab; have tab := n_; clear n_
    have n_ := Blk.below kX hb7 (by omega); clear kX; have kX := n_; clear n_
    have n_ := Blk.below kR hb7 (by omega); clear kR; have kR := n_; clear n_
    have n_ := bel.trans (hb7.mono (by omega)); clear bel; have bel := n_; clear n_
    clear hb7
    have po : OwnI w7 3 w6.heap.size w7.heap.size A7 n7 c7 P := o7
    have hl7 := OwnI.len po
    clear o7 HLP
    by_cases hn7 : 0 < n7
    · go_wp2_with fail
      refine (pick_any _ (q' + 1) 3 w7 hr7 (by omega)).mono ?_
      rintro e w8 ⟨k3, rfl, hk3, _, hr8, ho8, hs8⟩
      have n_ := OwnV.only po ho8 (.inr (by omega)); clear po; have po : OwnI w8 _ _ _ _ _ _ P := n_; clear n_
      have n_ := OwnVV.only tab ho8 (.inr (by omega)); clear tab; have tab := n_; clear n_
      have n_ := Blk.only kX ho8 (by omega); clear kX; have kX := n_; clear n_
      have n_ := Blk.only kR ho8 (by omega); clear kR; have kR := n_; clear n_
      have n_ := bel.trans (ho8.below (by omega) (by omega)); clear bel; have bel := n_; clear n_
      clear ho8 hr7
      by_cases hk30 : k3 = 0
      · have hq : (k3 == 0) = true := by simp [hk30]
        clear hk30
        go_wp2_with fail
        refine (pick_any _ (q' + 2) (n7 : Int) w8 hr8 (by omega)).mono ?_
        rintro e w9 ⟨k9, rfl, hk9, _, hr9, ho9, hs9⟩
        obtain ⟨k90, k91⟩ := hk9 (by omega)
        obtain ⟨K9, rfl⟩ := Int.eq_ofNat_of_zero_le k90
        have n_ := OwnV.only po ho9 (.inr (by omega)); clear po; have po : OwnI w9 _ _ _ _ _ _ P := n_; clear n_
        have n_ := OwnVV.only tab ho9 (.inr (by omega)); clear tab; have tab := n_; clear n_
        have n_ := Blk.only kX ho9 (by omega); clear kX; have kX := n_; clear n_
        have n_ := Blk.only kR ho9 (by omega); clear kR; have kR := n_; clear n_
        have n_ := bel.trans (ho9.below (by omega) (by omega)); clear bel; have bel := n_; clear n_
        clear ho9 hr8 hr9 hk9
        have hK9 : K9 < n7 := by omega
        have q9 := RI.at_ (OwnI.ri po) hK9
        obtain ⟨b9, o9, x, rfl, hb9, hx, hcx⟩ := q9
        have hxb := HPB.out K9 (by omega)
        rw [pw_of hx] at hxb
        have r1 : IntKind.i64.wrap (x - 1) = x - 1 := IntWalk.i64_in _ (by omega)
        obtain ⟨m0, hm0⟩ : ∃ m0 : Int, m0 = max 0 (x - 1) := ⟨_, rfl⟩
        obtain ⟨gp, y, egp, g1, g2, g3, hy, hcy, hfy, hst⟩ := OwnI.stored po hK9 m0
        injection egp with egp
        injection egp with e1 e2
        subst e1 e2
        have hyx : x = y := by rw [hx] at hy; injection hy
        subst hyx
        clear hcx
        have d9 : Below w.heap.size w (w9.setCell ⟨b9, K9, none⟩ (.int .i64 m0)) := bel.setCell (p := ⟨b9, K9, none⟩) (show w.heap.size ≤ b9 by omega) _
        have kX9 := Blk.far kX (p := ⟨b9, K9, none⟩) (by show X ≠ b9; omega) (.int .i64 m0)
        have kR9' := Blk.far kR (p := ⟨b9, K9, none⟩) (by show w.heap.size ≠ b9; omega) (.int .i64 m0)
        have tab9 := OwnVV.only tab (Only.setCell (p := ⟨b9, K9, none⟩) (Only.refl b9 (b9 + 1) w9) (Nat.le_refl _) (Nat.lt_succ_self _) (.int .i64 m0)) (.inl (by omega))
        have hzz : (w9.setCell ⟨b9, K9, none⟩ (.int .i64 m0)).heap.size = w9.heap.size := by simp [World.setCell]
        clear tab kX kR bel po hx hy
        have hXb : X ≠ b9 := by omega
        have hRb : w.heap.size ≠ b9 := by omega
        rcases (show (x - 1 ≤ 0 ∧ m0 = 0) ∨ (0 < x - 1 ∧ m0 = x - 1) by omega) with ⟨hx1, hx2⟩ | ⟨hx1, hx2⟩
        · clear hm0
          subst hx2
          have HT := hid (And.intro tab9 (And.intro kX9 (And.intro kR9' (And.intro d9 hst))))
          clear tab9 kX9 kR9' d9 hst
          go_upto_region 8 with fail
          obtain ⟨W9, hW9⟩ : ∃ W : World, W = w9.setCell ⟨b9, K9, none⟩ (.int .i64 (0)) := ⟨_, rfl⟩
          obtain ⟨tab, kX, kR, bel, po⟩ := HT.out
          rw [← hW9] at tab kX kR bel po hzz ⊢
          clear hW9 HT hcy hfy
          obtain ⟨x0, x1, x2⟩ := blk3 kX
          obtain ⟨y0, y1, y2⟩ := blk3 kR
          have f0 := kR.frozen 0
          have f1 := kR.frozen 1
          have f2 := kR.frozen 2
          have kR9 := Blk.set3 kR (.slice A2 n2 c2) (.int .i64 N) (.int .i64 G)
          have HK9 := hid kR9
          have hXR : w.heap.size ≠ X := by omega
          have HF := hid (show DrawnLI w (.returned (.tuple #[.agg #[.slice A2 n2 c2, .int .i64 N, .int .i64 G], .slice (some ⟨b9, 0, none⟩) n7 c7])) (((W9.setCell ⟨w.heap.size, 0, none⟩ (.slice A2 n2 c2)).setCell ⟨w.heap.size, 1, none⟩ (.int .i64 N)).setCell ⟨w.heap.size, 2, none⟩ (.int .i64 G)) from
            ⟨A2, n2, c2, rows, N, G, (some ⟨b9, 0, none⟩), n7, c7, _, rfl, RVV.more (OwnII.rii (OwnVV.set3 (b := w.heap.size) tab (by omega) _ _ _)) (Nat.le_trans (show H ≤ W9.heap.size by omega) (Nat.le_of_eq (by simp [World.setCell]))), hn2, OwnI.ri (OwnV.more (OwnV.set3 (b := w.heap.size) po (by omega) (.slice A2 n2 c2) (.int .i64 N) (.int .i64 G)) (Nat.le_refl _) (Nat.le_trans (show w7.heap.size ≤ W9.heap.size by omega) (Nat.le_of_eq (by simp [World.setCell])))), by omega, Below.set3 bel (Nat.le_refl _) _ _ _⟩)
          clear tab kX kR bel po kR9 
          go_wp2
          obtain ⟨z0, z1, z2⟩ := blk3 HK9.out
          clear x0 x1 x2 y0 y1 y2 f0 f1 f2
          refine bodyPost_ret (v := .tuple #[.agg #[.slice A2 n2 c2, .int .i64 N, .int .i64 G], .slice (some ⟨b9, 0, none⟩) n7 c7]) (by rw [results_cell_tmp rfl]; go_simp) rfl HF.out
        · clear hm0
          subst hx2
          have HT := hid (And.intro tab9 (And.intro kX9 (And.intro kR9' (And.intro d9 hst))))
          clear tab9 kX9 kR9' d9 hst
          go_upto_region 8 with fail
          obtain ⟨W9, hW9⟩ : ∃ W : World, W = w9.setCell ⟨b9, K9, none⟩ (.int .i64 (x - 1)) := ⟨_, rfl⟩
          obtain ⟨tab, kX, kR, bel, po⟩ := HT.out
          rw [← hW9] at tab kX kR bel po hzz ⊢
          clear hW9 HT hcy hfy
          obtain ⟨x0, x1, x2⟩ := blk3 kX
          obtain ⟨y0, y1, y2⟩ := blk3 kR
          have f0 := kR.frozen 0
          have f1 := kR.frozen 1
          have f2 := kR.frozen 2
          have kR9 := Blk.set3 kR (.slice A2 n2 c2) (.int .i64 N) (.int .i64 G)
          have HK9 := hid kR9
          have hXR : w.heap.size ≠ X := by omega
          have HF := hid (show DrawnLI w (.returned (.tuple #[.agg #[.slice A2 n2 c2, .int .i64 N, .int .i64 G], .slice (some ⟨b9, 0, none⟩) n7 c7])) (((W9.setCell ⟨w.heap.size, 0, none⟩ (.slice A2 n2 c2)).setCell ⟨w.heap.size, 1, none⟩ (.int .i64 N)).setCell ⟨w.heap.size, 2, none⟩ (.int .i64 G)) from
            ⟨A2, n2, c2, rows, N, G, (some ⟨b9, 0, none⟩), n7, c7, _, rfl, RVV.more (OwnII.rii (OwnVV.set3 (b := w.heap.size) tab (by omega) _ _ _)) (Nat.le_trans (show H ≤ W9.heap.size by omega) (Nat.le_of_eq (by simp [World.setCell]))), hn2, OwnI.ri (OwnV.more (OwnV.set3 (b := w.heap.size) po (by omega) (.slice A2 n2 c2) (.int .i64 N) (.int .i64 G)) (Nat.le_refl _) (Nat.le_trans (show w7.heap.size ≤ W9.heap.size by omega) (Nat.le_of_eq (by simp [World.setCell])))), by omega, Below.set3 bel (Nat.le_refl _) _ _ _⟩)
          clear tab kX kR bel po kR9 
          go_wp2
          obtain ⟨z0, z1, z2⟩ := blk3 HK9.out
          clear x0 x1 x2 y0 y1 y2 f0 f1 f2
          refine bodyPost_ret (v := .tuple #[.agg #[.slice A2 n2 c2, .int .i64 N, .int .i64 G], .slice (some ⟨b9, 0, none⟩) n7 c7]) (by rw [results_cell_tmp rfl]; go_simp) rfl HF.out
      · have hq : (k3 == 0) = false := by simp [hk30]
        clear hk30
        obtain ⟨x0, x1, x2⟩ := blk3 kX
        obtain ⟨y0, y1, y2⟩ := blk3 kR
        have f0 := kR.frozen 0
        have f1 := kR.frozen 1
        have f2 := kR.frozen 2
        have kR9 := Blk.set3 kR (.slice A2 n2 c2) (.int .i64 N) (.int .i64 G)
        have HK9 := hid kR9
        have hXR : w.heap.size ≠ X := by omega
        have HF := hid (show DrawnLI w (.returned (.tuple #[.agg #[.slice A2 n2 c2, .int .i64 N, .int .i64 G], .slice A7 n7 c7])) (((w8.setCell ⟨w.heap.size, 0, none⟩ (.slice A2 n2 c2)).setCell ⟨w.heap.size, 1, none⟩ (.int .i64 N)).setCell ⟨w.heap.size, 2, none⟩ (.int .i64 G)) from
          ⟨A2, n2, c2, rows, N, G, A7, n7, c7, _, rfl, RVV.more (OwnII.rii (OwnVV.set3 (b := w.heap.size) tab (by omega) _ _ _)) (Nat.le_trans (show H ≤ w8.heap.size by omega) (Nat.le_of_eq (by simp [World.setCell]))), hn2, OwnI.ri (OwnV.more (OwnV.set3 (b := w.heap.size) po (by omega) (.slice A2 n2 c2) (.int .i64 N) (.int .i64 G)) (Nat.le_refl _) (Nat.le_trans (show w7.heap.size ≤ w8.heap.size by omega) (Nat.le_of_eq (by simp [World.setCell])))), by omega, Below.set3 bel (Nat.le_refl _) _ _ _⟩)
        clear tab kX kR bel po kR9 hr8
        go_wp2
        obtain ⟨z0, z1, z2⟩ := blk3 HK9.out
        clear x0 x1 x2 y0 y1 y2 f0 f1 f2
        refine bodyPost_ret (v := .tuple #[.agg #[.slice A2 n2 c2, .int .i64 N, .int .i64 G], .slice A7 n7 c7]) (by rw [results_cell_tmp rfl]; go_simp) rfl HF.out
    · have hn70 : n7 = 0 := by omega
      subst hn70
      obtain ⟨x0, x1, x2⟩ := blk3 kX
      obtain ⟨y0, y1, y2⟩ := blk3 kR
      have f0 := kR.frozen 0
      have f1 := kR.frozen 1
      have f2 := kR.frozen 2
      have kR9 := Blk.set3 kR (.slice A2 n2 c2) (.int .i64 N) (.int .i64 G)
      have HK9 := hid kR9
      have hXR : w.heap.size ≠ X := by omega
      have HF := hid (show DrawnLI w (.returned (.tuple #[.agg #[.slice A2 n2 c2, .int .i64 N, .int .i64 G], .slice A7 0 c7])) (((w7.setCell ⟨w.heap.size, 0, none⟩ (.slice A2 n2 c2)).setCell ⟨w.heap.size, 1, none⟩ (.int .i64 N)).setCell ⟨w.heap.size, 2, none⟩ (.int .i64 G)) from
        ⟨A2, n2, c2, rows, N, G, A7, 0, c7, _, rfl, RVV.more (OwnII.rii (OwnVV.set3 (b := w.heap.size) tab (by omega) _ _ _)) (Nat.le_trans (show H ≤ w7.heap.size by omega) (Nat.le_of_eq (by simp [World.setCell]))), hn2, OwnI.ri (OwnV.more (OwnV.set3 (b := w.heap.size) po (by omega) (.slice A2 n2 c2) (.int .i64 N) (.int .i64 G)) (Nat.le_refl _) (Nat.le_trans (show w7.heap.size ≤ w7.heap.size by omega) (Nat.le_of_eq (by simp [World.setCell])))), by omega, Below.set3 bel (Nat.le_refl _) _ _ _⟩)
      clear tab kX kR bel po kR9 hr7
      go_wp2
      obtain ⟨z0, z1, z2⟩ := blk3 HK9.out
      clear x0 x1 x2 y0 y1 y2 f0 f1 f2
      refine bodyPost_ret (v := .tuple #[.agg #[.slice A2 n2 c2, .int .i64 N, .int .i64 G], .slice A7 0 c7]) (by rw [results_cell_tmp rfl]; go_simp) rfl HF.out
  · have HS0 := hid (show PairS w (w.heap.size + 1) w.heap.size X (w.heap.size + 2) H A2 n2 c2 rows N G false false w6.drew from ⟨bel.drew, Nat.le_of_eq hz6.symm, tab, kX, ⟨_, _, _, kR⟩, fun _ => ⟨q' + 1, by omega, hr6⟩, fun h => (by cases h)⟩)
    clear tab kX kR bel hr6
    go_wp2_with fail
    refine wp_region_gL (by kernel_rfl) [[], [], [], [1, 2], [0, 3], [3]] (by kernel_rfl) 6 (by rfl) [some 44, some 45, some 46, some 47, none, some 3] (by rfl)
      [fun v x _ => v = .agg #[.slice A2 n2 c2, .int .i64 N, .int .i64 G],
       fun v x _ => v = .pointer (some ⟨w.heap.size + 1, 0, none⟩),
       fun v x _ => v = .agg #[.slice A2 n2 c2, .int .i64 N, .int .i64 G],
       fun v x w' => ∃ (A' : Option Addr) (n' c' : Nat) (xs : List Int), v = .slice A' n' c' ∧ OwnI w' 3 H w'.heap.size A' n' c' xs ∧ xs.length ≤ 11,
       fun v x _ => True,
       fun v x w' => ∃ (A' : Option Addr) (n' c' : Nat) (xs : List Int), v = .slice A' n' c' ∧ OwnI w' 3 H w'.heap.size A' n' c' xs ∧ xs.length ≤ 11]
      (fun L x w' => PairS w (w.heap.size + 1) w.heap.size X (w.heap.size + 2) H A2 n2 c2 rows N G (L 3) (L 4) w') (NewR H) (fun _ => NewR.refl _ _) (fun x => HS0.out) ?loc ?ob ?fin
    case loc =>
      refine ⟨⟨⟨⟨⟨⟨trivial, ?_⟩, ?_⟩, ?_⟩, ?_⟩, ?_⟩, ?_⟩
      · exact fun _ _ _ _ _ _ _ h => h
      · exact fun _ _ _ _ _ _ _ h => h
      · exact fun _ _ _ _ _ _ _ h => h
      · intro v x x' w w' hx hR h
        revert h
        show (fun v x w' => ∃ (A' : Option Addr) (n' c' : Nat) (xs : List Int), v = .slice A' n' c' ∧ OwnI w' 3 H w'.heap.size A' n' c' xs ∧ xs.length ≤ 11) v x w → (fun v x w' => ∃ (A' : Option Addr) (n' c' : Nat) (xs : List Int), v = .slice A' n' c' ∧ OwnI w' 3 H w'.heap.size A' n' c' xs ∧ xs.length ≤ 11) v x' w'
        intro h
        obtain ⟨A', n', c', xs, e, ho, hx⟩ := h; exact ⟨A', n', c', xs, e, OwnV.more (OwnV.keep ho hR.1 (fun k h1 _ h3 => hR.2 k h1 h3)) (Nat.le_refl _) hR.1, hx⟩
      · intro v x x' w w' hx hR h
        revert h
        show (fun v x _ => True) v x w → (fun v x _ => True) v x' w'
        intro h
        exact h
      · intro v x x' w w' hx hR h
        revert h
        show (fun v x w' => ∃ (A' : Option Addr) (n' c' : Nat) (xs : List Int), v = .slice A' n' c' ∧ OwnI w' 3 H w'.heap.size A' n' c' xs ∧ xs.length ≤ 11) v x w → (fun v x w' => ∃ (A' : Option Addr) (n' c' : Nat) (xs : List Int), v = .slice A' n' c' ∧ OwnI w' 3 H w'.heap.size A' n' c' xs ∧ xs.length ≤ 11) v x' w'
        intro h
        obtain ⟨A', n', c', xs, e, ho, hx⟩ := h; exact ⟨A', n', c', xs, e, OwnV.more (OwnV.keep ho hR.1 (fun k h1 _ h3 => hR.2 k h1 h3)) (Nat.le_refl _) hR.1, hx⟩
    case ob =>
      refine ⟨⟨⟨⟨⟨⟨trivial, ?_⟩, ?_⟩, ?_⟩, ?_⟩, ?_⟩, ?_⟩
      · intro L hL hLa hLc x W hS hd KO hK
        clear hd
        obtain ⟨x0, x1, x2⟩ := blk3 hS.2.2.2.1
        simp only [List.getD_cons_zero, fillL, Nat.reduceAdd, Act.put, List.setIfInBounds_toArray, List.set_cons_zero, List.set_cons_succ] at hK ⊢
        refine wpOp_plain rfl rfl ?_
        go_simp
        exact hK _ _ hS (NewR.refl _ _) rfl
      · intro L hL hLa hLc x W hS hd KO hK
        clear hd
        simp only [List.getD_cons_zero, List.getD_cons_succ, fillL, Nat.reduceAdd, Act.put, List.setIfInBounds_toArray, List.set_cons_zero, List.set_cons_succ] at hK ⊢
        refine wpOp_plain rfl rfl ?_
        go_simp
        exact hK _ _ hS (NewR.refl _ _) rfl
      · intro L hL hLa hLc x W hS hd KO hK
        clear hd
        obtain ⟨x0, x1, x2⟩ := blk3 hS.2.2.2.1
        simp only [List.getD_cons_zero, List.getD_cons_succ, fillL, Nat.reduceAdd, Act.put, List.setIfInBounds_toArray, List.set_cons_zero, List.set_cons_succ] at hK ⊢
        refine wpOp_plain rfl rfl ?_
        go_simp
        exact hK _ _ hS (NewR.refl _ _) rfl
      · intro L hL hLa hLc x W hS hd KO hK
        have h1 : (fun v x _ => v = .pointer (some ⟨w.heap.size + 1, 0, none⟩)) (x 1) x W := hd 1 (by decide)
        have e1 : x 1 = .pointer (some ⟨w.heap.size + 1, 0, none⟩) := h1
        clear h1
        have h2 : (fun v x _ => v = .agg #[.slice A2 n2 c2, .int .i64 N, .int .i64 G]) (x 2) x W := hd 2 (by decide)
        have e2 : x 2 = .agg #[.slice A2 n2 c2, .int .i64 N, .int .i64 G] := h2
        clear h2
        clear hd
        obtain ⟨s1, s2, s3, s4, ⟨r0, r1, r2, s5⟩, s6, s7⟩ := hS
        obtain ⟨qq, hqq, hrd⟩ := s6 hL
        have hl4 : L 4 = false := Bool.eq_false_iff.2 (fun h => absurd (hLc 4 3 h (by decide)) (by rw [hL]; simp))
        have HQ := hid (And.intro s1 (And.intro s3 (And.intro s4 s5)))
        clear s1 s3 s4 s5 s7
        simp only [List.getD_cons_zero, List.getD_cons_succ, fillL, Nat.reduceAdd, Act.put, List.setIfInBounds_toArray, List.set_cons_zero, List.set_cons_succ, e1, e2] at hK ⊢
        refine wpOp_plain rfl rfl ?_
        go_simp
        refine (l20Powers_any _ qq n2 c2 A2 N G W hrd (by omega) hn2).mono ?_
        rintro e W1 ⟨A1, n1, c1, xs, rfl, m1, hx, ⟨q1, _, _, _⟩, ho⟩
        have hz1 := ho.size
        have HM := hid (And.intro m1 ho)
        clear m1 ho
        go_wp2_with fail
        exact hK _ _ (show PairS w (w.heap.size + 1) w.heap.size X (w.heap.size + 2) H A2 n2 c2 rows N G true (L 4) W1 from ⟨HQ.out.1.trans (HM.out.2.below (by omega) (by have := HQ.out.1.size; omega)), by omega, OwnVV.only HQ.out.2.1 HM.out.2 (.inr (by omega)), Blk.only HQ.out.2.2.1 HM.out.2 (by omega), ⟨r0, r1, r2, Blk.only HQ.out.2.2.2 HM.out.2 (by omega)⟩, fun h => (by cases h), fun h => (by rw [hl4] at h; cases h)⟩) (NewR.only HM.out.2 (by omega)) ⟨A1, n1, c1, xs, rfl, OwnV.more (Mine.own HM.out.1) s2 (Nat.le_refl _), hx⟩
      · intro L hL hLa hLc x W hS hd KO hK
        have h0 : (fun v x _ => v = .agg #[.slice A2 n2 c2, .int .i64 N, .int .i64 G]) (x 0) x W := hd 0 (by decide)
        have e0 : x 0 = .agg #[.slice A2 n2 c2, .int .i64 N, .int .i64 G] := h0
        clear h0
        have h3 : (fun v x w' => ∃ (A' : Option Addr) (n' c' : Nat) (xs : List Int), v = .slice A' n' c' ∧ OwnI w' 3 H w'.heap.size A' n' c' xs ∧ xs.length ≤ 11) (x 3) x W := hd 3 (by decide)
        clear hd
        obtain ⟨s1, s2, s3, s4, ⟨r0, r1, r2, s5⟩, s6, s7⟩ := hS
        have hl3 : L 3 = true := hLa 3 (by decide)
        obtain ⟨y0, y1, y2⟩ := blk3 s5
        have f0 := s5.frozen 0
        have f1 := s5.frozen 1
        have f2 := s5.frozen 2
        have HQ := hid (And.intro s1 (And.intro s3 (And.intro s4 s5)))
        clear s1 s3 s4 s5 s6 s7
        simp only [List.getD_cons_zero, List.getD_cons_succ, fillL, Nat.reduceAdd, Act.put, List.setIfInBounds_toArray, List.set_cons_zero, List.set_cons_succ, e0] at hK ⊢
        refine wpOp_plain rfl rfl ?_
        go_simp
        exact hK undef _ (show PairS w (w.heap.size + 1) w.heap.size X (w.heap.size + 2) H A2 n2 c2 rows N G (L 3) true (((W.setCell ⟨w.heap.size, 0, none⟩ (.slice A2 n2 c2)).setCell ⟨w.heap.size, 1, none⟩ (.int .i64 N)).setCell ⟨w.heap.size, 2, none⟩ (.int .i64 G)) from ⟨Below.set3 HQ.out.1 (Nat.le_refl _) _ _ _, by simpa [World.setCell] using s2, OwnVV.set3 HQ.out.2.1 (by omega) _ _ _, Blk.far3 HQ.out.2.2.1 (by omega) _ _ _, ⟨_, _, _, Blk.set3 HQ.out.2.2.2 _ _ _⟩, fun h => (by rw [hl3] at h; cases h), fun _ => Blk.set3 HQ.out.2.2.2 _ _ _⟩) (NewR.set3 _ (by omega) _ _ _) trivial
      · intro L hL hLa hLc x W hS hd KO hK
        have h3 : (fun v x w' => ∃ (A' : Option Addr) (n' c' : Nat) (xs : List Int), v = .slice A' n' c' ∧ OwnI w' 3 H w'.heap.size A' n' c' xs ∧ xs.length ≤ 11) (x 3) x W := hd 3 (by decide)
        clear hd
        obtain ⟨A1, n1, c1, xs, e3, o3, hx⟩ := h3
        simp only [List.getD_cons_zero, List.getD_cons_succ, fillL, Nat.reduceAdd, Act.put, List.setIfInBounds_toArray, List.set_cons_zero, List.set_cons_succ, e3] at hK ⊢
        refine wpOp_plain rfl rfl ?_
        go_simp
        exact hK _ _ hS (NewR.refl _ _) ⟨A1, n1, c1, xs, rfl, o3, hx⟩
    case fin =>
      intro x W L hL hS hd
      have h0 : (fun v x _ => v = .agg #[.slice A2 n2 c2, .int .i64 N, .int .i64 G]) (x 0) x W := hd 0 (by decide)
      have e0 : x 0 = .agg #[.slice A2 n2 c2, .int .i64 N, .int .i64 G] := h0
      clear h0
      have h1 : (fun v x _ => v = .pointer (some ⟨w.heap.size + 1, 0, none⟩)) (x 1) x W := hd 1 (by decide)
      have e1 : x 1 = .pointer (some ⟨w.heap.size + 1, 0, none⟩) := h1
      clear h1
      have h2 : (fun v x _ => v = .agg #[.slice A2 n2 c2, .int .i64 N, .int .i64 G]) (x 2) x W := hd 2 (by decide)
      have e2 : x 2 = .agg #[.slice A2 n2 c2, .int .i64 N, .int .i64 G] := h2
      clear h2
      have h3 : (fun v x w' => ∃ (A' : Option Addr) (n' c' : Nat) (xs : List Int), v = .slice A' n' c' ∧ OwnI w' 3 H w'.heap.size A' n' c' xs ∧ xs.length ≤ 11) (x 3) x W := hd 3 (by decide)
      have h4 : (fun v x _ => True) (x 4) x W := hd 4 (by decide)
      have h5 : (fun v x w' => ∃ (A' : Option Addr) (n' c' : Nat) (xs : List Int), v = .slice A' n' c' ∧ OwnI w' 3 H w'.heap.size A' n' c' xs ∧ xs.length ≤ 11) (x 5) x W := hd 5 (by decide)
      clear hd
      simp only [fillL, Nat.reduceAdd, Act.put, List.setIfInBounds_toArray, List.set_cons_zero, List.set_cons_succ, e0, e1, e2]
      clear e0 e1 e2
      have hl4 := hL 4 (by omega)
      obtain ⟨s1, s2, s3, s4, _, _, s7⟩ := hS
      have kR9 := s7 hl4
      obtain ⟨A1, n1, c1, xs, e5, o5, hx⟩ := h5
      have HF := hid (show DrawnLI w (.returned (.tuple #[.agg #[.slice A2 n2 c2, .int .i64 N, .int .i64 G], .slice A1 n1 c1])) W from ⟨A2, n2, c2, rows, N, G, A1, n1, c1, xs, rfl, RVV.more (OwnII.rii s3) s2, hn2, OwnI.ri o5, by rw [← OwnI.len o5]; exact hx, s1⟩)
      simp only [e5]
      clear s1 s3 s4 s7 o5 HS0 h4
      obtain ⟨y0, y1, y2⟩ := blk3 kR9
      clear kR9
      go_wp2
      refine bodyPost_ret (v := .tuple #[.agg #[.slice A2 n2 c2, .int .i64 N, .int .i64 G], .slice A1 n1 c1]) (by rw [results_cell_tmp rfl]; go_simp) rfl HF.out
end Go.Proofs.Ytajnpmnedghckaa
