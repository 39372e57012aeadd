/-
  The draws of the spreading's laws, walked: l20Fixed, l20Chips, DrawAddChips, DrawDespreadSums, DrawDespreadBits.
-/
import Derived.Test.YtgkkanamnhochaaDr
import Derived.Test.YtgkkanamnhochaaSpreadS
import Derived.Test.YtgkkanamnhochaaAdd
namespace Go.Proofs.Ytgkkanamnhochaa
open Go.RowKit
set_option linter.unusedVariables false

set_option maxHeartbeats 1600000 in
theorem l20Fixed_any (g q N : Nat) (bad : Int) (w : World) (h : Rd w g q) (hq : q ≤ 10000000) (hN : N ≤ 1000) (hb : bad ≤ 1000000) :
    Calls Try.prog 43 #[.pointer (some ⟨g, 0, none⟩), .int .i64 (N : Int), .int .i64 bad] w fun e w' => GivesI (fun xs => xs.length ≤ N + 1) 10000 g q w e w' := by
  obtain ⟨i0, hi0, hz0, hz1, hz2⟩ := info_parts infoDr
  have hg := h.lt
  go_enter Try.func43, Try.ntmps43
  go_wp2
  go_loopw [7, 8] (fun v k wr => ∃ (j cc : Nat) (AA : Option Addr) (ys : List Int), j ≤ N ∧ k = .int .i64 j ∧ v = .slice AA j cc ∧ Mine wr w.heap.size AA j cc ys ∧ DS w wr g (q + j)) (fun _ k _ => N - (intOf k).toNat)
  case atStart => exact ⟨0, 0, _, [], Nat.zero_le _, rfl, rfl, mine_lit0 w (Nat.le_refl _), (DS.start h).alloc _⟩
  case round =>
    obtain ⟨j, cc, AA, ys, hj, rfl, rfl, m0, ds0⟩ := hrel
    have zds0 := ds0.size
    by_cases hlt : j < N
    · skip
      go_wp2_with fail
      refine (ds_pick 2 (ds0) (by omega)).mono ?_
      rintro e u1 ⟨k, rfl, hk_, du1, ho_, hs_⟩
      obtain ⟨k0, k1⟩ := hk_ (by omega)
      have nm0_ := Mine.only (m0) ho_ (by omega)
      clear m0; have m0 := nm0_; clear nm0_
      have zdu1 := du1.size
      clear hk_ ho_ hs_ ds0
      go_wp2_with (at_builtin; refine wpList_push rfl _ _ _ rfl w.heap.size 3 i0 _ 8 Try.underlying22 hi0 hz0 hz1 hz2 rfl (by omega) _ _ AA j cc _ rfl m0 rfl rfl (by omega) (by omega) ?_; intro g_u2 cap_u2 u2 hown_ hgrow_ hlies_ hlt_)
      have du2 := du1.grown m0 hgrow_ (by omega) (by omega) (by omega)
      have nm0_ : Mine u2 w.heap.size (some ⟨g_u2, 0, none⟩) (j + 1) cap_u2 (ys ++ [k]) := by unfold Mine; rw [List.map_append]; exact hown_
      clear m0 hown_ hgrow_ hlies_ du1; have m0 := nm0_; clear nm0_
      have zdu2 := du2.size
      go_roundw
      case rel => exact ⟨j + 1, cap_u2, _, ys ++ [k], by omega, by go_num, rfl, m0, du2⟩
      case measure => simp [intOf]; omega
    · have e : j = N := by omega
      subst e
      clear hlt
      go_wp2_with fail
      refine (ds_odd bad (ds0) (by omega) (by omega)).mono ?_
      rintro e u3 ⟨bu3, rfl, ⟨qu3, qu3l, qu3u, du3⟩, ho_, hs_⟩
      have nm0_ := Mine.only (m0) ho_ (by omega)
      clear m0; have m0 := nm0_; clear nm0_
      have zdu3 := du3.size
      clear ho_ hs_ ds0
      cases bu3
      · go_wp2
        go_ret
        exact ⟨_, j, cc, ys, rfl, m0, by have := m0.len; omega, ⟨qu3, by omega, by omega, du3.rd⟩, du3.only⟩
      · rcases Nat.eq_zero_or_pos j with hz | hpos
        · subst hz
          go_wp2_with (at_builtin; refine wpList_push rfl _ _ _ rfl w.heap.size 3 i0 _ 8 Try.underlying22 hi0 hz0 hz1 hz2 rfl (by omega) _ _ AA 0 cc _ rfl m0 rfl rfl (by omega) (by omega) ?_; intro g_u4 cap_u4 u4 hown_ hgrow_ hlies_ hlt_)
          have du4 := du3.grown m0 hgrow_ (by omega) (by omega) (by omega)
          have nm0_ : Mine u4 w.heap.size (some ⟨g_u4, 0, none⟩) (0 + 1) cap_u4 (ys ++ [0]) := by unfold Mine; rw [List.map_append]; exact hown_
          clear m0 hown_ hgrow_ hlies_ du3; have m0 := nm0_; clear nm0_
          have zdu4 := du4.size
          go_ret
          exact ⟨_, 1, cap_u4, ys ++ [0], rfl, m0, by have := m0.len; omega, ⟨qu3, by omega, by omega, du4.rd⟩, du4.only⟩
        · have hpos' : (0 : Int) < (j : Int) := by omega
          go_wp2_with fail
          refine (ds_pick 2 (du3) (by omega)).mono ?_
          rintro e u5 ⟨k, rfl, hk_, du5, ho_, hs_⟩
          obtain ⟨k0, k1⟩ := hk_ (by omega)
          have nm0_ := Mine.only (m0) ho_ (by omega)
          clear m0; have m0 := nm0_; clear nm0_
          have zdu5 := du5.size
          clear hk_ ho_ hs_ du3
          by_cases hk : k = 0
          · subst hk
            obtain ⟨b, y, rfl, hb1, hb2, hy, hcy, hfr, m1⟩ := m0.stored hpos 2
            have HY := hid hy
            clear hy m0
            have ds1 := du5.stored (b := b) (k := 0) (by omega) (by omega) (.int .i64 2)
            go_wp2
            go_ret
            exact ⟨_, j, cc, ys.set 0 2, rfl, m1, by have := m1.len; omega, ⟨(qu3 + 1), by omega, by omega, ds1.rd⟩, ds1.only⟩
          · have hkb : (k == 0) = false := by simpa using hk
            go_wp2_with (at_builtin; refine wpList_push rfl _ _ _ rfl w.heap.size 3 i0 _ 8 Try.underlying22 hi0 hz0 hz1 hz2 rfl (by omega) _ _ AA j cc _ rfl m0 rfl rfl (by omega) (by omega) ?_; intro g_u6 cap_u6 u6 hown_ hgrow_ hlies_ hlt_)
            have du6 := du5.grown m0 hgrow_ (by omega) (by omega) (by omega)
            have nm0_ : Mine u6 w.heap.size (some ⟨g_u6, 0, none⟩) (j + 1) cap_u6 (ys ++ [0]) := by unfold Mine; rw [List.map_append]; exact hown_
            clear m0 hown_ hgrow_ hlies_ du5; have m0 := nm0_; clear nm0_
            have zdu6 := du6.size
            go_ret
            exact ⟨_, (j + 1), cap_u6, ys ++ [0], rfl, m0, by have := m0.len; omega, ⟨(qu3 + 1), by omega, by omega, du6.rd⟩, du6.only⟩

/-- What a draw of a slice of ints and an int promises. -/
def GivesIK (m g q : Nat) (w : World) (e : Ending) (w' : World) : Prop :=
  ∃ A n c xs k, e = .returned (.tuple #[.slice A n c, .int .i64 k]) ∧ Mine w' w.heap.size A n c xs ∧ xs.length ≤ 2000 ∧ (0 ≤ k ∧ k ≤ 100) ∧ (∃ q', q ≤ q' ∧ q' ≤ q + m ∧ Rd w' g q') ∧ Only g (g + 1) w w'
theorem addChips_len (a b : List Int) : (addChips a b).length ≤ 256 := by
  unfold addChips
  split
  · rename_i h
    rw [addL_len h.1]
    have := (withinB_iff.1 h.2.1).1
    omega
  · simp
set_option maxHeartbeats 1600000 in
theorem l20Chips_any (g q : Nat) (w : World) (h : Rd w g q) (hq : q ≤ 1000000) :
    Calls Try.prog 45 #[.pointer (some ⟨g, 0, none⟩)] w fun e w' => GivesIK 100000 g q w e w' := by
  obtain ⟨i0, hi0, hz0, hz1, hz2⟩ := info_parts infoDr
  have hg := h.lt
  have ds0 := DS.start h
  have zds0 := ds0.size
  clear h
  go_enter Try.func45, Try.ntmps45
  go_wp2_with fail
  refine (ds_pick 4 (ds0) (by omega)).mono ?_
  rintro e u7 ⟨k, rfl, hk_, du7, ho_, hs_⟩
  obtain ⟨k0, k1⟩ := hk_ (by omega)
  have zdu7 := du7.size
  clear hk_ ho_ hs_ ds0
  obtain ⟨N, rfl⟩ := Int.eq_ofNat_of_zero_le k0
  go_wp2_with fail
  refine (l20Fixed_any _ _ N 0 _ du7.rd (by omega) (by omega) (by omega)).mono ?_
  rintro e u8 ⟨Afa, nfa, cfa, xsfa, rfl, fa, la, ⟨qu8, qu8l, qu8u, r_⟩, ho_⟩
  have du8 : DS _ u8 _ _ := ⟨r_, du7.only.trans ho_⟩
  have zdu8 := du8.size
  have yfa := fa.len
  have yfa_ := hid yfa; clear yfa
  clear r_ ho_ du7
  go_wp2_with fail
  refine (ds_pick 8 (du8) (by omega)).mono ?_
  rintro e u9 ⟨ja, rfl, hk_, du9, ho_, hs_⟩
  obtain ⟨ja0, ja1⟩ := hk_ (by omega)
  have nfa_ := Mine.only (fa) ho_ (by omega)
  clear fa; have fa := nfa_; clear nfa_
  have zdu9 := du9.size
  clear hk_ ho_ hs_ du8
  have Bfa := fa.len; have Bfa_ := hid Bfa; clear Bfa
  go_wp2_with fail
  refine (spreadBits_spec _ _ _ _ _ ja _ fa.ri (Nat.le_refl _) (by have := Bfa_.out; omega)).mono ?_
  rintro e u10 ⟨Asa, nsa, csa, rfl, o_, hb_⟩
  have du10 := du9.below hb_
  have nfa_ := Mine.below fa hb_
  clear fa; have fa := nfa_; clear nfa_
  have sa : Mine u10 _ Asa nsa csa _ := Mine.of_own o_
  have zdu10 := du10.size
  clear o_ hb_ du9 
  clear fa
  go_wp2_with fail
  refine (l20Fixed_any _ _ N 0 _ du10.rd (by omega) (by omega) (by omega)).mono ?_
  rintro e u11 ⟨Afb, nfb, cfb, xsfb, rfl, fb, lb, ⟨qu11, qu11l, qu11u, r_⟩, ho_⟩
  have du11 : DS _ u11 _ _ := ⟨r_, du10.only.trans ho_⟩
  have nsa_ := Mine.only sa ho_ (by omega)
  clear sa; have sa := nsa_; clear nsa_
  have zdu11 := du11.size
  have yfb := fb.len
  have yfb_ := hid yfb; clear yfb
  clear r_ ho_ du10
  go_wp2_with fail
  refine (ds_pick 8 (du11) (by omega)).mono ?_
  rintro e u12 ⟨jb, rfl, hk_, du12, ho_, hs_⟩
  obtain ⟨jb0, jb1⟩ := hk_ (by omega)
  have nsa_ := Mine.only (sa) ho_ (by omega)
  clear sa; have sa := nsa_; clear nsa_
  have nfb_ := Mine.only (fb) ho_ (by omega)
  clear fb; have fb := nfb_; clear nfb_
  have zdu12 := du12.size
  clear hk_ ho_ hs_ du11
  have Bfb := fb.len; have Bfb_ := hid Bfb; clear Bfb
  go_wp2_with fail
  refine (spreadBits_spec _ _ _ _ _ jb _ fb.ri (Nat.le_refl _) (by have := Bfb_.out; omega)).mono ?_
  rintro e u13 ⟨Asb, nsb, csb, rfl, o_, hb_⟩
  have du13 := du12.below hb_
  have nsa_ := Mine.below sa hb_
  clear sa; have sa := nsa_; clear nsa_
  have nfb_ := Mine.below fb hb_
  clear fb; have fb := nfb_; clear nfb_
  have sb : Mine u13 _ Asb nsb csb _ := Mine.of_own o_
  have zdu13 := du13.size
  clear o_ hb_ du12 
  clear fb
  have la_ := hid sa.len; have lb_ := hid sb.len
  have h256a : (spreadBits xsfa ja).length ≤ 256 := by unfold spreadBits; split; (rename_i hh; rw [spreadL_len]; omega); simp
  have h256b : (spreadBits xsfb jb).length ≤ 256 := by unfold spreadBits; split; (rename_i hh; rw [spreadL_len]; omega); simp
  go_wp2_with fail
  refine (addChips_spec _ _ _ _ _ _ _ _ _ _ sa.ri sb.ri (Nat.le_refl _) (by have := la_.out; omega) (by have := lb_.out; omega)).mono ?_
  rintro e u14 ⟨Acc, ncc, ccc, rfl, o_, hb_⟩
  have du14 := du13.below hb_
  have nsa_ := Mine.below sa hb_
  clear sa; have sa := nsa_; clear nsa_
  have nsb_ := Mine.below sb hb_
  clear sb; have sb := nsb_; clear nsb_
  have cc : Mine u14 _ Acc ncc ccc _ := Mine.of_own o_
  have zdu14 := du14.size
  clear o_ hb_ du13 
  have hV := addChips_len (spreadBits xsfa ja) (spreadBits xsfb jb)
  obtain ⟨V, HV⟩ : ∃ V, Hid (V = addChips (spreadBits xsfa ja) (spreadBits xsfb jb)) := ⟨_, hid rfl⟩
  rw [← HV.out] at cc hV
  clear sa sb h256a h256b
  have cc_ := cc.more (show w.heap.size ≤ _ by omega); clear cc; have cc := cc_; clear cc_
  have hL := hid cc.len
  have hn : ncc ≤ 256 := by have := hL.out; omega
  clear hV HV
  rcases Nat.eq_zero_or_pos ncc with hz | hpos
  · subst hz
    go_wp2_with fail
    refine (ds_odd 12 (du14) (by omega) (by omega)).mono ?_
    rintro e u15 ⟨bu15, rfl, ⟨qu15, qu15l, qu15u, du15⟩, ho_, hs_⟩
    have ncc_ := Mine.only (cc) ho_ (by omega)
    clear cc; have cc := ncc_; clear ncc_
    have zdu15 := du15.size
    clear ho_ hs_ du14
    cases bu15
    · skip
      go_wp2_with fail
      refine (ds_pick 8 (du15) (by omega)).mono ?_
      rintro e u16 ⟨ka, rfl, hk_, du16, ho_, hs_⟩
      obtain ⟨ka0, ka1⟩ := hk_ (by omega)
      have ncc_ := Mine.only (cc) ho_ (by omega)
      clear cc; have cc := ncc_; clear ncc_
      have zdu16 := du16.size
      clear hk_ ho_ hs_ du15
      go_wp2_with fail
      refine (ds_pick 14 (du16) (by omega)).mono ?_
      rintro e u17 ⟨kb, rfl, hk_, du17, ho_, hs_⟩
      obtain ⟨kb0, kb1⟩ := hk_ (by omega)
      have ncc_ := Mine.only (cc) ho_ (by omega)
      clear cc; have cc := ncc_; clear ncc_
      have zdu17 := du17.size
      clear hk_ ho_ hs_ du16
      go_wp2
      go_ret2
      exact ⟨_, 0, ccc, V, _, rfl, cc, by have := cc.len; omega, by constructor <;> omega, ⟨((qu15 + 1) + 1), by omega, by omega, du17.rd⟩, du17.only⟩
    · skip
      go_wp2_with (at_builtin; refine wpList_push rfl _ _ _ rfl w.heap.size 3 i0 _ 8 Try.underlying22 hi0 hz0 hz1 hz2 rfl (by omega) _ _ Acc 0 ccc _ rfl cc rfl rfl (by omega) (by omega) ?_; intro g_u18 cap_u18 u18 hown_ hgrow_ hlies_ hlt_)
      have du18 := du15.grown cc hgrow_ (by omega) (by omega) (by omega)
      have ncc_ : Mine u18 w.heap.size (some ⟨g_u18, 0, none⟩) (0 + 1) cap_u18 (V ++ [1]) := by unfold Mine; rw [List.map_append]; exact hown_
      clear cc hown_ hgrow_ hlies_ du15; have cc := ncc_; clear ncc_
      have zdu18 := du18.size
      go_wp2_with fail
      refine (ds_pick 8 (du18) (by omega)).mono ?_
      rintro e u19 ⟨ka, rfl, hk_, du19, ho_, hs_⟩
      obtain ⟨ka0, ka1⟩ := hk_ (by omega)
      have ncc_ := Mine.only (cc) ho_ (by omega)
      clear cc; have cc := ncc_; clear ncc_
      have zdu19 := du19.size
      clear hk_ ho_ hs_ du18
      go_wp2_with fail
      refine (ds_pick 14 (du19) (by omega)).mono ?_
      rintro e u20 ⟨kb, rfl, hk_, du20, ho_, hs_⟩
      obtain ⟨kb0, kb1⟩ := hk_ (by omega)
      have ncc_ := Mine.only (cc) ho_ (by omega)
      clear cc; have cc := ncc_; clear ncc_
      have zdu20 := du20.size
      clear hk_ ho_ hs_ du19
      go_wp2
      go_ret2
      exact ⟨_, (0 + 1), cap_u18, V ++ [1], _, rfl, cc, by have := cc.len; omega, by constructor <;> omega, ⟨((qu15 + 1) + 1), by omega, by omega, du20.rd⟩, du20.only⟩
  · have hpos' : (0 : Int) < (ncc : Int) := by omega
    go_wp2_with fail
    refine (ds_odd 4 (du14) (by omega) (by omega)).mono ?_
    rintro e u21 ⟨bu21, rfl, ⟨qu21, qu21l, qu21u, du21⟩, ho_, hs_⟩
    have ncc_ := Mine.only (cc) ho_ (by omega)
    clear cc; have cc := ncc_; clear ncc_
    have zdu21 := du21.size
    clear ho_ hs_ du14
    cases bu21
    · skip
      go_wp2_with fail
      refine (ds_odd 12 (du21) (by omega) (by omega)).mono ?_
      rintro e u22 ⟨bu22, rfl, ⟨qu22, qu22l, qu22u, du22⟩, ho_, hs_⟩
      have ncc_ := Mine.only (cc) ho_ (by omega)
      clear cc; have cc := ncc_; clear ncc_
      have zdu22 := du22.size
      clear ho_ hs_ du21
      cases bu22
      · skip
        go_wp2_with fail
        refine (ds_pick 8 (du22) (by omega)).mono ?_
        rintro e u23 ⟨ka, rfl, hk_, du23, ho_, hs_⟩
        obtain ⟨ka0, ka1⟩ := hk_ (by omega)
        have ncc_ := Mine.only (cc) ho_ (by omega)
        clear cc; have cc := ncc_; clear ncc_
        have zdu23 := du23.size
        clear hk_ ho_ hs_ du22
        go_wp2_with fail
        refine (ds_pick 14 (du23) (by omega)).mono ?_
        rintro e u24 ⟨kb, rfl, hk_, du24, ho_, hs_⟩
        obtain ⟨kb0, kb1⟩ := hk_ (by omega)
        have ncc_ := Mine.only (cc) ho_ (by omega)
        clear cc; have cc := ncc_; clear ncc_
        have zdu24 := du24.size
        clear hk_ ho_ hs_ du23
        go_wp2
        go_ret2
        exact ⟨_, ncc, ccc, V, _, rfl, cc, by have := cc.len; omega, by constructor <;> omega, ⟨((qu22 + 1) + 1), by omega, by omega, du24.rd⟩, du24.only⟩
      · skip
        go_wp2_with (at_builtin; refine wpList_push rfl _ _ _ rfl w.heap.size 3 i0 _ 8 Try.underlying22 hi0 hz0 hz1 hz2 rfl (by omega) _ _ Acc ncc ccc _ rfl cc rfl rfl (by omega) (by omega) ?_; intro g_u25 cap_u25 u25 hown_ hgrow_ hlies_ hlt_)
        have du25 := du22.grown cc hgrow_ (by omega) (by omega) (by omega)
        have ncc_ : Mine u25 w.heap.size (some ⟨g_u25, 0, none⟩) (ncc + 1) cap_u25 (V ++ [1]) := by unfold Mine; rw [List.map_append]; exact hown_
        clear cc hown_ hgrow_ hlies_ du22; have cc := ncc_; clear ncc_
        have zdu25 := du25.size
        go_wp2_with fail
        refine (ds_pick 8 (du25) (by omega)).mono ?_
        rintro e u26 ⟨ka, rfl, hk_, du26, ho_, hs_⟩
        obtain ⟨ka0, ka1⟩ := hk_ (by omega)
        have ncc_ := Mine.only (cc) ho_ (by omega)
        clear cc; have cc := ncc_; clear ncc_
        have zdu26 := du26.size
        clear hk_ ho_ hs_ du25
        go_wp2_with fail
        refine (ds_pick 14 (du26) (by omega)).mono ?_
        rintro e u27 ⟨kb, rfl, hk_, du27, ho_, hs_⟩
        obtain ⟨kb0, kb1⟩ := hk_ (by omega)
        have ncc_ := Mine.only (cc) ho_ (by omega)
        clear cc; have cc := ncc_; clear ncc_
        have zdu27 := du27.size
        clear hk_ ho_ hs_ du26
        go_wp2
        go_ret2
        exact ⟨_, (ncc + 1), cap_u25, V ++ [1], _, rfl, cc, by have := cc.len; omega, by constructor <;> omega, ⟨((qu22 + 1) + 1), by omega, by omega, du27.rd⟩, du27.only⟩
    · skip
      go_wp2_with fail
      refine (ds_pick ncc (du21) (by omega)).mono ?_
      rintro e u28 ⟨ia, rfl, hk_, du28, ho_, hs_⟩
      obtain ⟨ia0, ia1⟩ := hk_ (by omega)
      have ncc_ := Mine.only (cc) ho_ (by omega)
      clear cc; have cc := ncc_; clear ncc_
      have zdu28 := du28.size
      clear hk_ ho_ hs_ du21
      go_wp2_with fail
      refine (ds_pick 40 (du28) (by omega)).mono ?_
      rintro e u29 ⟨ib, rfl, hk_, du29, ho_, hs_⟩
      obtain ⟨ib0, ib1⟩ := hk_ (by omega)
      have ncc_ := Mine.only (cc) ho_ (by omega)
      clear cc; have cc := ncc_; clear ncc_
      have zdu29 := du29.size
      clear hk_ ho_ hs_ du28
      obtain ⟨I, rfl⟩ := Int.eq_ofNat_of_zero_le ia0
      go_wp2_with fail
      refine (ds_pick 3 (du29.alloc _) (by omega)).mono ?_
      rintro e u0 ⟨t, rfl, hk_, d0, ho_, hs_⟩
      obtain ⟨t0, t1⟩ := hk_ (by omega)
      obtain ⟨y, hy, _⟩ := tab_get (ys := [ib - 20, 8001, 0]) ((Blk.new _ _ _).only ho_ (by omega)) rfl t t0 (by simp; omega) (P := fun _ => True) (by intros; trivial)
      have cc_ := (cc.alloc (.cells #[.int .i64 (ib - 20), .int .i64 8001, .int .i64 0] 3)).only ho_ (by omega)
      clear cc ho_ hs_ hk_
      obtain ⟨b, z, rfl, hb1, hb2, hz, hcz, hfr, cc⟩ := cc_.stored (k := I) (by omega) y
      have ds9 := d0.stored (b := b) (k := I) (by omega) (by omega) (.int .i64 y)
      have zds9 := ds9.size
      have HZ := hid hz; clear hz cc_ du29
      have j0 : (0 : Int) ≤ (I : Int) := by omega
      go_wp2_with fail
      refine (ds_odd 12 (ds9) (by omega) (by omega)).mono ?_
      rintro e u30 ⟨bu30, rfl, ⟨qu30, qu30l, qu30u, du30⟩, ho_, hs_⟩
      have ncc_ := Mine.only (cc) ho_ (by omega)
      clear cc; have cc := ncc_; clear ncc_
      have zdu30 := du30.size
      clear ho_ hs_ ds9
      cases bu30
      · skip
        go_wp2_with fail
        refine (ds_pick 8 (du30) (by omega)).mono ?_
        rintro e u31 ⟨ka, rfl, hk_, du31, ho_, hs_⟩
        obtain ⟨ka0, ka1⟩ := hk_ (by omega)
        have ncc_ := Mine.only (cc) ho_ (by omega)
        clear cc; have cc := ncc_; clear ncc_
        have zdu31 := du31.size
        clear hk_ ho_ hs_ du30
        go_wp2_with fail
        refine (ds_pick 14 (du31) (by omega)).mono ?_
        rintro e u32 ⟨kb, rfl, hk_, du32, ho_, hs_⟩
        obtain ⟨kb0, kb1⟩ := hk_ (by omega)
        have ncc_ := Mine.only (cc) ho_ (by omega)
        clear cc; have cc := ncc_; clear ncc_
        have zdu32 := du32.size
        clear hk_ ho_ hs_ du31
        go_wp2
        go_ret2
        exact ⟨_, ncc, ccc, V.set I y, _, rfl, cc, by have := cc.len; omega, by constructor <;> omega, ⟨((qu30 + 1) + 1), by omega, by omega, du32.rd⟩, du32.only⟩
      · skip
        go_wp2_with (at_builtin; refine wpList_push rfl _ _ _ rfl w.heap.size 3 i0 _ 8 Try.underlying22 hi0 hz0 hz1 hz2 rfl (by omega) _ _ (some ⟨b, 0, none⟩) ncc ccc _ rfl cc rfl rfl (by omega) (by omega) ?_; intro g_u33 cap_u33 u33 hown_ hgrow_ hlies_ hlt_)
        have du33 := du30.grown cc hgrow_ (by omega) (by omega) (by omega)
        have ncc_ : Mine u33 w.heap.size (some ⟨g_u33, 0, none⟩) (ncc + 1) cap_u33 (V.set I y ++ [1]) := by unfold Mine; rw [List.map_append]; exact hown_
        clear cc hown_ hgrow_ hlies_ du30; have cc := ncc_; clear ncc_
        have zdu33 := du33.size
        go_wp2_with fail
        refine (ds_pick 8 (du33) (by omega)).mono ?_
        rintro e u34 ⟨ka, rfl, hk_, du34, ho_, hs_⟩
        obtain ⟨ka0, ka1⟩ := hk_ (by omega)
        have ncc_ := Mine.only (cc) ho_ (by omega)
        clear cc; have cc := ncc_; clear ncc_
        have zdu34 := du34.size
        clear hk_ ho_ hs_ du33
        go_wp2_with fail
        refine (ds_pick 14 (du34) (by omega)).mono ?_
        rintro e u35 ⟨kb, rfl, hk_, du35, ho_, hs_⟩
        obtain ⟨kb0, kb1⟩ := hk_ (by omega)
        have ncc_ := Mine.only (cc) ho_ (by omega)
        clear cc; have cc := ncc_; clear ncc_
        have zdu35 := du35.size
        clear hk_ ho_ hs_ du34
        go_wp2
        go_ret2
        exact ⟨_, (ncc + 1), cap_u33, V.set I y ++ [1], _, rfl, cc, by have := cc.len; omega, by constructor <;> omega, ⟨((qu30 + 1) + 1), by omega, by omega, du35.rd⟩, du35.only⟩
end Go.Proofs.Ytgkkanamnhochaa
