/-
  The draws of the transform's laws, walked: l20Points, DrawForwardTransform, DrawBackwardTransform, DrawCyclicProduct.
-/
import Derived.Test.YtbbonllonkacfaaDr
import Derived.OpenShut
namespace Go.Proofs.Ytbbonllonkacfaa
open Go.RowKit
set_option linter.unusedVariables false

/-- A slice that reads as xs, in a block from lo on. -/
def ROn (w : World) (lo : Nat) (A : Option Addr) (n : Nat) (xs : List Int) : Prop :=
  xs.length = n ∧ (0 < n → ∃ b o, A = some ⟨b, o, none⟩ ∧ lo ≤ b ∧ b < w.heap.size ∧ ∀ j u, (xs.map (Value.int .i64))[j]? = some u → w.cell? ⟨b, o + j, none⟩ = some u)
theorem ROn.ri {w : World} {lo n : Nat} {A : Option Addr} {xs : List Int} (h : ROn w lo A n xs) : RI w w.heap.size A n xs :=
  ⟨by simpa using h.1, fun hn => by obtain ⟨b, o, e, _, h2, h3⟩ := h.2 hn; exact ⟨b, o, e, h2, h3⟩⟩
theorem ROn.only {w w' : World} {lo n g : Nat} {A : Option Addr} {xs : List Int} (h : ROn w lo A n xs) (ho : Only g (g + 1) w w') (hg : g < lo) : ROn w' lo A n xs :=
  ⟨h.1, fun hn => by
    obtain ⟨b, o, e, h1, h2, h3⟩ := h.2 hn
    have := ho.size
    exact ⟨b, o, e, h1, by omega, fun j u hu => (World.cell?_of_block (ho.block b h2 (by omega))).trans (h3 j u hu)⟩⟩
theorem ROn.of_mine {w : World} {lo n c : Nat} {A : Option Addr} {xs : List Int} (h : Mine w lo A n c xs) : ROn w lo A n xs := by
  refine ⟨h.len, fun hn => ?_⟩
  obtain ⟨b, o, e, hb, hc⟩ := h.ri.2 hn
  obtain ⟨g, cs, e2, h1, h2, _⟩ := h.own.blk hn
  rw [e] at e2
  injection e2 with e2
  injection e2 with e3 e4
  subst e3 e4
  exact ⟨b, 0, e, h1, hb, hc⟩
theorem ROn.drop {w : World} {lo n b o : Nat} {xs : List Int} (h : ROn w lo (some ⟨b, o, none⟩) n xs) (k : Nat) (hk : k ≤ n) : ROn w lo (some ⟨b, o + k, none⟩) (n - k) (xs.drop k) := by
  refine ⟨by have := h.1; simp; omega, fun hn => ?_⟩
  obtain ⟨b', o', e, h1, h2, hc⟩ := h.2 (by omega)
  injection e with e
  injection e with e1 e2
  subst e1 e2
  refine ⟨b, o + k, rfl, h1, h2, fun j u hu => ?_⟩
  rw [List.map_drop, List.getElem?_drop] at hu
  have := hc (k + j) u hu
  rwa [← Nat.add_assoc] at this
/-- The draw returned a slice of ints of its own, or a part of one. -/
def GivesR (m g q : Nat) (w : World) (e : Ending) (w' : World) : Prop :=
  ∃ A n c xs, e = .returned (.slice A n c) ∧ ROn w' w.heap.size A n xs ∧ n ≤ 100 ∧ (n ≤ c ∧ c ≤ maxLen) ∧ (∃ q', q ≤ q' ∧ q' ≤ q + m ∧ Rd w' g q') ∧ Only g (g + 1) w w'

set_option maxHeartbeats 1600000 in
theorem l20Points_any (g q : Nat) (n : Int) (w : World) (h : Rd w g q) (hq : q ≤ 10000000) (hn : n ≤ 1000000) :
    Calls Try.prog 21 #[.pointer (some ⟨g, 0, none⟩), .int .i64 n] w fun e w' => GivesR 10000 g q w e w' := by
  obtain ⟨i0, hi0, hz0, hz1, hz2⟩ := info_parts infoDr
  have hg := h.lt
  go_enter Try.func21, Try.ntmps21
  go_wp2
  go_loopw [5, 6] (fun v k wr => ∃ (j cc q1 : Nat) (AA : Option Addr) (ys : List Int), j ≤ 16 ∧ k = .int .i64 j ∧ v = .slice AA j cc ∧ Mine wr w.heap.size AA j cc ys ∧ DS w wr g q1 ∧ q ≤ q1 ∧ q1 ≤ q + 3 * j) (fun _ k _ => 16 - (intOf k).toNat)
  case atStart => exact ⟨0, 0, q, _, [], Nat.zero_le _, rfl, rfl, mine_lit0 w (Nat.le_refl _), (DS.start h).alloc _, Nat.le_refl _, by omega⟩
  case round =>
    obtain ⟨j, cc, q1, AA, ys, hj, rfl, rfl, m0, ds0, hq1, hq2⟩ := hrel
    have zds0 := ds0.size
    by_cases hlt : j < 16
    · skip
      go_wp2_with fail
      refine (ds_pick 256 (ds0) (by omega)).mono ?_
      rintro e u1 ⟨ka, rfl, hk_, du1, ho_, hs_⟩
      obtain ⟨ka0, ka1⟩ := hk_ (by omega)
      have nm0_ := Mine.only (m0) ho_ (by omega)
      clear m0; have m0 := nm0_; clear nm0_
      have zdu1 := du1.size
      clear hk_ ho_ hs_ ds0
      go_wp2_with fail
      refine (ds_pick 256 (du1) (by omega)).mono ?_
      rintro e u2 ⟨kb, rfl, hk_, du2, ho_, hs_⟩
      obtain ⟨kb0, kb1⟩ := hk_ (by omega)
      have nm0_ := Mine.only (m0) ho_ (by omega)
      clear m0; have m0 := nm0_; clear nm0_
      have zdu2 := du2.size
      clear hk_ ho_ hs_ du1
      have hgl := du2.lt
      go_wp2_with fail
      refine (ds_pick 5 (du2.alloc _) (by omega)).mono ?_
      rintro e u0 ⟨t, rfl, hk_, d0, ho_, hs_⟩
      obtain ⟨t0, t1⟩ := hk_ (by omega)
      obtain ⟨y, hy, _⟩ := tab_get (ys := [0, 1, 256, ka, kb]) ((Blk.new _ _ _).only ho_ (by omega)) rfl t t0 (by simp; omega) (P := fun _ => True) (by intros; trivial)
      have m1 := (m0.alloc (.cells #[.int .i64 0, .int .i64 1, .int .i64 256, .int .i64 ka, .int .i64 kb] 3)).only ho_ (by omega)
      clear m0 ho_ hs_ hk_ du2
      have m0 := m1
      clear m1
      have zd0 := d0.size
      go_wp2_with (at_builtin; refine wpList_push rfl _ _ _ rfl w.heap.size 3 i0 _ 8 Try.underlying23 hi0 hz0 hz1 hz2 rfl (by omega) _ _ AA j cc _ rfl m0 rfl rfl (by omega) (by omega) ?_; intro g_u3 cap_u3 u3 hown_ hgrow_ hlies_ hlt_)
      have du3 := d0.grown m0 hgrow_ (by omega) (by omega) (by omega)
      have nm0_ : Mine u3 w.heap.size (some ⟨g_u3, 0, none⟩) (j + 1) cap_u3 (ys ++ [y]) := by unfold Mine; rw [List.map_append]; exact hown_
      clear m0 hown_ hgrow_ hlies_ d0; have m0 := nm0_; clear nm0_
      have zdu3 := du3.size
      go_roundw
      case rel => exact ⟨j + 1, cap_u3, q1 + 3, _, ys ++ [y], by omega, by go_num, rfl, m0, du3, by omega, by omega⟩
      case measure => simp [intOf]; omega
    · have e : j = 16 := by omega
      subst e
      clear hlt
      obtain ⟨g0, cs0, rfl, hg0, hgz, _⟩ := m0.own.blk (by omega)
      go_wp2_with fail
      refine (ds_odd n (ds0) (by omega) (by omega)).mono ?_
      rintro e u4 ⟨bu4, rfl, ⟨qu4, qu4l, qu4u, du4⟩, ho_, hs_⟩
      have nm0_ := Mine.only (m0) ho_ (by omega)
      clear m0; have m0 := nm0_; clear nm0_
      have zdu4 := du4.size
      clear ho_ hs_ ds0
      have CAP := hid (And.intro m0.own.2.1 m0.own.2.2.1)
      have hcc := m0.own.2.1; have hcm := m0.own.2.2.1
      unfold maxLen at hcm
      cases bu4
      · have R := hid (ROn.of_mine m0)
        clear m0
        go_wp2
        go_ret
        exact ⟨_, 16, cc, ys, rfl, R.out, by omega, CAP.out, ⟨qu4, by omega, by omega, du4.rd⟩, du4.only⟩
      · skip
        go_wp2_with fail
        refine (ds_pick 3 (du4) (by omega)).mono ?_
        rintro e u5 ⟨k, rfl, hk_, du5, ho_, hs_⟩
        obtain ⟨k0, k1⟩ := hk_ (by omega)
        have nm0_ := Mine.only (m0) ho_ (by omega)
        clear m0; have m0 := nm0_; clear nm0_
        have zdu5 := du5.size
        clear hk_ ho_ hs_ du4
        by_cases k0_ : k = 0
        · subst k0_
          go_wp2_with fail
          refine (ds_pick 16 (du5) (by omega)).mono ?_
          rintro e u6 ⟨ia, rfl, hk_, du6, ho_, hs_⟩
          obtain ⟨ia0, ia1⟩ := hk_ (by omega)
          have nm0_ := Mine.only (m0) ho_ (by omega)
          clear m0; have m0 := nm0_; clear nm0_
          have zdu6 := du6.size
          clear hk_ ho_ hs_ du5
          obtain ⟨I, rfl⟩ := Int.eq_ofNat_of_zero_le ia0
          have hgl := du6.lt
          go_wp2_with fail
          refine (ds_pick 2 (du6.alloc _) (by omega)).mono ?_
          rintro e u0 ⟨t, rfl, hk_, d0, ho_, hs_⟩
          obtain ⟨t0, t1⟩ := hk_ (by omega)
          obtain ⟨y, hy, _⟩ := tab_get (ys := [-1, 257]) ((Blk.new _ _ _).only ho_ (by omega)) rfl t t0 (by simp; omega) (P := fun _ => True) (by intros; trivial)
          have m1 := (m0.alloc (.cells #[.int .i64 (-1), .int .i64 257] 3)).only ho_ (by omega)
          clear m0 ho_ hs_ hk_
          obtain ⟨b, z, hbe, hb1, hb2, hz, hcz, hfr, m2⟩ := m1.stored (k := I) (by omega) y
          injection hbe with hbe
          injection hbe with hbe _
          subst hbe
          have ds9 := d0.stored (b := g0) (k := I) (by omega) (by omega) (.int .i64 y)
          have R := hid (ROn.of_mine m2)
          have HZ := hid hz
          clear hz m1 m2
          have j0 : (0 : Int) ≤ (I : Int) := by omega
          go_wp2
          go_ret
          exact ⟨_, 16, cc, _, rfl, R.out, by omega, CAP.out, ⟨((qu4 + 1) + 1) + 1, by omega, by omega, ds9.rd⟩, ds9.only⟩
        · by_cases k1_ : k = 1
          · subst k1_
            have hcn : ¬ cc = 1 := by omega
            have R := hid (ROn.drop (ROn.of_mine m0) 1 (by omega))
            clear m0
            go_wp2
            go_ret
            exact ⟨_, 15, _, _, rfl, R.out, by omega, by unfold maxLen; omega, ⟨(qu4 + 1), by omega, by omega, du5.rd⟩, du5.only⟩
          · have e1 : (k == 1) = false := by simpa using k1_
            have e0 : (k == 0) = false := by simpa using k0_
            go_wp2_with (at_builtin; refine wpList_push rfl _ _ _ rfl w.heap.size 3 i0 _ 8 Try.underlying23 hi0 hz0 hz1 hz2 rfl (by omega) _ _ (some ⟨g0, 0, none⟩) 16 cc _ rfl m0 rfl rfl (by omega) (by omega) ?_; intro g_u7 cap_u7 u7 hown_ hgrow_ hlies_ hlt_)
            have du7 := du5.grown m0 hgrow_ (by omega) (by omega) (by omega)
            have nm0_ : Mine u7 w.heap.size (some ⟨g_u7, 0, none⟩) (16 + 1) cap_u7 (ys ++ [0]) := by unfold Mine; rw [List.map_append]; exact hown_
            clear m0 hown_ hgrow_ hlies_ du5; have m0 := nm0_; clear nm0_
            have zdu7 := du7.size
            have CAP2 := hid (And.intro m0.own.2.1 m0.own.2.2.1)
            have R := hid (ROn.of_mine m0)
            clear m0
            go_ret
            exact ⟨_, 17, _, _, rfl, R.out, by omega, CAP2.out, ⟨(qu4 + 1), by omega, by omega, du7.rd⟩, du7.only⟩
theorem below_ds {w w1 w2 : World} (hb : Below w.heap.size w w1) (ho : Only w.heap.size (w.heap.size + 1) w1 w2) : Below w.heap.size w w2 :=
  hb.trans (ho.below (Nat.le_refl _) hb.size)
/-- The call returned a slice of at most 100 ints; nothing that was there has turned. -/
def DrawnP (w : World) (e : Ending) (w' : World) : Prop :=
  ∃ A n c xs, e = .returned (.slice A n c) ∧ RI w' w'.heap.size A n xs ∧ n ≤ 100 ∧ Below w.heap.size w w'
def DrawnPP (w : World) (e : Ending) (w' : World) : Prop :=
  ∃ A n c A' n' c' xs ys, e = .returned (.tuple #[.slice A n c, .slice A' n' c']) ∧ RI w' w'.heap.size A n xs ∧ RI w' w'.heap.size A' n' ys ∧ n ≤ 100 ∧ n' ≤ 100 ∧ Below w.heap.size w w'
theorem drawForwardTransform_any (A : Option Addr) (n c B : Nat) (bs : List Int) (w : World) (h : RB w B A n bs) (hB : B ≤ w.heap.size) (hc : n ≤ c) (hn : n ≤ 1048576) (hb : ∀ x ∈ bs, 0 ≤ x ∧ x ≤ 255) :
    Calls Try.prog 9 #[.slice A n c] w fun e w' => DrawnP w e w' := by
  have ho := l20Open_any A n c B bs w h hB hc hn hb
  clear hb h
  go_enter Try.func9, Try.ntmps9
  go_wp2_with fail
  refine ho.mono ?_
  rintro e w1 ⟨rfl, hr, hb1, hs1⟩
  clear hs1 ho
  go_wp2_with fail
  refine (l20Points_any _ 0 9 _ hr (by omega) (by omega)).mono ?_
  rintro e w2 ⟨A', n', c', xs, rfl, hown, hlen, hcp, ⟨q, hq, hq', hr2⟩, ho2⟩
  have H2 := hid (And.intro hown ho2)
  clear hown hr2 ho2 hr
  go_wp2
  go_ret
  exact ⟨A', n', c', xs, rfl, H2.out.1.ri, hlen, below_ds hb1 H2.out.2⟩
theorem drawBackwardTransform_any (A : Option Addr) (n c B : Nat) (bs : List Int) (w : World) (h : RB w B A n bs) (hB : B ≤ w.heap.size) (hc : n ≤ c) (hn : n ≤ 1048576) (hb : ∀ x ∈ bs, 0 ≤ x ∧ x ≤ 255) :
    Calls Try.prog 19 #[.slice A n c] w fun e w' => DrawnP w e w' := by
  have ho := l20Open_any A n c B bs w h hB hc hn hb
  clear hb h
  go_enter Try.func19, Try.ntmps19
  go_wp2_with fail
  refine ho.mono ?_
  rintro e w1 ⟨rfl, hr, hb1, hs1⟩
  clear hs1 ho
  go_wp2_with fail
  refine (l20Points_any _ 0 9 _ hr (by omega) (by omega)).mono ?_
  rintro e w2 ⟨A', n', c', xs, rfl, hown, hlen, hcp, ⟨q, hq, hq', hr2⟩, ho2⟩
  have H2 := hid (And.intro hown ho2)
  clear hown hr2 ho2 hr
  go_wp2
  go_ret
  exact ⟨A', n', c', xs, rfl, H2.out.1.ri, hlen, below_ds hb1 H2.out.2⟩
def DrawnPC (w : World) (e : Ending) (w' : World) : Prop :=
  ∃ A n c A' n' c' xs ys, e = .returned (.tuple #[.slice A n c, .slice A' n' c']) ∧ RI w' w'.heap.size A n xs ∧ RI w' w'.heap.size A' n' ys ∧ n ≤ 100 ∧ n' ≤ 100 ∧ (n ≤ c ∧ c ≤ maxLen) ∧ Below w.heap.size w w'
theorem drawCyclicProduct_cap (A : Option Addr) (n c B : Nat) (bs : List Int) (w : World) (h : RB w B A n bs) (hB : B ≤ w.heap.size) (hc : n ≤ c) (hn : n ≤ 1048576) (hb : ∀ x ∈ bs, 0 ≤ x ∧ x ≤ 255) :
    Calls Try.prog 14 #[.slice A n c] w fun e w' => DrawnPC w e w' := by
  have ho := l20Open_any A n c B bs w h hB hc hn hb
  clear hb h
  go_enter Try.func14, Try.ntmps14
  go_wp2_with fail
  refine ho.mono ?_
  rintro e w1 ⟨rfl, hr, hb1, hs1⟩
  have hgl := hr.lt
  clear hs1 ho
  go_wp2_with fail
  refine (l20Points_any _ 0 12 _ hr (by omega) (by omega)).mono ?_
  rintro e w2 ⟨A', n', c', xs, rfl, hown, hlen, hcp, ⟨q, hq, hq', hr2⟩, ho2⟩
  have H2 := hid (And.intro hown ho2)
  clear hown ho2 hr
  go_wp2_with fail
  refine (l20Points_any _ q 12 _ hr2 (by omega) (by omega)).mono ?_
  rintro e w3 ⟨A3, n3, c3, ys, rfl, hown, hlen3, hcp3, ⟨q3, _, _, hr3⟩, ho3⟩
  have H3 := hid (And.intro hown (And.intro (H2.out.1.only ho3 (by omega)) (H2.out.2.trans ho3)))
  clear hown ho3 hr2 hr3
  go_wp2
  go_ret2
  exact ⟨A', n', c', A3, n3, c3, xs, ys, rfl, H3.out.2.1.ri, H3.out.1.ri, hlen, hlen3, hcp, below_ds hb1 H3.out.2.2⟩
theorem drawCyclicProduct_any (A : Option Addr) (n c B : Nat) (bs : List Int) (w : World) (h : RB w B A n bs) (hB : B ≤ w.heap.size) (hc : n ≤ c) (hn : n ≤ 1048576) (hb : ∀ x ∈ bs, 0 ≤ x ∧ x ≤ 255) :
    Calls Try.prog 14 #[.slice A n c] w fun e w' => DrawnPP w e w' := by
  have ho := l20Open_any A n c B bs w h hB hc hn hb
  clear hb h
  go_enter Try.func14, Try.ntmps14
  go_wp2_with fail
  refine ho.mono ?_
  rintro e w1 ⟨rfl, hr, hb1, hs1⟩
  have hgl := hr.lt
  clear hs1 ho
  go_wp2_with fail
  refine (l20Points_any _ 0 12 _ hr (by omega) (by omega)).mono ?_
  rintro e w2 ⟨A', n', c', xs, rfl, hown, hlen, hcp, ⟨q, hq, hq', hr2⟩, ho2⟩
  have H2 := hid (And.intro hown ho2)
  clear hown ho2 hr
  go_wp2_with fail
  refine (l20Points_any _ q 12 _ hr2 (by omega) (by omega)).mono ?_
  rintro e w3 ⟨A3, n3, c3, ys, rfl, hown, hlen3, hcp3, ⟨q3, _, _, hr3⟩, ho3⟩
  have H3 := hid (And.intro hown (And.intro (H2.out.1.only ho3 (by omega)) (H2.out.2.trans ho3)))
  clear hown ho3 hr2 hr3
  go_wp2
  go_ret2
  exact ⟨A', n', c', A3, n3, c3, xs, ys, rfl, H3.out.2.1.ri, H3.out.1.ri, hlen, hlen3, below_ds hb1 H3.out.2.2⟩
end Go.Proofs.Ytbbonllonkacfaa
