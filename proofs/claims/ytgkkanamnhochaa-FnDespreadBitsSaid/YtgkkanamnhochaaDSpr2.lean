/-
  More draws of the spreading's laws, walked: DrawDespreadSums, DrawDespreadBits, DrawAddChips.
-/
import Derived.Test.YtgkkanamnhochaaDSpr
import Derived.OpenShut
namespace Go.Proofs.Ytgkkanamnhochaa
open Go.RowKit
set_option linter.unusedVariables false

theorem RI.drop {w : World} {B n : Nat} {b o : Nat} {xs : List Int} (h : RI w B (some ⟨b, o, none⟩) n xs) (k : Nat) (hk : k ≤ n) : RI w B (some ⟨b, o + k, none⟩) (n - k) (xs.drop k) := by
  refine ⟨by have := RI.len h; simp; omega, fun hn => ?_⟩
  obtain ⟨b', o', e, hb, hc⟩ := h.2 (by omega)
  injection e with e
  injection e with e1 e2
  subst e1 e2
  refine ⟨b, o + k, rfl, hb, fun j u hu => ?_⟩
  rw [List.map_drop, List.getElem?_drop] at hu
  have := hc (k + j) u hu
  rwa [← Nat.add_assoc] at this
/-- The call returned a slice of ints and an int; nothing that was there has turned. -/
def DrawnIK (w : World) (e : Ending) (w' : World) : Prop :=
  ∃ A n c xs k, e = .returned (.tuple #[.slice A n c, .int .i64 k]) ∧ OwnI w' 3 w.heap.size w'.heap.size A n c xs ∧ xs.length ≤ 2000 ∧ (0 ≤ k ∧ k ≤ 100) ∧ Below w.heap.size w w'
theorem below_ds {w w1 w2 : World} (hb : Below w.heap.size w w1) (ho : Only w.heap.size (w.heap.size + 1) w1 w2) : Below w.heap.size w w2 :=
  hb.trans (ho.below (Nat.le_refl _) hb.size)
theorem drawDespreadSums_any (A : Option Addr) (n c B : Nat) (bs : List Int) (w : World) (h : RB w B A n bs) (hB : B ≤ w.heap.size) (hc : n ≤ c) (hn : n ≤ 1048576) (hb : ∀ x ∈ bs, 0 ≤ x ∧ x ≤ 255) :
    Calls Try.prog 28 #[.slice A n c] w fun e w' => DrawnIK w e w' := by
  have ho := l20Open_any A n c B bs w h hB hc hn hb
  clear hb h
  go_enter Try.func28, Try.ntmps28
  go_wp2_with fail
  refine ho.mono ?_
  rintro e w1 ⟨rfl, hr, hb1, hs1⟩
  have hsz : w.heap.size ≤ w1.heap.size := hb1.size
  clear hs1 ho
  go_wp2_with fail
  refine (l20Chips_any _ 0 _ hr (by omega)).mono ?_
  rintro e w2 ⟨A', n', c', xs, k, rfl, hown, hlen, ⟨k0, k1⟩, ⟨q, hq, hq', hr2⟩, ho2⟩
  have H2 := hid (And.intro hown ho2)
  clear hown hr2 ho2 hr
  go_wp2
  go_ret2
  exact ⟨A', n', c', xs, k, rfl, OwnV.more (Mine.own H2.out.1) hsz (Nat.le_refl _), hlen, ⟨k0, k1⟩, below_ds hb1 H2.out.2⟩
theorem drawDespreadBits_any (A : Option Addr) (n c B : Nat) (bs : List Int) (w : World) (h : RB w B A n bs) (hB : B ≤ w.heap.size) (hc : n ≤ c) (hn : n ≤ 1048576) (hb : ∀ x ∈ bs, 0 ≤ x ∧ x ≤ 255) :
    Calls Try.prog 34 #[.slice A n c] w fun e w' => DrawnIK w e w' := by
  have ho := l20Open_any A n c B bs w h hB hc hn hb
  clear hb h
  go_enter Try.func34, Try.ntmps34
  go_wp2_with fail
  refine ho.mono ?_
  rintro e w1 ⟨rfl, hr, hb1, hs1⟩
  have hsz : w.heap.size ≤ w1.heap.size := hb1.size
  clear hs1 ho
  go_wp2_with fail
  refine (l20Chips_any _ 0 _ hr (by omega)).mono ?_
  rintro e w2 ⟨A', n', c', xs, k, rfl, hown, hlen, ⟨k0, k1⟩, ⟨q, hq, hq', hr2⟩, ho2⟩
  have H2 := hid (And.intro hown ho2)
  clear hown hr2 ho2 hr
  go_wp2
  go_ret2
  exact ⟨A', n', c', xs, k, rfl, OwnV.more (Mine.own H2.out.1) hsz (Nat.le_refl _), hlen, ⟨k0, k1⟩, below_ds hb1 H2.out.2⟩
theorem Mine.far {w : World} {lo n c b k : Nat} {A : Option Addr} {xs : List Int} (h : Mine w lo A n c xs) (hb : b < lo) (u : Value) : Mine (w.setCell ⟨b, k, none⟩ u) lo A n c xs :=
  own_only h (Only.setCell (p := ⟨b, k, none⟩) (Only.refl b (b + 1) w) (Nat.le_refl _) (Nat.lt_succ_self _) u) (.inl hb)
theorem ds_odd0 {w0 w : World} {g q : Nat} : Calls Try.prog 49 #[.pointer (some ⟨g, 0, none⟩), .int .i64 0] w fun e w' => e = .returned (.bool false) ∧ w = w' := by
  go_enter Try.func49, Try.ntmps49
  go_wp2
  go_ret
  exact ⟨rfl, rfl⟩
set_option maxHeartbeats 1600000 in
theorem l20Fixed0_any (g q N : Nat) (w : World) (h : Rd w g q) (hq : q ≤ 10000000) (hN : N ≤ 1000) :
    Calls Try.prog 43 #[.pointer (some ⟨g, 0, none⟩), .int .i64 (N : Int), .int .i64 0] w fun e w' => GivesI (fun xs => xs.length = N ∧ AllBit xs) 10000 g q w e w' := by
  obtain ⟨i0, hi0, hz0, hz1, hz2⟩ := info_parts infoDr
  have hg := h.lt
  go_enter Try.func43, Try.ntmps43
  go_wp2
  go_loopw [7, 8] (fun v k wr => ∃ (j cc : Nat) (AA : Option Addr) (ys : List Int), j ≤ N ∧ k = .int .i64 j ∧ v = .slice AA j cc ∧ Mine wr w.heap.size AA j cc ys ∧ DS w wr g (q + j) ∧ Hid (AllBit ys)) (fun _ k _ => N - (intOf k).toNat)
  case atStart => exact ⟨0, 0, _, [], Nat.zero_le _, rfl, rfl, mine_lit0 w (Nat.le_refl _), (DS.start h).alloc _, hid allBit_nil⟩
  case round =>
    obtain ⟨j, cc, AA, ys, hj, rfl, rfl, m0, ds0, HB⟩ := hrel
    have zds0 := ds0.size
    by_cases hlt : j < N
    · skip
      go_wp2_with fail
      refine (ds_pick 2 (ds0) (by omega)).mono ?_
      rintro e u1 ⟨k, rfl, hk_, du1, ho_, hs_⟩
      obtain ⟨k0, k1⟩ := hk_ (by omega)
      have nm0_ := Mine.only (m0) ho_ (by omega)
      clear m0; have m0 := nm0_; clear nm0_
      have zdu1 := du1.size
      clear hk_ ho_ hs_ ds0
      go_wp2_with (at_builtin; refine wpList_push rfl _ _ _ rfl w.heap.size 3 i0 _ 8 Try.underlying22 hi0 hz0 hz1 hz2 rfl (by omega) _ _ AA j cc _ rfl m0 rfl rfl (by omega) (by omega) ?_; intro g_u2 cap_u2 u2 hown_ hgrow_ hlies_ hlt_)
      have du2 := du1.grown m0 hgrow_ (by omega) (by omega) (by omega)
      have nm0_ : Mine u2 w.heap.size (some ⟨g_u2, 0, none⟩) (j + 1) cap_u2 (ys ++ [k]) := by unfold Mine; rw [List.map_append]; exact hown_
      clear m0 hown_ hgrow_ hlies_ du1; have m0 := nm0_; clear nm0_
      have zdu2 := du2.size
      go_roundw
      case rel => exact ⟨j + 1, cap_u2, _, ys ++ [k], by omega, by go_num, rfl, m0, du2, hid (by intro y hy; rcases List.mem_append.1 hy with hy | hy; exact HB.out y hy; rw [List.mem_singleton] at hy; subst hy; omega)⟩
      case measure => simp [intOf]; omega
    · have e : j = N := by omega
      subst e
      clear hlt
      go_wp2_with fail
      refine (ds_odd0 (w0 := w) (g := g) (q := q)).mono ?_
      rintro e u9 ⟨rfl, rfl⟩
      go_wp2
      go_ret
      exact ⟨_, j, cc, ys, rfl, m0, ⟨m0.len, HB.out⟩, ⟨q + j, by omega, by omega, ds0.rd⟩, ds0.only⟩
/-- The call returned two slices of ints; nothing that was there has turned. -/
def DrawnII (w : World) (e : Ending) (w' : World) : Prop :=
  ∃ A n c A' n' c' xs ys, e = .returned (.tuple #[.slice A n c, .slice A' n' c']) ∧ RI w' w'.heap.size A n xs ∧ RI w' w'.heap.size A' n' ys ∧ n ≤ 2000 ∧ n' ≤ 2000 ∧ Below w.heap.size w w'
set_option maxHeartbeats 1600000 in
theorem drawAddChips_any (A : Option Addr) (n c B : Nat) (bs : List Int) (w : World) (h : RB w B A n bs) (hB : B ≤ w.heap.size) (hc : n ≤ c) (hn : n ≤ 1048576) (hb : ∀ x ∈ bs, 0 ≤ x ∧ x ≤ 255) :
    Calls Try.prog 25 #[.slice A n c] w fun e w' => DrawnII w e w' := by
  have ho := l20Open_any A n c B bs w h hB hc hn hb
  clear hb h
  go_enter Try.func25, Try.ntmps25
  go_wp2_with fail
  refine ho.mono ?_
  rintro e w1 ⟨rfl, hr, hb1, hs1⟩
  have hsz := hb1.size
  have ds0 := DS.start hr
  have zds0 := ds0.size
  have hgl := ds0.lt
  clear hs1 ho hr
  go_wp2_with fail
  refine (l20Fixed0_any _ _ 3 _ ds0.rd (by omega) (by omega)).mono ?_
  rintro e u3 ⟨Afa, nfa, cfa, xsfa, rfl, fa, ⟨la, bia⟩, ⟨qu3, qu3l, qu3u, r_⟩, ho_⟩
  have du3 : DS _ u3 _ _ := ⟨r_, ds0.only.trans ho_⟩
  have zdu3 := du3.size
  have yfa := fa.len
  have yfa_ := hid yfa; clear yfa
  clear r_ ho_ ds0
  have LBa := hid (And.intro la bia); clear la bia
  go_wp2_with fail
  refine (ds_pick 8 (du3) (by omega)).mono ?_
  rintro e u4 ⟨ja, rfl, hk_, du4, ho_, hs_⟩
  obtain ⟨ja0, ja1⟩ := hk_ (by omega)
  have nfa_ := Mine.only (fa) ho_ (by omega)
  clear fa; have fa := nfa_; clear nfa_
  have zdu4 := du4.size
  clear hk_ ho_ hs_ du3
  have Bfa := fa.len; have Bfa_ := hid Bfa; clear Bfa
  go_wp2_with fail
  refine (spreadBits_spec _ _ _ _ _ ja _ fa.ri (Nat.le_refl _) (by have := Bfa_.out; have := LBa.out.1; omega)).mono ?_
  rintro e u5 ⟨Asa, nsa, csa, rfl, o_, hb_⟩
  have du5 := du4.below hb_
  have nfa_ := Mine.below fa hb_
  clear fa; have fa := nfa_; clear nfa_
  have sa : Mine u5 _ Asa nsa csa _ := Mine.of_own o_
  have zdu5 := du5.size
  clear o_ hb_ du4 
  have La : Hid ((spreadBits xsfa ja).length = 24) := hid (by rw [spreadBits, if_pos ⟨bitsValid_iff.2 ⟨by have := LBa.out.1; omega, LBa.out.2⟩, by have := LBa.out.1; omega, by omega, by omega⟩, spreadL_len]; have := LBa.out.1; omega)
  have Na : nsa = 24 := by have := sa.len; have := La.out; omega
  subst Na
  clear fa
  go_wp2_with fail
  refine (l20Fixed0_any _ _ 3 _ du5.rd (by omega) (by omega)).mono ?_
  rintro e u6 ⟨Afb, nfb, cfb, xsfb, rfl, fb, ⟨lb, bib⟩, ⟨qu6, qu6l, qu6u, r_⟩, ho_⟩
  have du6 : DS _ u6 _ _ := ⟨r_, du5.only.trans ho_⟩
  have nsa_ := Mine.only sa ho_ (by omega)
  clear sa; have sa := nsa_; clear nsa_
  have zdu6 := du6.size
  have yfb := fb.len
  have yfb_ := hid yfb; clear yfb
  clear r_ ho_ du5
  have LBb := hid (And.intro lb bib); clear lb bib
  go_wp2_with fail
  refine (ds_pick 8 (du6) (by omega)).mono ?_
  rintro e u7 ⟨jb, rfl, hk_, du7, ho_, hs_⟩
  obtain ⟨jb0, jb1⟩ := hk_ (by omega)
  have nsa_ := Mine.only (sa) ho_ (by omega)
  clear sa; have sa := nsa_; clear nsa_
  have nfb_ := Mine.only (fb) ho_ (by omega)
  clear fb; have fb := nfb_; clear nfb_
  have zdu7 := du7.size
  clear hk_ ho_ hs_ du6
  have Bfb := fb.len; have Bfb_ := hid Bfb; clear Bfb
  obtain ⟨ba, _, hAa, _, hbaU, _⟩ := sa.own.blk (by omega)
  subst hAa
  go_wp2_with fail
  refine (spreadBits_spec _ _ _ _ _ jb _ fb.ri (Nat.le_refl _) (by have := Bfb_.out; have := LBb.out.1; omega)).mono ?_
  rintro e u8 ⟨Asb, nsb, csb, rfl, o_, hb_⟩
  have du8 := du7.below hb_
  have nsa_ := Mine.below sa hb_
  clear sa; have sa := nsa_; clear nsa_
  have nfb_ := Mine.below fb hb_
  clear fb; have fb := nfb_; clear nfb_
  have sb : Mine u8 _ Asb nsb csb _ := Mine.of_own o_
  have zdu8 := du8.size
  clear o_ hb_ du7 
  have Lb : Hid ((spreadBits xsfb jb).length = 24) := hid (by rw [spreadBits, if_pos ⟨bitsValid_iff.2 ⟨by have := LBb.out.1; omega, LBb.out.2⟩, by have := LBb.out.1; omega, by omega, by omega⟩, spreadL_len]; have := LBb.out.1; omega)
  have Nb : nsb = 24 := by have := sb.len; have := Lb.out; omega
  subst Nb
  clear fb
  go_wp2_with fail
  refine (ds_pick 9 (du8) (by omega)).mono ?_
  rintro e u9 ⟨k, rfl, hk_, du9, ho_, hs_⟩
  obtain ⟨k0, k1⟩ := hk_ (by omega)
  have nsa_ := Mine.only (sa) ho_ (by omega)
  clear sa; have sa := nsa_; clear nsa_
  have nsb_ := Mine.only (sb) ho_ (by omega)
  clear sb; have sb := nsb_; clear nsb_
  have zdu9 := du9.size
  clear hk_ ho_ hs_ du8
  have ca := sa.own.2.1; have cb := sb.own.2.1; have ma := sa.own.2.2.1; have mb := sb.own.2.2.1
  unfold maxLen at ma mb
  obtain ⟨bb, _, hAb, hbb, _⟩ := sb.own.blk (by omega)
  subst hAb
  have ra := RV.more sa.ri (Nat.le_refl _)
  have rb := sb.ri
  have rb1 := RI.drop sb.ri 1 (by omega)
  have HR := hid (And.intro ra (And.intro rb rb1))
  clear ra rb rb1
  have HO := hid (below_ds (w2 := u9) hb1 du9.only)
  by_cases hk0 : k = 0
  · subst hk0
    have hcb : ¬ csb = 1 := by omega
    clear sa sb
    go_wp2
    go_ret2
    exact ⟨_, 24, _, _, 23, _, _, _, rfl, HR.out.1, HR.out.2.2, by omega, by omega, HO.out⟩
  · by_cases hk1 : k = 1
    · subst hk1
      go_wp2_with fail
      refine (ds_pick 3 (du9.alloc _) (by omega)).mono ?_
      rintro e u0 ⟨t, rfl, hk_, d0, ho_, hs_⟩
      obtain ⟨t0, t1⟩ := hk_ (by omega)
      obtain ⟨y, hy, _⟩ := tab_get (ys := [1001, -1001, 1000]) ((Blk.new _ _ _).only ho_ (by omega)) rfl t t0 (by simp; omega) (P := fun _ => True) (by intros; trivial)
      have sa_ := (sa.alloc (.cells #[.int .i64 1001, .int .i64 (-1001), .int .i64 1000] 3)).only ho_ (by omega)
      have sb_ := (sb.alloc (.cells #[.int .i64 1001, .int .i64 (-1001), .int .i64 1000] 3)).only ho_ (by omega)
      obtain ⟨b, z, hbe, hb1', hb2, hz, hcz, hfr, sa2⟩ := sa_.stored (k := 3) (by omega) y
      injection hbe with hbe
      injection hbe with hbe _
      subst hbe
      have ds9 := d0.stored (b := ba) (k := 3) (by omega) (by omega) (.int .i64 y)
      have sb2 := sb_.far (k := 3) (b := ba) (by omega) (.int .i64 y)
      have HR2 := hid (And.intro sa2.ri sb2.ri)
      have HO2 := hid (below_ds hb1 ds9.only)
      have HZ := hid hz
      clear hz sa_ sb_ sa2 sb2 ds9 ho_ hs_ hk_ sa sb d0
      go_wp2
      go_ret2
      exact ⟨_, 24, _, _, 24, _, _, _, rfl, HR2.out.1, HR2.out.2, by omega, by omega, HO2.out⟩
    · have hk1b : (k == 1) = false := by simpa using hk1
      have hk0b : (k == 0) = false := by simpa using hk0
      clear sa sb
      go_wp2
      go_ret2
      exact ⟨_, 24, _, _, 24, _, _, _, rfl, HR.out.1, HR.out.2.1, by omega, by omega, HO.out⟩
end Go.Proofs.Ytgkkanamnhochaa
