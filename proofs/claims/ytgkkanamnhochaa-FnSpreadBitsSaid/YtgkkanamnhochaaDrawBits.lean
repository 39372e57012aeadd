/-
  l20Bits, walked: it returns a list of its own, of at most 2000 numbers.
-/
import Derived.Test.YtgkkanamnhochaaDrawS
namespace Go.Proofs.Ytgkkanamnhochaa
open Go.RowKit
set_option linter.unusedVariables false

set_option maxHeartbeats 1600000 in
theorem l20Bits_any (g p : Nat) (most n : Int) (w : World) (h : Rd w g p) (hp : p ≤ 10000000) (hm0 : 0 ≤ most) (hm1 : most ≤ 1000) (hn : n ≤ 1000000) :
    Calls Try.prog 48 #[.pointer (some ⟨g, 0, none⟩), .int .i64 most, .int .i64 n] w fun e w' => DrawS (fun xs => xs.length ≤ 2000) 10000 g p w e w' := by
  obtain ⟨i0, hi0, hz0, hz1, hz2⟩ := info_parts infoD
  have hg := h.lt
  go_enter Try.func48, Try.ntmps48
  go_wp2_with fail
  refine (pick_any g p 4 _ (Rd.alloc h _) (by omega)).mono ?_
  rintro e w1 ⟨k0, rfl, hk0, _, hr1, ho1, hs1⟩
  obtain ⟨a0, a1⟩ := hk0 (by omega)
  have hown1 := own_only (own_lit0 (w := w) (base := w.heap.size) 3 (Nat.le_refl _)) ho1 (.inl (by omega))
  have ho1' := ((Only.refl g (g + 1) w).alloc _).trans ho1
  clear hk0 ho1 hs1
  go_wp2_with fail
  refine (pick_any g (p + 1) 2 _ hr1 (by omega)).mono ?_
  rintro e w2 ⟨k1, rfl, hk1, _, hr2, ho2, hs2⟩
  obtain ⟨b0, b1⟩ := hk1 (by omega)
  have hown2 := own_only hown1 ho2 (.inl (by omega))
  have ho2' := ho1'.trans ho2
  clear hk1 ho2 hs2 hown1 ho1' hr1
  go_wp2_with fail
  refine (pick_any g (p + 2) (most + 1) _ hr2 (by omega)).mono ?_
  rintro e w3 ⟨k2, rfl, hk2, _, hr3, ho3, hs3⟩
  obtain ⟨c0, c1⟩ := hk2 (by omega)
  have hown3 := own_only hown2 ho3 (.inl (by omega))
  have ho3' := ho2'.trans ho3
  clear hk2 ho3 hs3 hown2 ho2' hr2
  go_wp2_with fail
  go_loopw [7, 9, 10] (fun v nv k wr => ∃ (j l cc q : Nat) (AA : Option Addr) (ys : List Int) (z : Int), k = .int .i64 j ∧ nv = .int .i64 z ∧ v = .slice AA l cc ∧ wr.ownsRow w.heap.size 3 1 (.slice AA l cc) l (ys.map (Value.int .i64)) ∧ l + j ≤ 1000 ∧ Rd wr g q ∧ q + 3 * j ≤ p + 3003 ∧ Only g (g + 1) w wr)
    (fun _ _ k _ => (intOf k).toNat)
  case atStart =>
    obtain ⟨j, rfl⟩ := Int.eq_ofNat_of_zero_le c0
    exact ⟨j, 0, 0, p + 3, _, [], k1, rfl, rfl, rfl, hown3, by omega, hr3, by omega, ho3'⟩
  case round =>
    clear hown3 ho3' hr3
    obtain ⟨j, l, cc, q, AA, ys, z, rfl, rfl, rfl, hown, hlj, hrd, hq, hO⟩ := hrel
    have hsz := hO.size
    have HW := hid (And.intro hown hO)
    clear hown hO
    by_cases hj : 0 < j
    · have hj' : (0 : Int) < (j : Int) := by omega
      go_wp2_with fail
      refine (pick_any g q (1 + k0) _ hrd (by omega)).mono ?_
      rintro e w4 ⟨k4, rfl, hk4, _, hr4, ho4, hs4⟩
      obtain ⟨d0, d1⟩ := hk4 (by omega)
      have hown4 := own_only HW.out.1 ho4 (.inl (by omega))
      have hO4 := HW.out.2.trans ho4
      have H4 := hid (And.intro hr4 (And.intro hO4 hown4))
      have hsz4 := hO4.size
      clear hk4 hr4 ho4 hs4 hO4 hown4
      by_cases hz : k4 = 0
      · subst hz
        go_wp2_with fail
        refine (pick_any g (q + 1) 2 _ H4.out.1 (by omega)).mono ?_
        rintro e w5 ⟨k5, rfl, hk5, _, hr5, ho5, hs5⟩
        obtain ⟨e0, e1⟩ := hk5 (by omega)
        have hown5 := own_only H4.out.2.2 ho5 (.inl (by omega))
        have hO5 := H4.out.2.1.trans ho5
        have H5 := hid (And.intro hr5 (And.intro hO5 hown5))
        have hsz5 := hO5.size
        clear hk5 hr5 ho5 hs5 hO5 hown5
        go_wp2_with (at_builtin; refine wpList_push rfl _ _ _ rfl w.heap.size 3 i0 _ 8 Try.underlying22 hi0 hz0 hz1 hz2 rfl (by omega) _ _ AA l cc _ rfl H5.out.2.2 rfl rfl (by omega) (by omega) ?_; intro g' cap w6 hown6 hgrow6 hlies6 hlt6)
        have hO6 := H5.out.2.1.grown hgrow6 (fun k hk => (H5.out.2.2.lt k hk).1)
        have hr6 : Rd w6 g (q + 2) := H5.out.1.below ((Below.refl _ _).grown hgrow6 (by omega) (fun k hk => (H5.out.2.2.lt k hk).1)) hg
        go_roundw
        case rel => exact ⟨j - 1, l + 1, cap, q + 2, _, ys ++ [k5], k5, congrArg (Value.int .i64) (by omega), rfl, rfl, by rw [List.map_append]; exact hown6, by omega, hr6, by omega, hO6⟩
        case measure => simp [intOf]; omega
      · go_wp2_with (at_builtin; refine wpList_push rfl _ _ _ rfl w.heap.size 3 i0 _ 8 Try.underlying22 hi0 hz0 hz1 hz2 rfl (by omega) _ _ AA l cc _ rfl H4.out.2.2 rfl rfl (by omega) (by omega) ?_; intro g' cap w6 hown6 hgrow6 hlies6 hlt6)
        have hO6 := H4.out.2.1.grown hgrow6 (fun k hk => (H4.out.2.2.lt k hk).1)
        have hr6 : Rd w6 g (q + 1) := H4.out.1.below ((Below.refl _ _).grown hgrow6 (by omega) (fun k hk => (H4.out.2.2.lt k hk).1)) hg
        go_roundw
        case rel => exact ⟨j - 1, l + 1, cap, q + 1, _, ys ++ [z], z, congrArg (Value.int .i64) (by omega), rfl, rfl, by rw [List.map_append]; exact hown6, by omega, hr6, by omega, hO6⟩
        case measure => simp [intOf]; omega
    · have hj0 : j = 0 := by omega
      subst hj0
      go_wp2_with fail
      refine (odd_any g q n _ hrd (by omega) (by omega)).mono ?_
      rintro e w4 ⟨b, rfl, ⟨q', hq', hr4⟩, ho4, hs4⟩
      have hown4 := own_only HW.out.1 ho4 (.inl (by omega))
      have hO4 := HW.out.2.trans ho4
      have hsz4 := hO4.size
      have H4 := hid (And.intro hr4 (And.intro hO4 hown4))
      clear hr4 ho4 hs4 hO4 hown4 hrd
      cases b
      · go_wp2
        go_ret
        obtain ⟨A', c', hv, hoV⟩ := ownV_of H4.out.2.2
        exact ⟨A', l, c', ys, congrArg Ending.returned hv, hoV, by have := OwnI.len hoV; omega, ⟨q', by omega, H4.out.1⟩, H4.out.2.1⟩
      · have hg4 := H4.out.1.lt
        go_wp2_with fail
        refine (pick_any g q' 2 _ (Rd.alloc H4.out.1 _) (by omega)).mono ?_
        rintro e w5 ⟨k5, rfl, hk5, _, hr5, ho5, hs5⟩
        obtain ⟨e0, e1⟩ := hk5 (by omega)
        obtain ⟨y, hy, _⟩ := tab_get (ys := [2, -1]) ((Blk.new _ _ _).only ho5 (by omega)) rfl k5 e0 (by simp; omega) (P := fun _ => True) (by intros; trivial)
        have hown5 := own_only (H4.out.2.2.alloc _) ho5 (.inl (by omega))
        have hO5 := (H4.out.2.1.alloc _).trans ho5
        have H5 := hid (And.intro hr5 (And.intro hO5 hown5))
        have hsz5 := hO5.size
        clear hk5 hr5 ho5 hs5 hO5 hown5
        go_wp2_with (at_builtin; refine wpList_push rfl _ _ _ rfl w.heap.size 3 i0 _ 8 Try.underlying22 hi0 hz0 hz1 hz2 rfl (by omega) _ _ AA l cc _ rfl H5.out.2.2 rfl rfl (by omega) (by omega) ?_; intro g' cap w6 hown6 hgrow6 hlies6 hlt6)
        have hO6 := H5.out.2.1.grown hgrow6 (fun k hk => (H5.out.2.2.lt k hk).1)
        have hr6 : Rd w6 g (q' + 1) := H5.out.1.below ((Below.refl _ _).grown hgrow6 (by omega) (fun k hk => (H5.out.2.2.lt k hk).1)) hg
        go_wp2
        go_ret
        have hown6' : w6.ownsRow w.heap.size 3 1 (.slice (some ⟨g', 0, none⟩) (l + 1) cap) (l + 1) ((ys ++ [y]).map (Value.int .i64)) := by rw [List.map_append]; exact hown6
        obtain ⟨A', c', hv, hoV⟩ := ownV_of hown6'
        exact ⟨A', l + 1, c', ys ++ [y], congrArg Ending.returned hv, hoV, by have := OwnI.len hoV; omega, ⟨q' + 1, by omega, hr6⟩, hO6⟩
end Go.Proofs.Ytgkkanamnhochaa
