/-
  The draws of the gain's laws: a gain, a sequence. Walked: they return, and what they return is of the kind that they promise; no more is said of it.
-/
import Derived.Test.YtdcljfpgjifijaaDraw
namespace Go.Proofs.Ytdcljfpgjifijaa
open Go.RowKit
set_option linter.unusedVariables false

theorem infoD : (Try.prog.info? 3).map (fun i => (i.zero, i.size, i.bytes)) = some (some (.int .i64 0), 1, 8) := by kernel_rfl

/-- The call returned an int with P; the reader has picked at most m times more; nothing else that was there has turned. -/
def DrawI (P : Int → Prop) (m g p : Nat) (w : World) (e : Ending) (w' : World) : Prop :=
  ∃ x : Int, e = .returned (.int .i64 x) ∧ P x ∧ (∃ q, q ≤ p + m ∧ Rd w' g q) ∧ Only g (g + 1) w w'
/-- The call returned a slice of ints of its own, with P. -/
def DrawS (P : List Int → Prop) (m g p : Nat) (w : World) (e : Ending) (w' : World) : Prop :=
  ∃ A n c xs, e = .returned (.slice A n c) ∧ OwnI w' 3 w.heap.size w'.heap.size A n c xs ∧ P xs ∧ (∃ q, q ≤ p + m ∧ Rd w' g q) ∧ Only g (g + 1) w w'

theorem l20Gain_any (g p : Nat) (w : World) (h : Rd w g p) (hp : p ≤ 10000000) :
    Calls Try.prog 41 #[.pointer (some ⟨g, 0, none⟩)] w fun e w' => DrawI (fun x => 0 ≤ x ∧ x ≤ 4097) 3 g p w e w' := by
  go_enter Try.func41, Try.ntmps41
  go_wp2_with fail
  refine (pick_any g p 256 _ h (by omega)).mono ?_
  rintro e w1 ⟨k1, rfl, hk1, _, hr1, ho1, hs1⟩
  obtain ⟨a0, a1⟩ := hk1 (by omega)
  have H1 := hid (And.intro hr1 ho1)
  clear hk1 hr1 ho1 hs1
  go_wp2_with fail
  refine (pick_any g (p + 1) 256 _ H1.out.1 (by omega)).mono ?_
  rintro e w2 ⟨k2, rfl, hk2, _, hr2, ho2, hs2⟩
  obtain ⟨b0, b1⟩ := hk2 (by omega)
  have H2 := hid (And.intro hr2 ho2)
  clear hk2 hr2 ho2 hs2
  have hg := H2.out.1.lt
  go_wp2_with fail
  refine (pick_any g (p + 2) 10 _ (Rd.alloc (Rd.alloc H2.out.1 _) _) (by omega)).mono ?_
  rintro e w3 ⟨k3, rfl, hk3, _, hr3, ho3, hs3⟩
  obtain ⟨c0, c1⟩ := hk3 (by omega)
  obtain ⟨y, hy, y0, y1⟩ := tab_get (ys := [0, 0, 1, 1, 2, 2, 3, 4, 5, 6]) ((Blk.new _ _ _).only ho3 (by simp; omega)) rfl k3 c0 c1 (P := fun y => 0 ≤ y ∧ y ≤ 6) (by intro y hy; simp at hy; omega)
  obtain ⟨z, hz, z0, z1⟩ := tab_get (ys := [256, 1 + k1, 1 + 16 * k2, 4096, 1, 0, 4097]) (((Blk.new _ _ _).alloc _).only ho3 (by omega)) rfl y y0 (by simp; omega) (P := fun y => 0 ≤ y ∧ y ≤ 4097) (by intro y hy; simp at hy; omega)
  have H3 := hid (And.intro hr3 ho3)
  clear hk3 hr3 ho3 hs3
  simp only [World.size_alloc] at hy
  go_wp2
  go_ret
  exact ⟨z, rfl, ⟨z0, z1⟩, ⟨p + 3, Nat.le_refl _, H3.out.1⟩, ((H1.out.2.trans H2.out.2).alloc _ |>.alloc _).trans H3.out.2⟩
set_option maxHeartbeats 1600000 in
theorem l20Sequence_any (g p : Nat) (most n : Int) (w : World) (h : Rd w g p) (hp : p ≤ 10000000) (hm0 : 0 ≤ most) (hm1 : most ≤ 1000) (hn : n ≤ 1000000) :
    Calls Try.prog 33 #[.pointer (some ⟨g, 0, none⟩), .int .i64 most, .int .i64 n] w fun e w' => DrawS (fun xs => xs.length ≤ 2000) 10000 g p w e w' := by
  obtain ⟨i0, hi0, hz0, hz1, hz2⟩ := info_parts infoD
  have hmk : ∀ w, (Instr.makeSlice 22 (.int .i64 65) (.int .i64 65)).run Try.prog w = .ok (.slice (some ⟨w.heap.size, 0, none⟩) 65 65) (w.alloc (.cells (madeCells #[.int .i64 0] 65) 3)) :=
    fun w => run_make_row' (P := Try.prog) 22 3 (.int .i64 0) 8 Try.underlying22 infoD rfl .i64 .i64 65 (by omega) (by omega) w
  have hg := h.lt
  have HMK := hid hmk
  clear hmk
  go_enter Try.func33, Try.ntmps33
  go_wp2_with fail
  refine (pick_any g p (most + 1) _ (Rd.alloc h _) (by omega)).mono ?_
  rintro e w1 ⟨k0, rfl, hk0, _, hr1, ho1, hs1⟩
  obtain ⟨a0, a1⟩ := hk0 (by omega)
  have hown1 := own_only (own_lit0 (w := w) (base := w.heap.size) 3 (Nat.le_refl _)) ho1 (.inl (by omega))
  have ho1' := ((Only.refl g (g + 1) w).alloc _).trans ho1
  clear hk0 ho1 hs1
  go_wp2_with fail
  go_loopw [7, 8] (fun v k wr => ∃ (j l cc q : Nat) (AA : Option Addr) (ys : List Int), k = .int .i64 j ∧ v = .slice AA l cc ∧ wr.ownsRow w.heap.size 3 1 (.slice AA l cc) l (ys.map (Value.int .i64)) ∧ l + j ≤ 1000 ∧ Rd wr g q ∧ q + 3 * j ≤ p + 3001 ∧ Only g (g + 1) w wr)
    (fun _ k _ => (intOf k).toNat)
  case atStart =>
    obtain ⟨j, rfl⟩ := Int.eq_ofNat_of_zero_le a0
    exact ⟨j, 0, 0, p + 1, _, [], rfl, rfl, hown1, by omega, hr1, by omega, ho1'⟩
  case round =>
    clear hown1 ho1' hr1
    obtain ⟨j, l, cc, q, AA, ys, rfl, rfl, hown, hlj, hrd, hq, hO⟩ := hrel
    have hsz := hO.size
    by_cases hj : 0 < j
    · have hj' : (0 : Int) < (j : Int) := by omega
      have HW := hid (And.intro hown hO)
      clear hown hO
      go_wp2_with fail
      refine (pick_any g q 9 _ hrd (by omega)).mono ?_
      rintro e w2 ⟨k1, rfl, hk1, _, hr2, ho2, hs2⟩
      obtain ⟨b0, b1⟩ := hk1 (by omega)
      have H2 := hid (And.intro hr2 ho2)
      clear hk1 hr2 ho2 hs2 hrd
      go_wp2_with fail
      refine (pick_any g (q + 1) 200 _ H2.out.1 (by omega)).mono ?_
      rintro e w3 ⟨k2, rfl, hk2, _, hr3, ho3, hs3⟩
      obtain ⟨c0, c1⟩ := hk2 (by omega)
      have H3 := hid (And.intro hr3 ho3)
      clear hk2 hr3 ho3 hs3
      have hg3 := H3.out.1.lt
      go_wp2_with fail
      refine (pick_any g (q + 2) 8 _ (Rd.alloc (Rd.alloc H3.out.1 _) _) (by omega)).mono ?_
      rintro e w4 ⟨k3, rfl, hk3, _, hr4, ho4, hs4⟩
      obtain ⟨d0, d1⟩ := hk3 (by omega)
      obtain ⟨y, hy, y0, y1⟩ := tab_get (ys := [0, 0, 0, 0, 1, 1, 2, 3]) ((Blk.new _ _ _).only ho4 (by simp; omega)) rfl k3 d0 d1 (P := fun y => 0 ≤ y ∧ y ≤ 3) (by intro y hy; simp at hy; omega)
      obtain ⟨z, hz, _⟩ := tab_get (ys := [k1 - 4, k2 - 100, 1000, -1000]) (((Blk.new _ _ _).alloc _).only ho4 (by omega)) rfl y y0 (by simp; omega) (P := fun _ => True) (by intros; trivial)
      have hO4 : Only g (g + 1) w w4 := ((((HW.out.2.trans H2.out.2).trans H3.out.2).alloc _).alloc _).trans ho4
      have hown4 : w4.ownsRow w.heap.size 3 1 (.slice AA l cc) l (ys.map (Value.int .i64)) :=
        own_only (((own_only (own_only HW.out.1 H2.out.2 (.inl (by omega))) H3.out.2 (.inl (by omega))).alloc _).alloc _) ho4 (.inl (by omega))
      have H4 := hid (And.intro hr4 (And.intro hO4 hown4))
      have hsz4 := hO4.size
      clear hk3 hr4 ho4 hs4 hO4 hown4
      simp only [World.size_alloc] at hy
      go_wp2_with (at_builtin; refine wpList_push rfl _ _ _ rfl w.heap.size 3 i0 _ 8 Try.underlying22 hi0 hz0 hz1 hz2 rfl (by omega) _ _ AA l cc _ rfl H4.out.2.2 rfl rfl (by omega) (by omega) ?_; intro g' cap w5 hown5 hgrow5 hlies5 hlt5)
      have hO5 := H4.out.2.1.grown hgrow5 (fun k hk => (H4.out.2.2.lt k hk).1)
      have hr5 : Rd w5 g (q + 3) := by
        have hb : Below w.heap.size w4 w5 := (Below.refl _ _).grown hgrow5 (by omega) (fun k hk => (H4.out.2.2.lt k hk).1)
        exact H4.out.1.below hb hg
      go_roundw
      case rel => exact ⟨j - 1, l + 1, cap, q + 3, _, ys ++ [z], congrArg (Value.int .i64) (by omega), rfl, by rw [List.map_append]; exact hown5, by omega, hr5, by omega, hO5⟩
      case measure => simp [intOf]; omega
    · have hj0 : j = 0 := by omega
      subst hj0
      have HW := hid (And.intro hown hO)
      clear hown hO
      go_wp2_with fail
      refine (odd_any g q n _ hrd (by omega) (by omega)).mono ?_
      rintro e w2 ⟨b, rfl, ⟨q', hq', hr2⟩, ho2, hs2⟩
      have hown2 := own_only HW.out.1 ho2 (.inl (by omega))
      have hO2 := HW.out.2.trans ho2
      have hsz2 := hO2.size
      have H2 := hid (And.intro hr2 (And.intro hO2 hown2))
      clear hr2 ho2 hs2 hO2 hown2 hrd
      cases b
      · go_wp2
        go_ret
        obtain ⟨A', c', hv, hoV⟩ := ownV_of H2.out.2.2
        exact ⟨A', l, c', ys, congrArg Ending.returned hv, hoV, by have := OwnI.len hoV; omega, ⟨q', by omega, H2.out.1⟩, H2.out.2.1⟩
      · go_wp2_with fail
        refine (pick_any g q' 2 _ H2.out.1 (by omega)).mono ?_
        rintro e w3 ⟨k1, rfl, hk1, _, hr3, ho3, hs3⟩
        obtain ⟨b0, b1⟩ := hk1 (by omega)
        have hown3 := own_only H2.out.2.2 ho3 (.inl (by omega))
        have hO3 := H2.out.2.1.trans ho3
        have hsz3 := hO3.size
        have H3 := hid (And.intro hr3 (And.intro hO3 hown3))
        clear hk1 hr3 ho3 hs3 hO3 hown3
        by_cases hk : k1 = 0
        · subst hk
          go_wp2_with (at_builtin; refine wpList_push rfl _ _ _ rfl w.heap.size 3 i0 _ 8 Try.underlying22 hi0 hz0 hz1 hz2 rfl (by omega) _ _ AA l cc _ rfl H3.out.2.2 rfl rfl (by omega) (by omega) ?_; intro g' cap w5 hown5 hgrow5 hlies5 hlt5)
          have hO5 := H3.out.2.1.grown hgrow5 (fun k hk => (H3.out.2.2.lt k hk).1)
          have hr5 : Rd w5 g (q' + 1) := by
            have hb : Below w.heap.size w3 w5 := (Below.refl _ _).grown hgrow5 (by omega) (fun k hk => (H3.out.2.2.lt k hk).1)
            exact H3.out.1.below hb hg
          go_ret
          obtain ⟨A', c', hv, hoV⟩ := ownV_of hown5
          exact ⟨A', l + 1, c', ys ++ [1001], congrArg Ending.returned hv, by unfold OwnI; rw [List.map_append]; exact hoV, by have := OwnV.len hoV; simp at this; simp; omega, ⟨q' + 1, by omega, hr5⟩, hO5⟩
        · have hkb : (k1 == 0) = false := by simpa using hk
          have hmk := HMK.out
          go_wp2
          go_ret
          exact ⟨_, 65, 65, List.replicate 65 0, rfl, ownV_blk (blk_made w3 _ 65 (0 : Int) rfl) (by omega) (by simp) (by simp) (by unfold maxLen; omega), by simp, ⟨q' + 1, by omega, Rd.alloc H3.out.1 _⟩, H3.out.2.1.alloc _⟩
end Go.Proofs.Ytdcljfpgjifijaa
