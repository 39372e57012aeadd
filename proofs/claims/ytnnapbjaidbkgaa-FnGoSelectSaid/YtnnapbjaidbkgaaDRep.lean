/-
  The draws of the repetition's laws, walked: l20Lost, DrawStopAndWait.
-/
import Derived.Test.YtnnapbjaidbkgaaDr
import Derived.OpenShut
import Derived.OwnWalk
namespace Go.Proofs.Ytnnapbjaidbkgaa
open Go.RowKit
set_option linter.unusedVariables false

theorem infoBl : (Try.prog.info? 4).map (fun i => (i.zero, i.size, i.bytes)) = some (some (.bool false), 1, 1) := by kernel_rfl
/-- A slice of bools of the draw's own. -/
def MineT (w : World) (lo : Nat) (A : Option Addr) (n c : Nat) (xs : List Bool) : Prop := w.ownsRow lo 4 1 (.slice A n c) n (xs.map Value.bool)
section
variable {w0 w w' : World} {g q lo n c : Nat} {A : Option Addr} {xs : List Bool}
theorem MineT.alloc (h : MineT w lo A n c xs) (o : Obj) : MineT (w.alloc o) lo A n c xs := World.ownsRow.alloc h o
theorem MineT.only (h : MineT w lo A n c xs) (ho : Only g (g + 1) w w') (hg : g < lo) : MineT w' lo A n c xs := own_only h ho (.inl hg)
theorem MineT.own (h : MineT w lo A n c xs) : OwnT w 4 lo w.heap.size A n c xs := by
  obtain ⟨A', c', hv, ho⟩ := ownV_of h
  injection hv with e1 _ e2
  subst e1 e2
  exact ho
theorem MineT.rt (h : MineT w lo A n c xs) : RT w w.heap.size A n xs := OwnT.rt h.own
theorem MineT.len (h : MineT w lo A n c xs) : xs.length = n := OwnT.len h.own
theorem DS.grownT (h : DS w0 w g q) (hm : MineT w lo A n c xs) (hg : w.grownBy w' (Value.ownBlock (.slice A n c))) (hlo : g < lo) (hw : w0.heap.size ≤ lo) (hz : lo ≤ w.heap.size) : DS w0 w' g q :=
  ⟨h.rd.below (B := lo) ((Below.refl _ _).grown hg hz (fun k hk => (World.ownsRow.lt hm k hk).1)) hlo, h.only.grown hg (fun k hk => Nat.le_trans hw (World.ownsRow.lt hm k hk).1)⟩
end
/-- What a draw of a slice of bools promises. -/
def GivesT (m g q : Nat) (w : World) (e : Ending) (w' : World) : Prop :=
  ∃ A n c xs, e = .returned (.slice A n c) ∧ MineT w' w.heap.size A n c xs ∧ n ≤ 1000 ∧ (∃ q', q ≤ q' ∧ q' ≤ q + m ∧ Rd w' g q') ∧ Only g (g + 1) w w'

set_option maxRecDepth 100000 in
set_option maxHeartbeats 1600000 in
theorem l20Lost_any (g q : Nat) (w : World) (h : Rd w g q) (hq : q ≤ 10000000) :
    Calls Try.prog 32 #[.pointer (some ⟨g, 0, none⟩)] w fun e w' => GivesT 1000 g q w e w' := by
  obtain ⟨i0, hi0, hz0, hz1, hz2⟩ := info_parts infoBl
  have hmk := run_make_row' (P := Try.prog) 22 4 (.bool false) 1 Try.underlying22 infoBl rfl .i64 .i64 320 (by omega) (by omega)
  have HMK : Hid (∀ w, (Instr.makeSlice 22 (.int .i64 320) (.int .i64 320)).run Try.prog w = .ok (.slice (some ⟨w.heap.size, 0, none⟩) 320 320) (w.alloc (.cells (madeCells #[.bool false] 320) 4))) := hid hmk
  have hg := h.lt
  have ds0 := (DS.start h).alloc (.cells #[] 4)
  have m0 : MineT (w.alloc (.cells #[] 4)) w.heap.size (some ⟨w.heap.size, 0, none⟩) 0 0 [] := own_lit0 _ (Nat.le_refl _)
  clear hmk h
  go_enter Try.func32, Try.ntmps32
  go_wp2_with fail
  refine (ds_pick 5 ds0 (by omega)).mono ?_
  rintro e u1 ⟨ra, rfl, hk_, du1, ho_, hs_⟩
  obtain ⟨ra0, ra1⟩ := hk_ (by omega)
  have m1 := m0.only ho_ (by omega)
  clear m0; have m0 := m1; clear m1 hk_ ho_ hs_ ds0
  have zdu1 := du1.size
  go_wp2_with fail
  refine (ds_pick 40 du1 (by omega)).mono ?_
  rintro e u2 ⟨kk, rfl, hk_, du2, ho_, hs_⟩
  obtain ⟨kk0, kk1⟩ := hk_ (by omega)
  have m1 := m0.only ho_ (by omega)
  clear m0; have m0 := m1; clear m1 hk_ ho_ hs_ du1
  have zdu2 := du2.size
  obtain ⟨K, rfl⟩ := Int.eq_ofNat_of_zero_le kk0
  go_wp2_with fail
  go_loopw [3, 5] (fun v k wr => ∃ (j l cc q1 : Nat) (AA : Option Addr) (ys : List Bool), k = .int .i64 j ∧ v = .slice AA l cc ∧ MineT wr w.heap.size AA l cc ys ∧ l + j ≤ 40 ∧ DS w wr g q1 ∧ q ≤ q1 ∧ q1 + j ≤ q + 50) (fun _ k _ => (intOf k).toNat)
  case atStart => exact ⟨K, 0, 0, ((q + 1) + 1), _, [], rfl, rfl, m0, by omega, du2, by omega, by omega⟩
  case round =>
    clear m0 du2
    obtain ⟨j, l, cc, q1, AA, ys, rfl, rfl, m0, hlj, ds0, hq1, hq2⟩ := hrel
    have zds0 := ds0.size
    by_cases hj : 0 < j
    · have hj' : (0 : Int) < (j : Int) := by omega
      go_wp2_with fail
      refine (ds_pick (1 + ra + 1) ds0 (by omega)).mono ?_
      rintro e u3 ⟨k, rfl, hk_, du3, ho_, hs_⟩
      obtain ⟨k0, k1⟩ := hk_ (by omega)
      have m1 := m0.only ho_ (by omega)
      clear m0; have m0 := m1; clear m1 hk_ ho_ hs_ ds0
      have zdu3 := du3.size
      go_wp2_with (at_builtin; refine wpList_push rfl _ _ _ rfl w.heap.size 4 i0 _ 1 Try.underlying22 hi0 hz0 hz1 hz2 rfl (by omega) _ _ AA l cc _ rfl m0 rfl rfl (by omega) (by omega) ?_; intro g_ cap_ w6 hown_ hgrow_ hlies_ hlt_)
      have d6 := du3.grownT m0 hgrow_ (by omega) (by omega) (by omega)
      go_roundw
      case rel => exact ⟨j - 1, l + 1, cap_, q1 + 1, _, ys ++ [k == 0], congrArg (Value.int .i64) (by omega), rfl, by unfold MineT; rw [List.map_append]; exact hown_, by omega, d6, by omega, by omega⟩
      case measure => simp [intOf]; omega
    · skip
      have hj0 : j = 0 := by omega
      subst hj0
      go_wp2_with fail
      refine (ds_odd 20 ds0 (by omega) (by omega)).mono ?_
      rintro e w4 ⟨b, rfl, ⟨q4, q4l, q4u, d4⟩, ho_, hs_⟩
      have m4 := m0.only ho_ (by omega)
      have z4 := d4.size
      clear m0 ds0 ho_ hs_
      cases b
      · have M := hid m4
        clear m4
        go_wp2
        go_ret
        exact ⟨AA, l, cc, ys, rfl, M.out, by omega, ⟨q4, by omega, by omega, d4.rd⟩, d4.only⟩
      · have hg4 := d4.lt
        have hmk := HMK.out
        clear m4
        go_wp2
        clear hmk
        go_loopw [6] (fun iv wr => ∃ (i : Nat) (zs : List Bool), i ≤ 320 ∧ iv = .int .i64 i ∧ Blk wr w4.heap.size 4 (zs.map Value.bool).toArray ∧ Hid (zs.length = 320) ∧ DS w wr g q4) (fun iv _ => 320 - (intOf iv).toNat)
        case atStart => exact ⟨0, List.replicate 320 false, Nat.zero_le _, rfl, blk_made w4 _ 320 false rfl, hid List.length_replicate, d4.alloc _⟩
        case round =>
          obtain ⟨i, zs, hi, rfl, hblk, HZ, ds5⟩ := hrel
          by_cases hlt : i < 320
          · obtain ⟨y, _, hcy⟩ := hblk.cellL (k := i) (by rw [HZ.out]; exact hlt)
            have hfr := hblk.frozen i
            have hblk2 := hblk.setL i true
            have ds6 := ds5.stored (b := w4.heap.size) (k := i) (by omega) (by omega) (.bool true)
            have H6 := hid (And.intro hblk2 ds6)
            have hi0' : (0 : Int) ≤ (i : Int) := by omega
            have hi1' : (i : Int) < 320 := by omega
            clear hblk hblk2 ds5 ds6
            go_wp2
            go_roundw
            case rel => exact ⟨i + 1, _, by omega, by go_num, H6.out.1, hid (by rw [List.length_set]; exact HZ.out), H6.out.2⟩
            case measure => simp [intOf]; omega
          · have H6 := hid (And.intro hblk ds5)
            clear hblk ds5
            go_wp2
            go_ret
            exact ⟨_, 320, 320, zs, rfl, (ownV_blk H6.out.1 z4 H6.out.1.lt (by rw [List.length_map]; exact HZ.out) (by unfold maxLen; omega)).own, by omega, ⟨q4, by omega, by omega, H6.out.2.rd⟩, H6.out.2.only⟩
theorem below_ds {w w1 w2 : World} (hb : Below w.heap.size w w1) (ho : Only w.heap.size (w.heap.size + 1) w1 w2) : Below w.heap.size w w2 :=
  hb.trans (ho.below (Nat.le_refl _) hb.size)
/-- The call returned an int and two slices of bools; nothing that was there has turned. -/
def DrawnKTT (w : World) (e : Ending) (w' : World) : Prop :=
  ∃ k A n c A' n' c' xs ys, e = .returned (.tuple #[.int .i64 k, .slice A n c, .slice A' n' c']) ∧ (0 ≤ k ∧ k ≤ 100) ∧ RT w' w'.heap.size A n xs ∧ RT w' w'.heap.size A' n' ys ∧ n ≤ 1000 ∧ n' ≤ 1000 ∧ Below w.heap.size w w'
set_option maxHeartbeats 1600000 in
theorem drawStopAndWait_any (A : Option Addr) (n c B : Nat) (bs : List Int) (w : World) (h : RB w B A n bs) (hB : B ≤ w.heap.size) (hc : n ≤ c) (hn : n ≤ 1048576) (hb : ∀ x ∈ bs, 0 ≤ x ∧ x ≤ 255) :
    Calls Try.prog 18 #[.slice A n c] w fun e w' => DrawnKTT w e w' := by
  have ho := l20Open_any A n c B bs w h hB hc hn hb
  clear hb h
  go_enter Try.func18, Try.ntmps18
  go_wp2_with fail
  refine ho.mono ?_
  rintro e w1 ⟨rfl, hr, hb1, hs1⟩
  have ds0 := DS.start hr
  have hgl := ds0.lt
  clear hs1 ho hr
  go_wp2_with fail
  refine (ds_pick 12 (ds0) (by omega)).mono ?_
  rintro e u4 ⟨ka, rfl, hk_, du4, ho_, hs_⟩
  obtain ⟨ka0, ka1⟩ := hk_ (by omega)
  have zdu4 := du4.size
  clear hk_ ho_ hs_ ds0
  go_wp2_with fail
  refine (ds_pick 14 (du4) (by omega)).mono ?_
  rintro e u5 ⟨kb, rfl, hk_, du5, ho_, hs_⟩
  obtain ⟨kb0, kb1⟩ := hk_ (by omega)
  have zdu5 := du5.size
  clear hk_ ho_ hs_ du4
  go_wp2_with fail
  refine (l20Lost_any _ _ _ du5.rd (by omega)).mono ?_
  rintro e w2 ⟨A2, n2, c2, xs, rfl, m2, hn2, ⟨q2, q2l, q2u, r2⟩, ho2⟩
  have d2 := du5.only.trans ho2
  have z2 := d2.size
  clear ho2 du5
  go_wp2_with fail
  refine (l20Lost_any _ _ _ r2 (by omega)).mono ?_
  rintro e w3 ⟨A3, n3, c3, ys, rfl, m3, hn3, ⟨q3, q3l, q3u, r3⟩, ho3⟩
  have m2' := m2.only ho3 (by omega)
  have H3 := hid (And.intro m2'.rt (And.intro m3.rt (d2.trans ho3)))
  clear m2 m2' m3 d2 ho3 r2 r3
  go_wp2
  go_ret3
  exact ⟨_, A2, n2, c2, A3, n3, c3, xs, ys, rfl, by constructor <;> omega, H3.out.1, H3.out.2.1, hn2, hn3, below_ds hb1 H3.out.2.2⟩
end Go.Proofs.Ytnnapbjaidbkgaa
