/-
  The draw of powers, walked: l20Powers.
-/
import Derived.Test.YtajnpmnedghckaaDPow
namespace Go.Proofs.Ytajnpmnedghckaa
open Go.RowKit
set_option linter.unusedVariables false

set_option maxRecDepth 100000 in
set_option maxHeartbeats 3200000 in
theorem l20Powers_any (g q n c : Nat) (A : Option Addr) (N G : Int) (w : World) (h : Rd w g q) (hq : q ≤ 10000000) (hn : n ≤ 10) :
    Calls Try.prog 42 #[.pointer (some ⟨g, 0, none⟩), .agg #[.slice A n c, .int .i64 N, .int .i64 G]] w fun e w' => GivesI (fun xs => xs.length ≤ 11) 100 g q w e w' := by
  obtain ⟨i0, hi0, hz0, hz1, hz2⟩ := info_parts infoDr
  have hg := h.lt
  obtain ⟨WB, HWB⟩ : ∃ W : World, W = w.alloc (.cells #[.slice A n c, .int .i64 N, .int .i64 G] 27) := ⟨_, rfl⟩
  have hWB : WB.heap.size = w.heap.size + 1 := by rw [HWB]; simp
  have ds0 : DS w WB g q := by rw [HWB]; exact (DS.start h).alloc _
  have kB0 : Blk WB w.heap.size 27 #[.slice A n c, .int .i64 N, .int .i64 G] := by rw [HWB]; exact Blk.new _ _ _
  have ds1 := ds0.alloc (.cells #[] 3)
  have kB := kB0.alloc (.cells #[] 3)
  have out : Mine (WB.alloc (.cells #[] 3)) (w.heap.size + 1) (some ⟨WB.heap.size, 0, none⟩) 0 0 [] := mine_lit0 WB (by omega)
  rw [hWB] at out
  obtain ⟨c0, c1, c2⟩ := blk3 kB
  have HZ := hid (And.intro ds1 (And.intro kB out))
  clear h ds0 kB0 ds1 kB out
  go_enter Try.func42, Try.ntmps42
  go_wp2_with fail
  simp only [← HWB]
  clear HWB c0 c1 c2
  go_loopw [5, 6] (fun v i wr => ∃ (k cc q1 : Nat) (AA : Option Addr) (ys : List Int), k ≤ n ∧ i = .int .i64 k ∧ v = .slice AA k cc ∧ Mine wr (w.heap.size + 1) AA k cc ys ∧ Blk wr w.heap.size 27 #[.slice A n c, .int .i64 N, .int .i64 G] ∧ DS w wr g q1 ∧ q ≤ q1 ∧ q1 ≤ q + 3 * k) (fun _ i _ => n - (intOf i).toNat)
  case atStart => exact ⟨0, 0, _, _, [], Nat.zero_le _, rfl, rfl, HZ.out.2.2, HZ.out.2.1, HZ.out.1, by omega, by omega⟩
  case round =>
    clear HZ
    obtain ⟨k, cc, q1, AA, ys, hk, rfl, rfl, out, kB, ds1, hq1, hq2⟩ := hrel
    have zz := ds1.size
    have hbl := kB.lt
    obtain ⟨c0, c1, c2⟩ := blk3 kB
    by_cases hlt : k < n
    · skip
      go_wp2_with fail
      refine (ds_pick 200 (ds1) (by omega)).mono ?_
      rintro e wx1 ⟨pa, rfl, hk_, dwx1, ho_, hs_⟩
      obtain ⟨pa0, pa1⟩ := hk_ (by omega)
      have nout_ := Mine.only (out) ho_ (by omega)
      clear out; have out := nout_; clear nout_
      have nkB_ := Blk.only (kB) ho_ (by omega)
      clear kB; have kB := nkB_; clear nkB_
      have zdwx1 := dwx1.size
      have ydwx1 := ho_.size
      clear hk_ ho_ hs_ ds1
      clear c0 c1 c2
      go_wp2_with fail
      refine (ds_pick 9 (dwx1) (by omega)).mono ?_
      rintro e wx2 ⟨pb, rfl, hk_, dwx2, ho_, hs_⟩
      obtain ⟨pb0, pb1⟩ := hk_ (by omega)
      have nout_ := Mine.only (out) ho_ (by omega)
      clear out; have out := nout_; clear nout_
      have nkB_ := Blk.only (kB) ho_ (by omega)
      clear kB; have kB := nkB_; clear nkB_
      have zdwx2 := dwx2.size
      have ydwx2 := ho_.size
      clear hk_ ho_ hs_ dwx1
      obtain ⟨H, hH⟩ : ∃ H, wx2.heap.size = H := ⟨_, rfl⟩
      have lit4 : Blk (wx2.alloc (.cells #[.int .i64 pa, .int .i64 pb, .int .i64 10000, .int .i64 0] 3)) H 3 #[.int .i64 pa, .int .i64 pb, .int .i64 10000, .int .i64 0] := by rw [← hH]; exact Blk.new _ _ _
      have lit4' := lit4.alloc (.cells #[.int .i64 0, .int .i64 0, .int .i64 0, .int .i64 1, .int .i64 1, .int .i64 2, .int .i64 3] 3)
      have lit7 : Blk ((wx2.alloc (.cells #[.int .i64 pa, .int .i64 pb, .int .i64 10000, .int .i64 0] 3)).alloc (.cells #[.int .i64 0, .int .i64 0, .int .i64 0, .int .i64 1, .int .i64 1, .int .i64 2, .int .i64 3] 3)) (H + 1) 3 #[.int .i64 0, .int .i64 0, .int .i64 0, .int .i64 1, .int .i64 1, .int .i64 2, .int .i64 3] := by
        have := Blk.new (wx2.alloc (.cells #[.int .i64 pa, .int .i64 pb, .int .i64 10000, .int .i64 0] 3)) 3 #[.int .i64 0, .int .i64 0, .int .i64 0, .int .i64 1, .int .i64 1, .int .i64 2, .int .i64 3]
        have e : (wx2.alloc (.cells #[.int .i64 pa, .int .i64 pb, .int .i64 10000, .int .i64 0] 3)).heap.size = H + 1 := by simp [hH]
        rw [e] at this; exact this
      have hgH : g < H := by have := dwx2.lt; omega
      have hzH : w.heap.size ≤ H := by omega
      have hzH2 : ((wx2.alloc (.cells #[.int .i64 pa, .int .i64 pb, .int .i64 10000, .int .i64 0] 3)).alloc (.cells #[.int .i64 0, .int .i64 0, .int .i64 0, .int .i64 1, .int .i64 1, .int .i64 2, .int .i64 3] 3)).heap.size = H + 2 := by simp [hH]
      clear lit4
      have nout_ := Mine.alloc (Mine.alloc out (.cells #[.int .i64 pa, .int .i64 pb, .int .i64 10000, .int .i64 0] 3)) (.cells #[.int .i64 0, .int .i64 0, .int .i64 0, .int .i64 1, .int .i64 1, .int .i64 2, .int .i64 3] 3)
      clear out; have out := nout_; clear nout_
      have nkB_ := Blk.alloc (Blk.alloc kB (.cells #[.int .i64 pa, .int .i64 pb, .int .i64 10000, .int .i64 0] 3)) (.cells #[.int .i64 0, .int .i64 0, .int .i64 0, .int .i64 1, .int .i64 1, .int .i64 2, .int .i64 3] 3)
      clear kB; have kB := nkB_; clear nkB_
      have dl := (dwx2.alloc (.cells #[.int .i64 pa, .int .i64 pb, .int .i64 10000, .int .i64 0] 3)).alloc (.cells #[.int .i64 0, .int .i64 0, .int .i64 0, .int .i64 1, .int .i64 1, .int .i64 2, .int .i64 3] 3)
      clear dwx2
      go_wp2_with fail
      refine (ds_pick 7 (dl) (by omega)).mono ?_
      rintro e wx3 ⟨pc, rfl, hk_, dwx3, ho_, hs_⟩
      obtain ⟨pc0, pc1⟩ := hk_ (by omega)
      have nout_ := Mine.only (out) ho_ (by omega)
      clear out; have out := nout_; clear nout_
      have nkB_ := Blk.only (kB) ho_ (by omega)
      clear kB; have kB := nkB_; clear nkB_
      have nlit4p_ := Blk.only (lit4') ho_ (by omega)
      clear lit4'; have lit4' := nlit4p_; clear nlit4p_
      have nlit7_ := Blk.only (lit7) ho_ (by omega)
      clear lit7; have lit7 := nlit7_; clear nlit7_
      have zdwx3 := dwx3.size
      have ydwx3 := ho_.size
      clear hk_ ho_ hs_ dl
      rw [hzH2] at ydwx3
      obtain ⟨y, hy, y0, y1⟩ := tab_get (ys := [0, 0, 0, 1, 1, 2, 3]) lit7 rfl pc pc0 (by simp; omega) (P := fun y => 0 ≤ y ∧ y ≤ 3) (by intro y hy; simp at hy; omega)
      obtain ⟨z, hz, _⟩ := tab_get (ys := [pa, pb, 10000, 0]) lit4' rfl y y0 (by simp; omega) (P := fun y => True) (fun _ _ => trivial)
      have y2 : y < 4 := by omega
      have hHH : w.heap.size + 1 ≤ wx3.heap.size := by omega
      go_wp2_with (at_builtin; refine wpList_push rfl _ _ _ rfl (w.heap.size + 1) 3 i0 _ 8 Try.underlying34 hi0 hz0 hz1 hz2 rfl (by omega) _ _ AA k cc _ rfl out rfl rfl (by omega) (by omega) ?_; intro g_wx4 cap_wx4 wx4 hown_ hgrow_ hlies_ hlt_)
      have dwx4 := dwx3.grownG out hgrow_ (by omega) (by omega) (by omega)
      have hb_ := grown_bel out hgrow_ (by omega)
      have nkB_ := Blk.below (kB) hb_ (by omega)
      clear kB; have kB := nkB_; clear nkB_
      have nout_ : Mine wx4 (w.heap.size + 1) (some ⟨g_wx4, 0, none⟩) (k + 1) cap_wx4 (ys ++ [z]) := by unfold Mine; rw [List.map_append]; exact hown_
      clear out hown_ hgrow_ hlies_ hb_ dwx3; have out := nout_; clear nout_
      have zdwx4 := dwx4.size
      go_roundw
      case rel => exact ⟨k + 1, cap_wx4, _, _, ys ++ [z], by omega, by go_num, rfl, out, kB, dwx4, by omega, by omega⟩
      case measure => simp [intOf]; omega
    · have hkn : k = n := by omega
      subst hkn
      go_wp2_with fail
      refine (ds_odd 14 (ds1) (by omega) (by omega)).mono ?_
      rintro e wx5 ⟨bwx5, rfl, ⟨qwx5, qwx5l, qwx5u, dwx5⟩, ho_, hs_⟩
      have nout_ := Mine.only (out) ho_ (by omega)
      clear out; have out := nout_; clear nout_
      have nkB_ := Blk.only (kB) ho_ (by omega)
      clear kB; have kB := nkB_; clear nkB_
      have zdwx5 := dwx5.size
      have ydwx5 := ho_.size
      clear ho_ hs_ ds1
      clear c0 c1 c2
      have hol := out.len
      have hHH : w.heap.size + 1 ≤ wx5.heap.size := by omega
      cases bwx5
      · skip
        have hl_ : k ≤ 11 := by omega
        by_cases h0 : 0 < k
        · skip
          go_wp2_with fail
          refine (ds_odd 14 (dwx5) (by omega) (by omega)).mono ?_
          rintro e wx6 ⟨bwx6, rfl, ⟨qwx6, qwx6l, qwx6u, dwx6⟩, ho_, hs_⟩
          have nout_ := Mine.only (out) ho_ (by omega)
          clear out; have out := nout_; clear nout_
          have nkB_ := Blk.only (kB) ho_ (by omega)
          clear kB; have kB := nkB_; clear nkB_
          have zdwx6 := dwx6.size
          have ydwx6 := ho_.size
          clear ho_ hs_ dwx5
          have hHH2 : w.heap.size + 1 ≤ wx6.heap.size := by omega
          cases bwx6
          · skip
            have HF := hid (show GivesI (fun xs => xs.length ≤ 11) 100 g q w (.returned (.slice (AA) (k) (cc))) _ from ⟨_, _, _, ys, rfl, Mine.more out (by omega), by have := Mine.len out; omega, ⟨_, by omega, by omega, dwx6.rd⟩, dwx6.only⟩)
            clear out dwx6 kB
            go_wp2
            go_ret
            exact HF.out
          · skip
            have hsz_ : wx6.heap.size ≤ (wx6.alloc (.cells #[.int .i64 (-1), .int .i64 10001] 3)).heap.size := by simp
            have lit := Blk.new wx6 3 #[.int .i64 (-1), .int .i64 10001]
            have hgl := dwx6.lt
            obtain ⟨HL, hHL⟩ : ∃ HL, wx6.heap.size = HL := ⟨_, rfl⟩
            rw [hHL] at lit
            have nout_ := Mine.alloc out (.cells #[.int .i64 (-1), .int .i64 10001] 3)
            clear out; have out := nout_; clear nout_
            have nkB_ := Blk.alloc kB (.cells #[.int .i64 (-1), .int .i64 10001] 3)
            clear kB; have kB := nkB_; clear nkB_
            have dl := dwx6.alloc (.cells #[.int .i64 (-1), .int .i64 10001] 3)
            clear dwx6
            go_wp2_with fail
            refine (ds_pick 2 (dl) (by omega)).mono ?_
            rintro e wx7 ⟨pz, rfl, hk_, dwx7, ho_, hs_⟩
            obtain ⟨pz0, pz1⟩ := hk_ (by omega)
            have nout_ := Mine.only (out) ho_ (by omega)
            clear out; have out := nout_; clear nout_
            have nkB_ := Blk.only (kB) ho_ (by omega)
            clear kB; have kB := nkB_; clear nkB_
            have nlit_ := Blk.only (lit) ho_ (by omega)
            clear lit; have lit := nlit_; clear nlit_
            have zdwx7 := dwx7.size
            have ydwx7 := ho_.size
            clear hk_ ho_ hs_ dl
            obtain ⟨z2, hz2', _⟩ := tab_get (ys := [-1, 10001]) lit rfl pz pz0 (by simp; omega) (P := fun y => True) (fun _ _ => trivial)
            obtain ⟨bo, yo, eo, bo1, bo2, _, hco, hfo, outo⟩ := Mine.stored out (k := 0) h0 z2
            have dso := dwx7.stored (b := bo) (k := 0) (by omega) (by omega) (.int .i64 z2)
            subst eo
            clear lit out dwx7
            have HF := hid (show GivesI (fun xs => xs.length ≤ 11) 100 g q w (.returned (.slice (some ⟨bo, 0, none⟩) (k) (cc))) _ from ⟨_, _, _, _, rfl, Mine.more outo (by omega), by have := Mine.len outo; omega, ⟨_, by omega, by omega, dso.rd⟩, dso.only⟩)
            clear outo dso kB
            go_wp2
            go_ret
            exact HF.out
        · skip
          have HF := hid (show GivesI (fun xs => xs.length ≤ 11) 100 g q w (.returned (.slice (AA) (k) (cc))) _ from ⟨_, _, _, ys, rfl, Mine.more out (by omega), by have := Mine.len out; omega, ⟨_, by omega, by omega, dwx5.rd⟩, dwx5.only⟩)
          clear out dwx5 kB
          go_wp2
          go_ret
          exact HF.out
      · skip
        go_wp2_with (at_builtin; refine wpList_push rfl _ _ _ rfl (w.heap.size + 1) 3 i0 _ 8 Try.underlying34 hi0 hz0 hz1 hz2 rfl (by omega) _ _ AA k cc _ rfl out rfl rfl (by omega) (by omega) ?_; intro g_wx8 cap_wx8 wx8 hown_ hgrow_ hlies_ hlt_)
        have dwx8 := dwx5.grownG out hgrow_ (by omega) (by omega) (by omega)
        have hb_ := grown_bel out hgrow_ (by omega)
        have nkB_ := Blk.below (kB) hb_ (by omega)
        clear kB; have kB := nkB_; clear nkB_
        have nout_ : Mine wx8 (w.heap.size + 1) (some ⟨g_wx8, 0, none⟩) (k + 1) cap_wx8 (ys ++ [1]) := by unfold Mine; rw [List.map_append]; exact hown_
        clear out hown_ hgrow_ hlies_ hb_ dwx5; have out := nout_; clear nout_
        have zdwx8 := dwx8.size
        have hHH3 : w.heap.size + 1 ≤ wx8.heap.size := by have := (OwnV.addr (out.own) rfl); omega
        have hl_ : (k + 1) ≤ 11 := by omega
        by_cases h0 : 0 < (k + 1)
        · skip
          go_wp2_with fail
          refine (ds_odd 14 (dwx8) (by omega) (by omega)).mono ?_
          rintro e wx9 ⟨bwx9, rfl, ⟨qwx9, qwx9l, qwx9u, dwx9⟩, ho_, hs_⟩
          have nout_ := Mine.only (out) ho_ (by omega)
          clear out; have out := nout_; clear nout_
          have nkB_ := Blk.only (kB) ho_ (by omega)
          clear kB; have kB := nkB_; clear nkB_
          have zdwx9 := dwx9.size
          have ydwx9 := ho_.size
          clear ho_ hs_ dwx8
          have hHH2 : w.heap.size + 1 ≤ wx9.heap.size := by omega
          cases bwx9
          · skip
            have HF := hid (show GivesI (fun xs => xs.length ≤ 11) 100 g q w (.returned (.slice (some ⟨g_wx8, 0, none⟩) ((k + 1)) (cap_wx8))) _ from ⟨_, _, _, (ys ++ [1]), rfl, Mine.more out (by omega), by have := Mine.len out; omega, ⟨_, by omega, by omega, dwx9.rd⟩, dwx9.only⟩)
            clear out dwx9 kB
            go_wp2
            go_ret
            exact HF.out
          · skip
            have hsz_ : wx9.heap.size ≤ (wx9.alloc (.cells #[.int .i64 (-1), .int .i64 10001] 3)).heap.size := by simp
            have lit := Blk.new wx9 3 #[.int .i64 (-1), .int .i64 10001]
            have hgl := dwx9.lt
            obtain ⟨HL, hHL⟩ : ∃ HL, wx9.heap.size = HL := ⟨_, rfl⟩
            rw [hHL] at lit
            have nout_ := Mine.alloc out (.cells #[.int .i64 (-1), .int .i64 10001] 3)
            clear out; have out := nout_; clear nout_
            have nkB_ := Blk.alloc kB (.cells #[.int .i64 (-1), .int .i64 10001] 3)
            clear kB; have kB := nkB_; clear nkB_
            have dl := dwx9.alloc (.cells #[.int .i64 (-1), .int .i64 10001] 3)
            clear dwx9
            go_wp2_with fail
            refine (ds_pick 2 (dl) (by omega)).mono ?_
            rintro e wx10 ⟨pz, rfl, hk_, dwx10, ho_, hs_⟩
            obtain ⟨pz0, pz1⟩ := hk_ (by omega)
            have nout_ := Mine.only (out) ho_ (by omega)
            clear out; have out := nout_; clear nout_
            have nkB_ := Blk.only (kB) ho_ (by omega)
            clear kB; have kB := nkB_; clear nkB_
            have nlit_ := Blk.only (lit) ho_ (by omega)
            clear lit; have lit := nlit_; clear nlit_
            have zdwx10 := dwx10.size
            have ydwx10 := ho_.size
            clear hk_ ho_ hs_ dl
            obtain ⟨z2, hz2', _⟩ := tab_get (ys := [-1, 10001]) lit rfl pz pz0 (by simp; omega) (P := fun y => True) (fun _ _ => trivial)
            obtain ⟨bo, yo, eo, bo1, bo2, _, hco, hfo, outo⟩ := Mine.stored out (k := 0) h0 z2
            have dso := dwx10.stored (b := bo) (k := 0) (by omega) (by omega) (.int .i64 z2)
            injection eo with eo
            injection eo with eo _
            subst eo
            clear lit out dwx10
            have HF := hid (show GivesI (fun xs => xs.length ≤ 11) 100 g q w (.returned (.slice (some ⟨g_wx8, 0, none⟩) ((k + 1)) (cap_wx8))) _ from ⟨_, _, _, _, rfl, Mine.more outo (by omega), by have := Mine.len outo; omega, ⟨_, by omega, by omega, dso.rd⟩, dso.only⟩)
            clear outo dso kB
            go_wp2
            go_ret
            exact HF.out
        · skip
          exfalso; omega
end Go.Proofs.Ytajnpmnedghckaa
