/-
  The draw of SlotSuccess' law, walked.
-/
import Derived.Test.YtnebmfdjcikegaaDAcc
import Derived.Test.YtnebmfdjcikegaaReg
namespace Go.Proofs.Ytnebmfdjcikegaa
open Go.RowKit
set_option linter.unusedVariables false

/-- The call returned a slice of ints; nothing that was there has turned. -/
def DrawnI (m : Nat) (w : World) (e : Ending) (w' : World) : Prop :=
  ∃ A n c xs, e = .returned (.slice A n c) ∧ RI w' w'.heap.size A n xs ∧ n ≤ m ∧ Below w.heap.size w w'
set_option maxRecDepth 100000 in
set_option maxHeartbeats 1600000 in
theorem drawSlotSuccess_any (A : Option Addr) (n c B : Nat) (bs : List Int) (w : World) (h : RB w B A n bs) (hB : B ≤ w.heap.size) (hc : n ≤ c) (hn : n ≤ 1048576) (hb : ∀ x ∈ bs, 0 ≤ x ∧ x ≤ 255) :
    Calls Try.prog 23 #[.slice A n c] w fun e w' => DrawnI 9 w e w' := by
  obtain ⟨i0, hi0, hz0, hz1, hz2⟩ := info_parts infoDr
  have ho := l20Open_any A n c B bs w h hB hc hn hb
  clear hb h
  go_enter Try.func23, Try.ntmps23
  go_wp2_with fail
  refine ho.mono ?_
  rintro e w1 ⟨rfl, hr, hb1, hs1⟩
  have hsz := hb1.size
  have ds0 := (DS.start hr).alloc (.cells #[] 3)
  have hgl := hr.lt
  have out := mine_lit0 w1 (Nat.le_refl _)
  have HB := hid hb1
  have zds0 := ds0.size
  clear hs1 ho hr hb1
  go_wp2_with fail
  refine (ds_pick 10 (ds0) (by omega)).mono ?_
  rintro e u1 ⟨ka, rfl, hk_, du1, ho_, hs_⟩
  obtain ⟨ka0, ka1⟩ := hk_ (by omega)
  have nout_ := Mine.only (out) ho_ (by omega)
  clear out; have out := nout_; clear nout_
  have zdu1 := du1.size
  clear hk_ ho_ hs_ ds0
  obtain ⟨N, rfl⟩ := Int.eq_ofNat_of_zero_le ka0
  have HO := hid (And.intro out du1)
  clear out du1
  go_wp2
  go_loopw [4, 5] (fun v k wr => ∃ (j l cc q1 : Nat) (AA : Option Addr) (ys : List Int), k = .int .i64 j ∧ v = .slice AA l cc ∧ Mine wr w1.heap.size AA l cc ys ∧ l + j ≤ 9 ∧ DS w1 wr w.heap.size q1 ∧ q1 + j ≤ 10) (fun _ k _ => (intOf k).toNat)
  case atStart => exact ⟨N, 0, 0, 1, _, [], rfl, rfl, HO.out.1, by omega, HO.out.2, by omega⟩
  case round =>
    clear HO
    obtain ⟨j, l, cc, q1, AA, ys, rfl, rfl, out, hlj, ds0, hq1⟩ := hrel
    have zds1 := ds0.size
    by_cases hlt : 0 < j
    · have hlt' : (0 : Int) < (j : Int) := by omega
      go_wp2_with fail
      refine (ds_pick 6 (ds0) (by omega)).mono ?_
      rintro e u2 ⟨k, rfl, hk_, du2, ho_, hs_⟩
      obtain ⟨k0, k1⟩ := hk_ (by omega)
      have nout_ := Mine.only (out) ho_ (by omega)
      clear out; have out := nout_; clear nout_
      have zdu2 := du2.size
      clear hk_ ho_ hs_ ds0
      go_wp2_with (at_builtin; refine wpList_push rfl _ _ _ rfl w1.heap.size 3 i0 _ 8 Try.underlying32 hi0 hz0 hz1 hz2 rfl (by omega) _ _ AA l cc _ rfl out rfl rfl (by omega) (by omega) ?_; intro g_u3 cap_u3 u3 hown_ hgrow_ hlies_ hlt_)
      have du3 := du2.grown out hgrow_ (by omega) (by omega) (by omega)
      have nout_ : Mine u3 w1.heap.size (some ⟨g_u3, 0, none⟩) (l + 1) cap_u3 (ys ++ [k]) := by unfold Mine; rw [List.map_append]; exact hown_
      clear out hown_ hgrow_ hlies_ du2; have out := nout_; clear nout_
      have zdu3 := du3.size
      go_roundw
      case rel => exact ⟨j - 1, l + 1, cap_u3, _, _, ys ++ [k], by go_num, rfl, out, by omega, du3, by omega⟩
      case measure => simp [intOf]; omega
    · have e : j = 0 := by omega
      subst e
      clear hlt
      by_cases h0 : 0 < l
      · skip
        have h0' : (0 : Int) < (l : Int) := by omega
        go_wp2_with fail
        refine (ds_odd 9 (ds0) (by omega) (by omega)).mono ?_
        rintro e u4 ⟨bu4, rfl, ⟨qu4, qu4l, qu4u, du4⟩, ho_, hs_⟩
        have nout_ := Mine.only (out) ho_ (by omega)
        clear out; have out := nout_; clear nout_
        have zdu4 := du4.size
        clear ho_ hs_ ds0
        cases bu4
        · skip
          have HF := hid (show DrawnI 9 w (.returned (.slice (AA) (l) (cc))) _ from ⟨_, _, _, _, rfl, Mine.ri out, by omega, below_ds HB.out du4.only⟩)
          clear out du4
          go_wp2
          go_ret
          exact HF.out
        · skip
          have hsz_ : u4.heap.size ≤ (u4.alloc (.cells #[.int .i64 (-1), .int .i64 400] 3)).heap.size := by simp
          have lit := Blk.new u4 3 #[.int .i64 (-1), .int .i64 400]
          have hgl2 := du4.lt
          have hzz := du4.size
          obtain ⟨HL, hHL⟩ : ∃ HL, u4.heap.size = HL := ⟨_, rfl⟩
          rw [hHL] at lit
          have out1 := Mine.alloc out (.cells #[.int .i64 (-1), .int .i64 400] 3)
          clear out
          have out := out1
          clear out1
          have dl := du4.alloc (.cells #[.int .i64 (-1), .int .i64 400] 3)
          clear du4
          go_wp2_with fail
          refine (ds_pick 2 dl (by omega)).mono ?_
          rintro e u5 ⟨pz, rfl, hk_, du5, ho_, hs_⟩
          obtain ⟨pz0, pz1⟩ := hk_ (by omega)
          have out1 := Mine.only out ho_ (by omega)
          have lit1 := lit.only ho_ (by omega)
          clear out lit hk_ ho_ hs_ dl
          have out := out1
          have lit := lit1
          clear out1 lit1
          obtain ⟨z2, hz2', _⟩ := tab_get (ys := [-1, 400]) lit rfl pz pz0 (by simp; omega) (P := fun y => True) (fun _ _ => trivial)
          obtain ⟨bo, yo, eo, bo1, bo2, _, hco, hfo, outo⟩ := Mine.stored out (k := 0) h0 z2
          have dso := du5.stored (b := bo) (k := 0) (by omega) (by omega) (.int .i64 z2)
          subst eo
          clear lit out du5
          have HF := hid (show DrawnI 9 w (.returned (.slice (some ⟨bo, 0, none⟩) (l) (cc))) _ from ⟨_, _, _, _, rfl, Mine.ri outo, by omega, below_ds HB.out dso.only⟩)
          clear outo dso
          go_wp2
          go_ret
          exact HF.out
      · skip
        have e : l = 0 := by omega
        subst e
        have HF := hid (show DrawnI 9 w (.returned (.slice (AA) (0) (cc))) _ from ⟨_, _, _, _, rfl, Mine.ri out, by omega, below_ds HB.out ds0.only⟩)
        clear out ds0
        go_wp2
        go_ret
        exact HF.out
end Go.Proofs.Ytnebmfdjcikegaa
