/-
  The draws of tables of conflicts, of slots, walked: DrawConflictsValid, DrawSlotsValid.
-/
import Derived.Test.YtgccpjhkgkhllaaDConf
import Derived.Test.YtgccpjhkgkhllaaSloC
namespace Go.Proofs.Ytgccpjhkgkhllaa
open Go.RowKit
set_option linter.unusedVariables false

/-- The call returned a table of bools; nothing that was there has turned. -/
def DrawnTT (w : World) (e : Ending) (w' : World) : Prop :=
  ∃ A n c rows, e = .returned (.slice A n c) ∧ RTT w' w'.heap.size A n rows ∧ n ≤ c ∧ c ≤ maxLen ∧ n ≤ 10 ∧ Below w.heap.size w w'
theorem drawConflictsValid_any (A : Option Addr) (n c B : Nat) (bs : List Int) (w : World) (h : RB w B A n bs) (hB : B ≤ w.heap.size) (hc : n ≤ c) (hn : n ≤ 1048576) (hb : ∀ x ∈ bs, 0 ≤ x ∧ x ≤ 255) :
    Calls Try.prog 13 #[.slice A n c] w fun e w' => DrawnTT w e w' := by
  have ho := l20Open_any A n c B bs w h hB hc hn hb
  clear hb h
  go_enter Try.func13, Try.ntmps13
  go_wp2_with fail
  refine ho.mono ?_
  rintro e w1 ⟨rfl, hr, hb1, hs1⟩
  have HB1 := hid hb1
  clear ho hb1
  go_wp2_with fail
  refine (l20Conflicts_any _ 0 6 2 _ hr (by omega) (by omega) (by omega)).mono ?_
  rintro e w2 ⟨A2, n2, c2, rows, rfl, hr2, h1, h2, h3, _, ho2⟩
  have HF := hid (show DrawnTT w (.returned (.slice A2 n2 c2)) w2 from ⟨A2, n2, c2, rows, rfl, hr2 _ (Only.refl _ _ _), h1, h2, h3, HB1.out.trans (ho2.below (Nat.le_refl _) HB1.out.size)⟩)
  clear hr hr2 ho2
  go_wp2
  go_ret
  exact HF.out
/-- The call returned a table of bools and ints; nothing that was there has turned. -/
def DrawnTI (w : World) (e : Ending) (w' : World) : Prop :=
  ∃ A n c rows A' n' c' xs, e = .returned (.tuple #[.slice A n c, .slice A' n' c']) ∧ RTT w' w'.heap.size A n rows ∧ n ≤ 10 ∧ RI w' w'.heap.size A' n' xs ∧ n' ≤ 10 ∧ Below w.heap.size w w'
set_option maxRecDepth 100000 in
set_option maxHeartbeats 3200000 in
theorem drawSlotsValid_any (A : Option Addr) (n c B : Nat) (bs : List Int) (w : World) (h : RB w B A n bs) (hB : B ≤ w.heap.size) (hc : n ≤ c) (hn : n ≤ 1048576) (hb : ∀ x ∈ bs, 0 ≤ x ∧ x ≤ 255) :
    Calls Try.prog 19 #[.slice A n c] w fun e w' => DrawnTI w e w' := by
  have ho := l20Open_any A n c B bs w h hB hc hn hb
  clear hb h
  go_enter Try.func19, Try.ntmps19
  go_wp2_with fail
  refine ho.mono ?_
  rintro e w1 ⟨rfl, hr, hb1, hs1⟩
  have hwz := hb1.size
  have HB1 := hid hb1
  clear ho hb1
  go_wp2_with fail
  refine (l20Conflicts_any _ 0 7 12 _ hr (by omega) (by omega) (by omega)).mono ?_
  rintro e w2 ⟨A2, n2, c2, rows, rfl, hr2, _, _, hn2, ⟨q', _, hq', hrd2⟩, ho2⟩
  have bel2 := HB1.out.trans (ho2.below (Nat.le_refl _) HB1.out.size)
  have hz2 := ho2.size
  have HG := hid (greedy_spec A2 n2 c2 w2.heap.size rows w2 (hr2 _ (Only.refl _ _ _)) (Nat.le_refl _) (by omega))
  have HR2 := hid hr2
  have hgl := hrd2.lt
  clear hr ho2 hr2
  go_wp2_with fail
  refine HG.out.mono ?_
  rintro e w3 ⟨A3, n3, c3, rfl, o3, hb3⟩
  have hz3 := hb3.size
  have hrd3 := hrd2.below hb3 hgl
  have on3 : Only w.heap.size (w.heap.size + 1) w2 w3 := Below.only hb3
  have hn3 : n3 ≤ 10 := by rw [← OwnI.len o3]; exact greedyI_len rows
  clear hb3 HG hrd2
  by_cases hn30 : 0 < n3
  · go_wp2_with fail
    refine (pick_any _ q' 2 w3 hrd3 (by omega)).mono ?_
    rintro e w4 ⟨k4, rfl, hk4, _, hrd4, ho4, hs4⟩
    have on4 := on3.trans ho4
    have o4 : OwnI w4 3 w2.heap.size w3.heap.size A3 n3 c3 (greedyI rows) := OwnV.only o3 ho4 (.inr (by omega))
    clear ho4 on3 o3 hrd3 hk4
    by_cases hk40 : k4 = 0
    · have hq : (k4 == 0) = true := by simp [hk40]
      clear hk40
      go_wp2_with fail
      refine (pick_any _ (q' + 1) (n3 : Int) w4 hrd4 (by omega)).mono ?_
      rintro e w5 ⟨k5, rfl, hk5, _, hrd5, ho5, hs5⟩
      obtain ⟨k50, k51⟩ := hk5 (by omega)
      obtain ⟨K5, rfl⟩ := Int.eq_ofNat_of_zero_le k50
      have on5 := on4.trans ho5
      have o5 : OwnI w5 3 w2.heap.size w3.heap.size A3 n3 c3 (greedyI rows) := OwnV.only o4 ho5 (.inr (by omega))
      have lit := Blk.new w5 3 #[.int .i64 0, .int .i64 1, .int .i64 2, .int .i64 (-1), .int .i64 10]
      have hz5 : w3.heap.size ≤ w5.heap.size := by omega
      have on6 := on5.alloc (.cells #[.int .i64 0, .int .i64 1, .int .i64 2, .int .i64 (-1), .int .i64 10] 3)
      have o6 := OwnV.alloc o5 (.cells #[.int .i64 0, .int .i64 1, .int .i64 2, .int .i64 (-1), .int .i64 10] 3)
      have hrd6 := hrd5.alloc (.cells #[.int .i64 0, .int .i64 1, .int .i64 2, .int .i64 (-1), .int .i64 10] 3)
      have hzl : (w5.alloc (.cells #[.int .i64 0, .int .i64 1, .int .i64 2, .int .i64 (-1), .int .i64 10] 3)).heap.size = w5.heap.size + 1 := by simp
      have hzl2 : w5.heap.size + 1 ≤ (w5.alloc (.cells #[.int .i64 0, .int .i64 1, .int .i64 2, .int .i64 (-1), .int .i64 10] 3)).heap.size := by omega
      clear ho5 on4 o4 on5 o5 hrd4 hrd5 hk5 hs4 hs5 hzl
      go_wp2_with fail
      refine (pick_any _ (q' + 2) 5 _ hrd6 (by omega)).mono ?_
      rintro e w7 ⟨k7, rfl, hk7, _, hrd7, ho7, hs7⟩
      obtain ⟨k70, k71⟩ := hk7 (by omega)
      have on7 := on6.trans ho7
      have o7 : OwnI w7 3 w2.heap.size w3.heap.size A3 n3 c3 (greedyI rows) := OwnV.only o6 ho7 (.inr (by omega))
      have lit7 := Blk.only lit ho7 (by omega)
      obtain ⟨z, hz, _⟩ := tab_get (ys := [0, 1, 2, -1, 10]) lit7 rfl k7 k70 (by simp; omega) (P := fun y => True) (fun _ _ => trivial)
      have hz7 := ho7.size
      clear hs7
      have hK5 : K5 < n3 := by omega
      obtain ⟨b, y, rfl, b1, b2, b3, hy, hcy, hfy, hst⟩ := OwnI.stored o7 hK5 z
      have on8 := on7.setNew (p := ⟨b, K5, none⟩) b1 (.int .i64 z)
      have hz8 : w7.heap.size ≤ (w7.setCell ⟨b, K5, none⟩ (.int .i64 z)).heap.size := by simp [World.setCell]
      have HF := hid (show DrawnTI w (.returned (.tuple #[.slice A2 n2 c2, .slice (some ⟨b, 0, none⟩) n3 c3])) (w7.setCell ⟨b, K5, none⟩ (.int .i64 z)) from
        ⟨A2, n2, c2, rows, _, n3, c3, _, rfl, RVV.more (HR2.out _ on8) (by have := on8.size; exact this), hn2, RV.more (OwnI.ri hst) (by omega), hn3, bel2.trans (on8.below (by omega) (by omega))⟩)
      clear on6 o6 on7 o7 lit lit7 hst on8 hrd6 hrd7 ho7 hk7 hy hz8
      go_wp2
      go_ret2
      exact HF.out
    · have hq : (k4 == 0) = false := by simp [hk40]
      have HF := hid (show DrawnTI w (.returned (.tuple #[.slice A2 n2 c2, .slice A3 n3 c3])) w4 from
        ⟨A2, n2, c2, rows, A3, n3, c3, _, rfl, RVV.more (HR2.out _ on4) on4.size, hn2, RV.more (OwnI.ri o4) (by omega), hn3, bel2.trans (on4.below (by omega) (by omega))⟩)
      clear hk40 on4 o4 hrd4
      go_wp2
      go_ret2
      exact HF.out
  · have hn00 : n3 = 0 := by omega
    subst hn00
    have HF := hid (show DrawnTI w (.returned (.tuple #[.slice A2 n2 c2, .slice A3 0 c3])) w3 from
      ⟨A2, n2, c2, rows, A3, 0, c3, _, rfl, RVV.more (HR2.out _ on3) on3.size, hn2, OwnI.ri o3, by omega, bel2.trans (on3.below (by omega) (by omega))⟩)
    clear on3 o3 hrd3
    go_wp2
    go_ret2
    exact HF.out
end Go.Proofs.Ytgccpjhkgkhllaa
