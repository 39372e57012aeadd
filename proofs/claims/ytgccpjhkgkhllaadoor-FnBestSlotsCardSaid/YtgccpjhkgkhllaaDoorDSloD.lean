/-
  The draws of tables of conflicts of this seat, walked: DrawGreedySlots, DrawBestSlots, DrawGroupSize.
-/
import Derived.Test.YtgccpjhkgkhllaaDoorDConf
namespace Go.Proofs.YtgccpjhkgkhllaaDoor
open Go.RowKit
set_option linter.unusedVariables false

/-- The call returned a table of bools; nothing that was there has turned. -/
def DrawnTT (w : World) (e : Ending) (w' : World) : Prop :=
  ∃ A n c rows, e = .returned (.slice A n c) ∧ RTT w' w'.heap.size A n rows ∧ n ≤ c ∧ c ≤ maxLen ∧ n ≤ 10 ∧ Below w.heap.size w w'
theorem drawGreedySlots_any (A : Option Addr) (n c B : Nat) (bs : List Int) (w : World) (h : RB w B A n bs) (hB : B ≤ w.heap.size) (hc : n ≤ c) (hn : n ≤ 1048576) (hb : ∀ x ∈ bs, 0 ≤ x ∧ x ≤ 255) :
    Calls Tryd.prog 25 #[.slice A n c] w fun e w' => DrawnTT w e w' := by
  have ho := l20Open_any A n c B bs w h hB hc hn hb
  clear hb h
  go_enter Tryd.func25, Tryd.ntmps25
  go_wp2_with fail
  refine ho.mono ?_
  rintro e w1 ⟨rfl, hr, hb1, hs1⟩
  have HB1 := hid hb1
  clear ho hb1
  go_wp2_with fail
  refine (l20Conflicts_any _ 0 9 9 _ hr (by omega) (by omega) (by omega)).mono ?_
  rintro e w2 ⟨A2, n2, c2, rows, rfl, hr2, h1, h2, h3, _, ho2⟩
  have HF := hid (show DrawnTT w (.returned (.slice A2 n2 c2)) w2 from ⟨A2, n2, c2, rows, rfl, hr2 _ (Only.refl _ _ _), h1, h2, h3, HB1.out.trans (ho2.below (Nat.le_refl _) HB1.out.size)⟩)
  clear hr hr2 ho2
  go_wp2
  go_ret
  exact HF.out
theorem drawBestSlots_any (A : Option Addr) (n c B : Nat) (bs : List Int) (w : World) (h : RB w B A n bs) (hB : B ≤ w.heap.size) (hc : n ≤ c) (hn : n ≤ 1048576) (hb : ∀ x ∈ bs, 0 ≤ x ∧ x ≤ 255) :
    Calls Tryd.prog 9 #[.slice A n c] w fun e w' => DrawnTT w e w' := by
  have ho := l20Open_any A n c B bs w h hB hc hn hb
  clear hb h
  go_enter Tryd.func9, Tryd.ntmps9
  go_wp2_with fail
  refine ho.mono ?_
  rintro e w1 ⟨rfl, hr, hb1, hs1⟩
  have HB1 := hid hb1
  clear ho hb1
  go_wp2_with fail
  refine (l20Conflicts_any _ 0 7 9 _ hr (by omega) (by omega) (by omega)).mono ?_
  rintro e w2 ⟨A2, n2, c2, rows, rfl, hr2, h1, h2, h3, _, ho2⟩
  have HF := hid (show DrawnTT w (.returned (.slice A2 n2 c2)) w2 from ⟨A2, n2, c2, rows, rfl, hr2 _ (Only.refl _ _ _), h1, h2, h3, HB1.out.trans (ho2.below (Nat.le_refl _) HB1.out.size)⟩)
  clear hr hr2 ho2
  go_wp2
  go_ret
  exact HF.out
theorem drawGroupSize_any (A : Option Addr) (n c B : Nat) (bs : List Int) (w : World) (h : RB w B A n bs) (hB : B ≤ w.heap.size) (hc : n ≤ c) (hn : n ≤ 1048576) (hb : ∀ x ∈ bs, 0 ≤ x ∧ x ≤ 255) :
    Calls Tryd.prog 27 #[.slice A n c] w fun e w' => DrawnTT w e w' := by
  have ho := l20Open_any A n c B bs w h hB hc hn hb
  clear hb h
  go_enter Tryd.func27, Tryd.ntmps27
  go_wp2_with fail
  refine ho.mono ?_
  rintro e w1 ⟨rfl, hr, hb1, hs1⟩
  have HB1 := hid hb1
  clear ho hb1
  go_wp2_with fail
  refine (l20Conflicts_any _ 0 8 9 _ hr (by omega) (by omega) (by omega)).mono ?_
  rintro e w2 ⟨A2, n2, c2, rows, rfl, hr2, h1, h2, h3, _, ho2⟩
  have HF := hid (show DrawnTT w (.returned (.slice A2 n2 c2)) w2 from ⟨A2, n2, c2, rows, rfl, hr2 _ (Only.refl _ _ _), h1, h2, h3, HB1.out.trans (ho2.below (Nat.le_refl _) HB1.out.size)⟩)
  clear hr hr2 ho2
  go_wp2
  go_ret
  exact HF.out
end Go.Proofs.YtgccpjhkgkhllaaDoor
