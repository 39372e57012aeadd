/-
  The inputs of the gain's laws, drawn. Walked.
-/
import Derived.Test.YtdcljfpgjifijaaDrawGain
import Derived.OpenShut
namespace Go.Proofs.Ytdcljfpgjifijaa
open Go.RowKit
set_option linter.unusedVariables false

/-- The call returned a slice of ints of its own, of at most 2000 numbers; nothing that was there has turned. -/
def DrawnS (w : World) (e : Ending) (w' : World) : Prop :=
  ∃ A n c xs, e = .returned (.slice A n c) ∧ OwnI w' 3 w.heap.size w'.heap.size A n c xs ∧ n ≤ 2000 ∧ Below w.heap.size w w'
theorem below_open {w w1 w2 : World} (hb : Below w.heap.size w w1) (ho : Only w.heap.size (w.heap.size + 1) w1 w2) : Below w.heap.size w w2 :=
  hb.trans (ho.below (Nat.le_refl _) hb.size)

theorem drawPeakOf_any (A : Option Addr) (n c B : Nat) (bs : List Int) (w : World) (h : RB w B A n bs) (hB : B ≤ w.heap.size) (hc : n ≤ c) (hn : n ≤ 1048576) (hb : ∀ x ∈ bs, 0 ≤ x ∧ x ≤ 255) :
    Calls Try.prog 16 #[.slice A n c] w fun e w' => DrawnS w e w' := by
  have ho := l20Open_any A n c B bs w h hB hc hn hb
  have HB := hid hb
  clear hb
  go_enter Try.func16, Try.ntmps16
  go_wp2_with fail
  refine ho.mono ?_
  rintro e w1 ⟨rfl, hr, hb1, hs1⟩
  have hsz : w.heap.size ≤ w1.heap.size := hb1.size
  clear hs1 ho
  go_wp2_with fail
  refine (l20Sequence_any _ 0 9 6 _ hr (by omega) (by omega) (by omega) (by omega)).mono ?_
  rintro e w2 ⟨A', n', c', xs, rfl, hown, hlen, ⟨q, hq, hr2⟩, ho2⟩
  have H2 := hid (And.intro hown (And.intro hlen ho2))
  clear hown hlen hr2 ho2 hr
  go_wp2
  go_ret
  exact ⟨A', n', c', xs, rfl, H2.out.1.more hsz (Nat.le_refl _), by have := OwnI.len H2.out.1; have := H2.out.2.1; omega, below_open hb1 H2.out.2.2⟩

theorem drawRemoveMean_any (A : Option Addr) (n c B : Nat) (bs : List Int) (w : World) (h : RB w B A n bs) (hB : B ≤ w.heap.size) (hc : n ≤ c) (hn : n ≤ 1048576) (hb : ∀ x ∈ bs, 0 ≤ x ∧ x ≤ 255) :
    Calls Try.prog 28 #[.slice A n c] w fun e w' => DrawnS w e w' := by
  have ho := l20Open_any A n c B bs w h hB hc hn hb
  have HB := hid hb
  clear hb
  go_enter Try.func28, Try.ntmps28
  go_wp2_with fail
  refine ho.mono ?_
  rintro e w1 ⟨rfl, hr, hb1, hs1⟩
  have hsz : w.heap.size ≤ w1.heap.size := hb1.size
  clear hs1 ho
  go_wp2_with fail
  refine (l20Sequence_any _ 0 9 9 _ hr (by omega) (by omega) (by omega) (by omega)).mono ?_
  rintro e w2 ⟨A', n', c', xs, rfl, hown, hlen, ⟨q, hq, hr2⟩, ho2⟩
  have H2 := hid (And.intro hown (And.intro hlen ho2))
  clear hown hlen hr2 ho2 hr
  go_wp2
  go_ret
  exact ⟨A', n', c', xs, rfl, H2.out.1.more hsz (Nat.le_refl _), by have := OwnI.len H2.out.1; have := H2.out.2.1; omega, below_open hb1 H2.out.2.2⟩

/-- The call returned an int in 0..4097 and a slice as above. -/
def DrawnIS (w : World) (e : Ending) (w' : World) : Prop :=
  ∃ x A n c xs, e = .returned (.tuple #[.int .i64 x, .slice A n c]) ∧ 0 ≤ x ∧ x ≤ 4097 ∧ OwnI w' 3 w.heap.size w'.heap.size A n c xs ∧ n ≤ 2000 ∧ Below w.heap.size w w'
theorem drawApplyGain_any (A : Option Addr) (n c B : Nat) (bs : List Int) (w : World) (h : RB w B A n bs) (hB : B ≤ w.heap.size) (hc : n ≤ c) (hn : n ≤ 1048576) (hb : ∀ x ∈ bs, 0 ≤ x ∧ x ≤ 255) :
    Calls Try.prog 23 #[.slice A n c] w fun e w' => DrawnIS w e w' := by
  have ho := l20Open_any A n c B bs w h hB hc hn hb
  have HB := hid hb
  clear hb
  go_enter Try.func23, Try.ntmps23
  go_wp2_with fail
  refine ho.mono ?_
  rintro e w1 ⟨rfl, hr, hb1, hs1⟩
  have hsz : w.heap.size ≤ w1.heap.size := hb1.size
  clear hs1 ho
  go_wp2_with fail
  refine (l20Gain_any _ 0 _ hr (by omega)).mono ?_
  rintro e w2 ⟨x, rfl, ⟨x0, x1⟩, ⟨q, hq, hr2⟩, ho2⟩
  have hO2 := ho2.size
  have H2 := hid ho2
  clear ho2 hr
  go_wp2_with fail
  refine (l20Sequence_any _ q 9 12 _ hr2 (by omega) (by omega) (by omega) (by omega)).mono ?_
  rintro e w3 ⟨A', n', c', xs, rfl, hown, hlen, ⟨q', hq', hr3⟩, ho3⟩
  have H3 := hid (And.intro hown (And.intro hlen ho3))
  clear hown hlen hr2 hr3 ho3
  go_wp2
  go_ret2
  exact ⟨x, A', n', c', xs, rfl, x0, x1, H3.out.1.more (by omega) (Nat.le_refl _), by have := OwnI.len H3.out.1; have := H3.out.2.1; omega, below_open hb1 (H2.out.trans H3.out.2.2)⟩
end Go.Proofs.Ytdcljfpgjifijaa
