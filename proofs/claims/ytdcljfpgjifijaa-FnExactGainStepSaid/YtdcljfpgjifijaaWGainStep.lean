/-
  FnExactGainStep, walked: the program's GainStep returns what the reference's returns; it changes no argument; its result is memory of its own.
-/
import Derived.Test.YtdcljfpgjifijaaExact
import Derived.Test.YtdcljfpgjifijaaStep
namespace Go.Proofs.Ytdcljfpgjifijaa
open Go.RowKit

set_option maxHeartbeats 1600000 in
theorem fnExactGainStep_core (w : World) (g : Int) (_w0 : (Lit.int .i64 g).wf = true) (A1 : Option Addr) (n1 c1 : Nat) (xs : List Int) (h1 : RV w w.heap.size A1 n1 (xs.map (Value.int .i64))) (_wf1 : ∀ x ∈ xs, (Lit.int .i64 x).wf = true) (_hl1 : n1 ≤ c1) (_hm1 : c1 ≤ maxLen) (t : Int) (_w2 : (Lit.int .i64 t).wf = true) (hn : n1 ≤ 1048576) :
    Calls Try.prog 10 #[.int .i64 g, .slice A1 n1 c1, .int .i64 t] w fun e w' => e = .returned (.bool true) ∧ Below w.heap.size w w' := by
  have hN1 : n1 ≤ 1048576 := hn
  clear hn
  have hbel : Below w.heap.size w w := Below.refl _ _
  have hne : (gainStep g xs t != gainStep g xs t) = false := by simp
  have a1 : RI w w.heap.size A1 n1 xs := h1
  clear h1
  go_enter Try.func10, Try.ntmps10
  go_wp2_with fail
  refine (toIntS_any A1 n1 c1 _ xs _ a1 hbel.size (by omega)).mono ?_
  rintro e w1 ⟨rfl, ot1, hb, hs⟩
  have lt1 : w.heap.size ≤ w.heap.size := hbel.size
  have it1 : w.heap.size + 1 ≤ w1.heap.size := by rw [hs]; exact Nat.le_refl _
  clear hs
  have hsz := hbel.size
  have hbel_ := hbel.trans (hb.mono hsz)
  have a1_ := RV.below a1 (hb.mono hsz)
  clear hbel; have hbel := hbel_; clear hbel_
  clear a1; have a1 := a1_; clear a1_
  clear hsz
  clear hb
  go_wp2_with fail
  refine (gainStep_spec g _ _ _ _ xs t _ (OwnI.ri ot1) (by omega)).mono ?_
  rintro e w2 ⟨rfl, hsame⟩
  have hb := (Same.of_drewN hsame).bel w1.heap.size
  have hsz := hbel.size
  have hbel_ := hbel.trans (hb.mono hsz)
  have a1_ := RV.below a1 (hb.mono hsz)
  have ot1_ := OwnV.below ot1 hb it1
  have it1_ := Nat.le_trans it1 hb.size
  clear hbel; have hbel := hbel_; clear hbel_
  clear a1; have a1 := a1_; clear a1_
  clear ot1; have ot1 := ot1_; clear ot1_
  clear it1; have it1 := it1_; clear it1_
  clear hsz
  clear hb hsame
  go_wp2_with fail
  refine (toIntS_any A1 n1 c1 _ xs _ a1 hbel.size (by omega)).mono ?_
  rintro e w3 ⟨rfl, ox1, hb, hs⟩
  have lx1 : w.heap.size ≤ w2.heap.size := hbel.size
  have ix1 : w2.heap.size + 1 ≤ w3.heap.size := by rw [hs]; exact Nat.le_refl _
  clear hs
  have dt1x1 := it1
  have hsz := hbel.size
  have hbel_ := hbel.trans (hb.mono hsz)
  have a1_ := RV.below a1 (hb.mono hsz)
  have ot1_ := OwnV.below ot1 hb it1
  have it1_ := Nat.le_trans it1 hb.size
  clear hbel; have hbel := hbel_; clear hbel_
  clear a1; have a1 := a1_; clear a1_
  clear ot1; have ot1 := ot1_; clear ot1_
  clear it1; have it1 := it1_; clear it1_
  clear hsz
  clear hb
  go_wp2_with fail
  refine (gainStep_impl g _ _ _ _ xs t _ (OwnI.ri ox1) (by omega)).mono ?_
  rintro e w4 ⟨rfl, hsame⟩
  have hb := (Same.of_eq hsame).bel w3.heap.size
  have hsz := hbel.size
  have hbel_ := hbel.trans (hb.mono hsz)
  have a1_ := RV.below a1 (hb.mono hsz)
  have ot1_ := OwnV.below ot1 hb it1
  have it1_ := Nat.le_trans it1 hb.size
  have ox1_ := OwnV.below ox1 hb ix1
  have ix1_ := Nat.le_trans ix1 hb.size
  clear hbel; have hbel := hbel_; clear hbel_
  clear a1; have a1 := a1_; clear a1_
  clear ot1; have ot1 := ot1_; clear ot1_
  clear it1; have it1 := it1_; clear it1_
  clear ox1; have ox1 := ox1_; clear ox1_
  clear ix1; have ix1 := ix1_; clear ix1_
  clear hsz
  clear hb hsame
  go_wp2_with fail
  refine (toIntS_any A1 n1 c1 _ xs _ a1 hbel.size (by omega)).mono ?_
  rintro e w5 ⟨rfl, ou1, hb, hs⟩
  have lu1 : w.heap.size ≤ w4.heap.size := hbel.size
  have iu1 : w4.heap.size + 1 ≤ w5.heap.size := by rw [hs]; exact Nat.le_refl _
  clear hs
  have dt1u1 := it1
  have dx1u1 := ix1
  have hsz := hbel.size
  have hbel_ := hbel.trans (hb.mono hsz)
  have a1_ := RV.below a1 (hb.mono hsz)
  have ot1_ := OwnV.below ot1 hb it1
  have it1_ := Nat.le_trans it1 hb.size
  have ox1_ := OwnV.below ox1 hb ix1
  have ix1_ := Nat.le_trans ix1 hb.size
  clear hbel; have hbel := hbel_; clear hbel_
  clear a1; have a1 := a1_; clear a1_
  clear ot1; have ot1 := ot1_; clear ot1_
  clear it1; have it1 := it1_; clear it1_
  clear ox1; have ox1 := ox1_; clear ox1_
  clear ix1; have ix1 := ix1_; clear ix1_
  clear hsz
  clear hb
  go_wp2_with fail
  refine (eqIntS_same _ _ _ _ _ _ _ _ _ _ (OwnI.ri ox1) (OwnI.ri ou1) (by have := RI.len a1; omega)).mono ?_
  rintro e w6 ⟨rfl, hb⟩
  have hsz := hbel.size
  have hbel_ := hbel.trans (hb.mono hsz)
  have a1_ := RV.below a1 (hb.mono hsz)
  have ot1_ := OwnV.below ot1 hb it1
  have it1_ := Nat.le_trans it1 hb.size
  have ox1_ := OwnV.below ox1 hb ix1
  have ix1_ := Nat.le_trans ix1 hb.size
  have ou1_ := OwnV.below ou1 hb iu1
  have iu1_ := Nat.le_trans iu1 hb.size
  clear hbel; have hbel := hbel_; clear hbel_
  clear a1; have a1 := a1_; clear a1_
  clear ot1; have ot1 := ot1_; clear ot1_
  clear it1; have it1 := it1_; clear it1_
  clear ox1; have ox1 := ox1_; clear ox1_
  clear ix1; have ix1 := ix1_; clear ix1_
  clear ou1; have ou1 := ou1_; clear ou1_
  clear iu1; have iu1 := iu1_; clear iu1_
  clear hsz
  clear hb
  go_wp2
  go_ret
  exact ⟨rfl, hbel⟩

theorem fnExactGainStep_walk (g : Int) (w0 : (Lit.int .i64 g).wf = true) {A1 : Option Addr} {n1 c1 : Nat} {xs : List Int} (t : Int) (w2 : (Lit.int .i64 t).wf = true) (w : World) (h1 : RV w w.heap.size A1 n1 (xs.map (Value.int .i64))) (wf1 : ∀ x ∈ xs, (Lit.int .i64 x).wf = true) (hl1 : n1 ≤ c1) (hm1 : c1 ≤ maxLen) :
    Calls Try.prog 10 #[.int .i64 g, .slice A1 n1 c1, .int .i64 t] w fun e w' => e = .returned (.bool true) ∧ Below w.heap.size w w' := by
  by_cases q1 : n1 ≤ 1048576
  · skip
    exact fnExactGainStep_core w g w0 A1 n1 c1 xs h1 wf1 hl1 hm1 t w2 q1
  · unfold maxLen at *
    go_enter Try.func10, Try.ntmps10
    go_wp2
    go_ret
    exact ⟨rfl, Below.refl _ _⟩
end Go.Proofs.Ytdcljfpgjifijaa
