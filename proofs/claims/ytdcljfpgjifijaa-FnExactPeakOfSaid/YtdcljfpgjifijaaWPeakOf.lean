/-
  FnExactPeakOf, walked: the program's PeakOf returns what the reference's returns; it changes no argument; its result is memory of its own.
-/
import Derived.Test.YtdcljfpgjifijaaExact
import Derived.Test.YtdcljfpgjifijaaSeq
namespace Go.Proofs.Ytdcljfpgjifijaa
open Go.RowKit

set_option maxHeartbeats 1600000 in
theorem fnExactPeakOf_core (w : World) (A0 : Option Addr) (n0 c0 : Nat) (xs : List Int) (h0 : RV w w.heap.size A0 n0 (xs.map (Value.int .i64))) (_wf0 : ∀ x ∈ xs, (Lit.int .i64 x).wf = true) (_hl0 : n0 ≤ c0) (_hm0 : c0 ≤ maxLen) (hn : n0 ≤ 1048576) :
    Calls Try.prog 3 #[.slice A0 n0 c0] w fun e w' => e = .returned (.bool true) ∧ Below w.heap.size w w' := by
  have hN0 : n0 ≤ 1048576 := hn
  clear hn
  have hbel : Below w.heap.size w w := Below.refl _ _
  have hne : (peakOf xs != peakOf xs) = false := by simp
  have a0 : RI w w.heap.size A0 n0 xs := h0
  clear h0
  go_enter Try.func3, Try.ntmps3
  go_wp2_with fail
  refine (toIntS_any A0 n0 c0 _ xs _ a0 hbel.size (by omega)).mono ?_
  rintro e w1 ⟨rfl, ot0, hb, hs⟩
  have lt0 : w.heap.size ≤ w.heap.size := hbel.size
  have it0 : w.heap.size + 1 ≤ w1.heap.size := by rw [hs]; exact Nat.le_refl _
  clear hs
  have hsz := hbel.size
  have hbel_ := hbel.trans (hb.mono hsz)
  have a0_ := RV.below a0 (hb.mono hsz)
  clear hbel; have hbel := hbel_; clear hbel_
  clear a0; have a0 := a0_; clear a0_
  clear hsz
  clear hb
  go_wp2_with fail
  refine (peakOf_spec _ _ _ _ xs _ (OwnI.ri ot0) (by omega)).mono ?_
  rintro e w2 ⟨rfl, hsame⟩
  have hb := (Same.of_drewN hsame).bel w1.heap.size
  have hsz := hbel.size
  have hbel_ := hbel.trans (hb.mono hsz)
  have a0_ := RV.below a0 (hb.mono hsz)
  have ot0_ := OwnV.below ot0 hb it0
  have it0_ := Nat.le_trans it0 hb.size
  clear hbel; have hbel := hbel_; clear hbel_
  clear a0; have a0 := a0_; clear a0_
  clear ot0; have ot0 := ot0_; clear ot0_
  clear it0; have it0 := it0_; clear it0_
  clear hsz
  clear hb hsame
  go_wp2_with fail
  refine (toIntS_any A0 n0 c0 _ xs _ a0 hbel.size (by omega)).mono ?_
  rintro e w3 ⟨rfl, ox0, hb, hs⟩
  have lx0 : w.heap.size ≤ w2.heap.size := hbel.size
  have ix0 : w2.heap.size + 1 ≤ w3.heap.size := by rw [hs]; exact Nat.le_refl _
  clear hs
  have dt0x0 := it0
  have hsz := hbel.size
  have hbel_ := hbel.trans (hb.mono hsz)
  have a0_ := RV.below a0 (hb.mono hsz)
  have ot0_ := OwnV.below ot0 hb it0
  have it0_ := Nat.le_trans it0 hb.size
  clear hbel; have hbel := hbel_; clear hbel_
  clear a0; have a0 := a0_; clear a0_
  clear ot0; have ot0 := ot0_; clear ot0_
  clear it0; have it0 := it0_; clear it0_
  clear hsz
  clear hb
  go_wp2_with fail
  refine (peakOf_impl _ _ _ _ xs _ (OwnI.ri ox0) (by omega)).mono ?_
  rintro e w4 ⟨rfl, hsame⟩
  have hb := (Same.of_eq hsame).bel w3.heap.size
  have hsz := hbel.size
  have hbel_ := hbel.trans (hb.mono hsz)
  have a0_ := RV.below a0 (hb.mono hsz)
  have ot0_ := OwnV.below ot0 hb it0
  have it0_ := Nat.le_trans it0 hb.size
  have ox0_ := OwnV.below ox0 hb ix0
  have ix0_ := Nat.le_trans ix0 hb.size
  clear hbel; have hbel := hbel_; clear hbel_
  clear a0; have a0 := a0_; clear a0_
  clear ot0; have ot0 := ot0_; clear ot0_
  clear it0; have it0 := it0_; clear it0_
  clear ox0; have ox0 := ox0_; clear ox0_
  clear ix0; have ix0 := ix0_; clear ix0_
  clear hsz
  clear hb hsame
  go_wp2_with fail
  refine (toIntS_any A0 n0 c0 _ xs _ a0 hbel.size (by omega)).mono ?_
  rintro e w5 ⟨rfl, ou0, hb, hs⟩
  have lu0 : w.heap.size ≤ w4.heap.size := hbel.size
  have iu0 : w4.heap.size + 1 ≤ w5.heap.size := by rw [hs]; exact Nat.le_refl _
  clear hs
  have dt0u0 := it0
  have dx0u0 := ix0
  have hsz := hbel.size
  have hbel_ := hbel.trans (hb.mono hsz)
  have a0_ := RV.below a0 (hb.mono hsz)
  have ot0_ := OwnV.below ot0 hb it0
  have it0_ := Nat.le_trans it0 hb.size
  have ox0_ := OwnV.below ox0 hb ix0
  have ix0_ := Nat.le_trans ix0 hb.size
  clear hbel; have hbel := hbel_; clear hbel_
  clear a0; have a0 := a0_; clear a0_
  clear ot0; have ot0 := ot0_; clear ot0_
  clear it0; have it0 := it0_; clear it0_
  clear ox0; have ox0 := ox0_; clear ox0_
  clear ix0; have ix0 := ix0_; clear ix0_
  clear hsz
  clear hb
  go_wp2_with fail
  refine (eqIntS_same _ _ _ _ _ _ _ _ _ _ (OwnI.ri ox0) (OwnI.ri ou0) (by have := RI.len a0; omega)).mono ?_
  rintro e w6 ⟨rfl, hb⟩
  have hsz := hbel.size
  have hbel_ := hbel.trans (hb.mono hsz)
  have a0_ := RV.below a0 (hb.mono hsz)
  have ot0_ := OwnV.below ot0 hb it0
  have it0_ := Nat.le_trans it0 hb.size
  have ox0_ := OwnV.below ox0 hb ix0
  have ix0_ := Nat.le_trans ix0 hb.size
  have ou0_ := OwnV.below ou0 hb iu0
  have iu0_ := Nat.le_trans iu0 hb.size
  clear hbel; have hbel := hbel_; clear hbel_
  clear a0; have a0 := a0_; clear a0_
  clear ot0; have ot0 := ot0_; clear ot0_
  clear it0; have it0 := it0_; clear it0_
  clear ox0; have ox0 := ox0_; clear ox0_
  clear ix0; have ix0 := ix0_; clear ix0_
  clear ou0; have ou0 := ou0_; clear ou0_
  clear iu0; have iu0 := iu0_; clear iu0_
  clear hsz
  clear hb
  go_wp2
  go_ret
  exact ⟨rfl, hbel⟩

theorem fnExactPeakOf_walk {A0 : Option Addr} {n0 c0 : Nat} {xs : List Int} (w : World) (h0 : RV w w.heap.size A0 n0 (xs.map (Value.int .i64))) (wf0 : ∀ x ∈ xs, (Lit.int .i64 x).wf = true) (hl0 : n0 ≤ c0) (hm0 : c0 ≤ maxLen) :
    Calls Try.prog 3 #[.slice A0 n0 c0] w fun e w' => e = .returned (.bool true) ∧ Below w.heap.size w w' := by
  by_cases q0 : n0 ≤ 1048576
  · skip
    exact fnExactPeakOf_core w A0 n0 c0 xs h0 wf0 hl0 hm0 q0
  · unfold maxLen at *
    go_enter Try.func3, Try.ntmps3
    go_wp2
    go_ret
    exact ⟨rfl, Below.refl _ _⟩
end Go.Proofs.Ytdcljfpgjifijaa
