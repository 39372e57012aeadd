/-
  FnExactAddChips, walked: the program's AddChips returns what the reference's returns; it changes no argument; its result is memory of its own.
-/
import Derived.Test.YtgkkanamnhochaaExact
import Derived.Test.YtgkkanamnhochaaAdd
namespace Go.Proofs.Ytgkkanamnhochaa
open Go.RowKit
set_option linter.unusedVariables false

set_option maxHeartbeats 1600000 in
theorem fnExactAddChips_core (w : World) (A0 : Option Addr) (n0 c0 : Nat) (xs : List Int) (h0 : RV w w.heap.size A0 n0 (xs.map (Value.int .i64))) (_wf0 : ∀ x ∈ xs, (Lit.int .i64 x).wf = true) (_hl0 : n0 ≤ c0) (_hm0 : c0 ≤ maxLen) (A1 : Option Addr) (n1 c1 : Nat) (ys : List Int) (h1 : RV w w.heap.size A1 n1 (ys.map (Value.int .i64))) (_wf1 : ∀ x ∈ ys, (Lit.int .i64 x).wf = true) (_hl1 : n1 ≤ c1) (_hm1 : c1 ≤ maxLen) (hn : n0 ≤ 1048576 ∧ n1 ≤ 1048576) :
    Calls Try.prog 6 #[.slice A0 n0 c0, .slice A1 n1 c1] w fun e w' => e = .returned (.bool true) ∧ Below w.heap.size w w' := by
  obtain ⟨hN0, hN1⟩ := hn
  have hbel : Below w.heap.size w w := Below.refl _ _
  have hlen : (addChips xs ys).length ≤ 1000000000 := by have := RV.len h0; rw [List.length_map] at this; unfold addChips addL; split <;> simp <;> omega
  obtain ⟨V, hV⟩ : ∃ V, V = addChips xs ys := ⟨_, rfl⟩
  have HV := hid hV
  rw [← hV] at hlen
  clear hV
  have a0 : RI w w.heap.size A0 n0 xs := h0
  have a1 : RI w w.heap.size A1 n1 ys := h1
  clear h0 h1
  go_enter Try.func6, Try.ntmps6
  go_wp2_with fail
  refine (toIntS_any A0 n0 c0 _ xs _ a0 hbel.size (by omega)).mono ?_
  rintro e w1 ⟨rfl, ot0, hb, hs⟩
  have lt0 : w.heap.size ≤ w.heap.size := hbel.size
  have it0 : w.heap.size + 1 ≤ w1.heap.size := by rw [hs]; exact Nat.le_refl _
  clear hs
  have hsz := hbel.size
  have hbel_ := hbel.trans (hb.mono hsz)
  have a0_ := RV.below a0 (hb.mono hsz)
  have a1_ := RV.below a1 (hb.mono hsz)
  clear hbel; have hbel := hbel_; clear hbel_
  clear a0; have a0 := a0_; clear a0_
  clear a1; have a1 := a1_; clear a1_
  clear hsz
  clear hb
  go_wp2_with fail
  refine (toIntS_any A1 n1 c1 _ ys _ a1 hbel.size (by omega)).mono ?_
  rintro e w2 ⟨rfl, ot1, hb, hs⟩
  have lt1 : w.heap.size ≤ w1.heap.size := hbel.size
  have it1 : w1.heap.size + 1 ≤ w2.heap.size := by rw [hs]; exact Nat.le_refl _
  clear hs
  have dt0t1 := it0
  have hsz := hbel.size
  have hbel_ := hbel.trans (hb.mono hsz)
  have a0_ := RV.below a0 (hb.mono hsz)
  have a1_ := RV.below a1 (hb.mono hsz)
  have ot0_ := OwnV.below ot0 hb it0
  have it0_ := Nat.le_trans it0 hb.size
  clear hbel; have hbel := hbel_; clear hbel_
  clear a0; have a0 := a0_; clear a0_
  clear a1; have a1 := a1_; clear a1_
  clear ot0; have ot0 := ot0_; clear ot0_
  clear it0; have it0 := it0_; clear it0_
  clear hsz
  clear hb
  go_wp2_with fail
  refine (addChips_spec _ _ _ _ _ _ _ xs ys _ (RV.more (OwnI.ri ot0) it0) (RV.more (OwnI.ri ot1) it1) (Nat.le_refl _) (by omega) (by omega)).mono ?_
  rintro e w3 ⟨AW, nW, cW, rfl, oW, hb⟩
  have lW : w.heap.size ≤ w2.heap.size := hbel.size
  have iW : w3.heap.size ≤ w3.heap.size := Nat.le_refl _
  have dt0W := it0
  have dt1W := it1
  rw [← HV.out] at oW
  have zW : nW ≤ 1000000000 := by have := OwnI.len oW; omega
  have hsz := hbel.size
  have hbel_ := hbel.trans (hb.mono hsz)
  have a0_ := RV.below a0 (hb.mono hsz)
  have a1_ := RV.below a1 (hb.mono hsz)
  have ot0_ := OwnV.below ot0 hb it0
  have it0_ := Nat.le_trans it0 hb.size
  have ot1_ := OwnV.below ot1 hb it1
  have it1_ := Nat.le_trans it1 hb.size
  clear hbel; have hbel := hbel_; clear hbel_
  clear a0; have a0 := a0_; clear a0_
  clear a1; have a1 := a1_; clear a1_
  clear ot0; have ot0 := ot0_; clear ot0_
  clear it0; have it0 := it0_; clear it0_
  clear ot1; have ot1 := ot1_; clear ot1_
  clear it1; have it1 := it1_; clear it1_
  clear hsz
  clear hb
  go_wp2_with fail
  refine (toIntS_any A0 n0 c0 _ xs _ a0 hbel.size (by omega)).mono ?_
  rintro e w4 ⟨rfl, ox0, hb, hs⟩
  have lx0 : w.heap.size ≤ w3.heap.size := hbel.size
  have ix0 : w3.heap.size + 1 ≤ w4.heap.size := by rw [hs]; exact Nat.le_refl _
  clear hs
  have dt0x0 := it0
  have dt1x0 := it1
  have dWx0 := iW
  have hsz := hbel.size
  have hbel_ := hbel.trans (hb.mono hsz)
  have a0_ := RV.below a0 (hb.mono hsz)
  have a1_ := RV.below a1 (hb.mono hsz)
  have ot0_ := OwnV.below ot0 hb it0
  have it0_ := Nat.le_trans it0 hb.size
  have ot1_ := OwnV.below ot1 hb it1
  have it1_ := Nat.le_trans it1 hb.size
  have oW_ := OwnV.below oW hb iW
  have iW_ := Nat.le_trans iW hb.size
  clear hbel; have hbel := hbel_; clear hbel_
  clear a0; have a0 := a0_; clear a0_
  clear a1; have a1 := a1_; clear a1_
  clear ot0; have ot0 := ot0_; clear ot0_
  clear it0; have it0 := it0_; clear it0_
  clear ot1; have ot1 := ot1_; clear ot1_
  clear it1; have it1 := it1_; clear it1_
  clear oW; have oW := oW_; clear oW_
  clear iW; have iW := iW_; clear iW_
  clear hsz
  clear hb
  go_wp2_with fail
  refine (toIntS_any A1 n1 c1 _ ys _ a1 hbel.size (by omega)).mono ?_
  rintro e w5 ⟨rfl, ox1, hb, hs⟩
  have lx1 : w.heap.size ≤ w4.heap.size := hbel.size
  have ix1 : w4.heap.size + 1 ≤ w5.heap.size := by rw [hs]; exact Nat.le_refl _
  clear hs
  have dt0x1 := it0
  have dt1x1 := it1
  have dWx1 := iW
  have dx0x1 := ix0
  have hsz := hbel.size
  have hbel_ := hbel.trans (hb.mono hsz)
  have a0_ := RV.below a0 (hb.mono hsz)
  have a1_ := RV.below a1 (hb.mono hsz)
  have ot0_ := OwnV.below ot0 hb it0
  have it0_ := Nat.le_trans it0 hb.size
  have ot1_ := OwnV.below ot1 hb it1
  have it1_ := Nat.le_trans it1 hb.size
  have oW_ := OwnV.below oW hb iW
  have iW_ := Nat.le_trans iW hb.size
  have ox0_ := OwnV.below ox0 hb ix0
  have ix0_ := Nat.le_trans ix0 hb.size
  clear hbel; have hbel := hbel_; clear hbel_
  clear a0; have a0 := a0_; clear a0_
  clear a1; have a1 := a1_; clear a1_
  clear ot0; have ot0 := ot0_; clear ot0_
  clear it0; have it0 := it0_; clear it0_
  clear ot1; have ot1 := ot1_; clear ot1_
  clear it1; have it1 := it1_; clear it1_
  clear oW; have oW := oW_; clear oW_
  clear iW; have iW := iW_; clear iW_
  clear ox0; have ox0 := ox0_; clear ox0_
  clear ix0; have ix0 := ix0_; clear ix0_
  clear hsz
  clear hb
  go_wp2_with fail
  refine (addChips_impl _ _ _ _ _ _ _ xs ys _ (RV.more (OwnI.ri ox0) ix0) (RV.more (OwnI.ri ox1) ix1) (Nat.le_refl _) (by omega) (by omega)).mono ?_
  rintro e w6 ⟨AG, nG, cG, rfl, oG, hb⟩
  have lG : w.heap.size ≤ w5.heap.size := hbel.size
  have iG : w6.heap.size ≤ w6.heap.size := Nat.le_refl _
  have dt0G := it0
  have dt1G := it1
  have dWG := iW
  have dx0G := ix0
  have dx1G := ix1
  rw [← HV.out] at oG
  have zG : nG ≤ 1000000000 := by have := OwnI.len oG; omega
  have hsz := hbel.size
  have hbel_ := hbel.trans (hb.mono hsz)
  have a0_ := RV.below a0 (hb.mono hsz)
  have a1_ := RV.below a1 (hb.mono hsz)
  have ot0_ := OwnV.below ot0 hb it0
  have it0_ := Nat.le_trans it0 hb.size
  have ot1_ := OwnV.below ot1 hb it1
  have it1_ := Nat.le_trans it1 hb.size
  have oW_ := OwnV.below oW hb iW
  have iW_ := Nat.le_trans iW hb.size
  have ox0_ := OwnV.below ox0 hb ix0
  have ix0_ := Nat.le_trans ix0 hb.size
  have ox1_ := OwnV.below ox1 hb ix1
  have ix1_ := Nat.le_trans ix1 hb.size
  clear hbel; have hbel := hbel_; clear hbel_
  clear a0; have a0 := a0_; clear a0_
  clear a1; have a1 := a1_; clear a1_
  clear ot0; have ot0 := ot0_; clear ot0_
  clear it0; have it0 := it0_; clear it0_
  clear ot1; have ot1 := ot1_; clear ot1_
  clear it1; have it1 := it1_; clear it1_
  clear oW; have oW := oW_; clear oW_
  clear iW; have iW := iW_; clear iW_
  clear ox0; have ox0 := ox0_; clear ox0_
  clear ix0; have ix0 := ix0_; clear ix0_
  clear ox1; have ox1 := ox1_; clear ox1_
  clear ix1; have ix1 := ix1_; clear ix1_
  clear hsz
  clear hb
  go_wp2_with fail
  refine (eqIntS_same _ _ _ _ _ _ _ _ _ _ (OwnI.ri oG) (OwnI.ri oW) (hlen)).mono ?_
  rintro e w7 ⟨rfl, hb⟩
  have hsz := hbel.size
  have hbel_ := hbel.trans (hb.mono hsz)
  have a0_ := RV.below a0 (hb.mono hsz)
  have a1_ := RV.below a1 (hb.mono hsz)
  have ot0_ := OwnV.below ot0 hb it0
  have it0_ := Nat.le_trans it0 hb.size
  have ot1_ := OwnV.below ot1 hb it1
  have it1_ := Nat.le_trans it1 hb.size
  have oW_ := OwnV.below oW hb iW
  have iW_ := Nat.le_trans iW hb.size
  have ox0_ := OwnV.below ox0 hb ix0
  have ix0_ := Nat.le_trans ix0 hb.size
  have ox1_ := OwnV.below ox1 hb ix1
  have ix1_ := Nat.le_trans ix1 hb.size
  have oG_ := OwnV.below oG hb iG
  have iG_ := Nat.le_trans iG hb.size
  clear hbel; have hbel := hbel_; clear hbel_
  clear a0; have a0 := a0_; clear a0_
  clear a1; have a1 := a1_; clear a1_
  clear ot0; have ot0 := ot0_; clear ot0_
  clear it0; have it0 := it0_; clear it0_
  clear ot1; have ot1 := ot1_; clear ot1_
  clear it1; have it1 := it1_; clear it1_
  clear oW; have oW := oW_; clear oW_
  clear iW; have iW := iW_; clear iW_
  clear ox0; have ox0 := ox0_; clear ox0_
  clear ix0; have ix0 := ix0_; clear ix0_
  clear ox1; have ox1 := ox1_; clear ox1_
  clear ix1; have ix1 := ix1_; clear ix1_
  clear oG; have oG := oG_; clear oG_
  clear iG; have iG := iG_; clear iG_
  clear hsz
  clear hb
  go_wp2_with fail
  refine (toIntS_any A0 n0 c0 _ xs _ a0 hbel.size (by omega)).mono ?_
  rintro e w8 ⟨rfl, ou0, hb, hs⟩
  have lu0 : w.heap.size ≤ w7.heap.size := hbel.size
  have iu0 : w7.heap.size + 1 ≤ w8.heap.size := by rw [hs]; exact Nat.le_refl _
  clear hs
  have dt0u0 := it0
  have dt1u0 := it1
  have dWu0 := iW
  have dx0u0 := ix0
  have dx1u0 := ix1
  have dGu0 := iG
  have hsz := hbel.size
  have hbel_ := hbel.trans (hb.mono hsz)
  have a0_ := RV.below a0 (hb.mono hsz)
  have a1_ := RV.below a1 (hb.mono hsz)
  have ot0_ := OwnV.below ot0 hb it0
  have it0_ := Nat.le_trans it0 hb.size
  have ot1_ := OwnV.below ot1 hb it1
  have it1_ := Nat.le_trans it1 hb.size
  have oW_ := OwnV.below oW hb iW
  have iW_ := Nat.le_trans iW hb.size
  have ox0_ := OwnV.below ox0 hb ix0
  have ix0_ := Nat.le_trans ix0 hb.size
  have ox1_ := OwnV.below ox1 hb ix1
  have ix1_ := Nat.le_trans ix1 hb.size
  have oG_ := OwnV.below oG hb iG
  have iG_ := Nat.le_trans iG hb.size
  clear hbel; have hbel := hbel_; clear hbel_
  clear a0; have a0 := a0_; clear a0_
  clear a1; have a1 := a1_; clear a1_
  clear ot0; have ot0 := ot0_; clear ot0_
  clear it0; have it0 := it0_; clear it0_
  clear ot1; have ot1 := ot1_; clear ot1_
  clear it1; have it1 := it1_; clear it1_
  clear oW; have oW := oW_; clear oW_
  clear iW; have iW := iW_; clear iW_
  clear ox0; have ox0 := ox0_; clear ox0_
  clear ix0; have ix0 := ix0_; clear ix0_
  clear ox1; have ox1 := ox1_; clear ox1_
  clear ix1; have ix1 := ix1_; clear ix1_
  clear oG; have oG := oG_; clear oG_
  clear iG; have iG := iG_; clear iG_
  clear hsz
  clear hb
  go_wp2_with fail
  refine (eqIntS_same _ _ _ _ _ _ _ _ _ _ (OwnI.ri ox0) (OwnI.ri ou0) (by have := RI.len a0; omega)).mono ?_
  rintro e w9 ⟨rfl, hb⟩
  have hsz := hbel.size
  have hbel_ := hbel.trans (hb.mono hsz)
  have a0_ := RV.below a0 (hb.mono hsz)
  have a1_ := RV.below a1 (hb.mono hsz)
  have ot0_ := OwnV.below ot0 hb it0
  have it0_ := Nat.le_trans it0 hb.size
  have ot1_ := OwnV.below ot1 hb it1
  have it1_ := Nat.le_trans it1 hb.size
  have oW_ := OwnV.below oW hb iW
  have iW_ := Nat.le_trans iW hb.size
  have ox0_ := OwnV.below ox0 hb ix0
  have ix0_ := Nat.le_trans ix0 hb.size
  have ox1_ := OwnV.below ox1 hb ix1
  have ix1_ := Nat.le_trans ix1 hb.size
  have oG_ := OwnV.below oG hb iG
  have iG_ := Nat.le_trans iG hb.size
  have ou0_ := OwnV.below ou0 hb iu0
  have iu0_ := Nat.le_trans iu0 hb.size
  clear hbel; have hbel := hbel_; clear hbel_
  clear a0; have a0 := a0_; clear a0_
  clear a1; have a1 := a1_; clear a1_
  clear ot0; have ot0 := ot0_; clear ot0_
  clear it0; have it0 := it0_; clear it0_
  clear ot1; have ot1 := ot1_; clear ot1_
  clear it1; have it1 := it1_; clear it1_
  clear oW; have oW := oW_; clear oW_
  clear iW; have iW := iW_; clear iW_
  clear ox0; have ox0 := ox0_; clear ox0_
  clear ix0; have ix0 := ix0_; clear ix0_
  clear ox1; have ox1 := ox1_; clear ox1_
  clear ix1; have ix1 := ix1_; clear ix1_
  clear oG; have oG := oG_; clear oG_
  clear iG; have iG := iG_; clear iG_
  clear ou0; have ou0 := ou0_; clear ou0_
  clear iu0; have iu0 := iu0_; clear iu0_
  clear hsz
  clear hb
  go_wp2_with fail
  refine (toIntS_any A1 n1 c1 _ ys _ a1 hbel.size (by omega)).mono ?_
  rintro e w10 ⟨rfl, ou1, hb, hs⟩
  have lu1 : w.heap.size ≤ w9.heap.size := hbel.size
  have iu1 : w9.heap.size + 1 ≤ w10.heap.size := by rw [hs]; exact Nat.le_refl _
  clear hs
  have dt0u1 := it0
  have dt1u1 := it1
  have dWu1 := iW
  have dx0u1 := ix0
  have dx1u1 := ix1
  have dGu1 := iG
  have du0u1 := iu0
  have hsz := hbel.size
  have hbel_ := hbel.trans (hb.mono hsz)
  have a0_ := RV.below a0 (hb.mono hsz)
  have a1_ := RV.below a1 (hb.mono hsz)
  have ot0_ := OwnV.below ot0 hb it0
  have it0_ := Nat.le_trans it0 hb.size
  have ot1_ := OwnV.below ot1 hb it1
  have it1_ := Nat.le_trans it1 hb.size
  have oW_ := OwnV.below oW hb iW
  have iW_ := Nat.le_trans iW hb.size
  have ox0_ := OwnV.below ox0 hb ix0
  have ix0_ := Nat.le_trans ix0 hb.size
  have ox1_ := OwnV.below ox1 hb ix1
  have ix1_ := Nat.le_trans ix1 hb.size
  have oG_ := OwnV.below oG hb iG
  have iG_ := Nat.le_trans iG hb.size
  have ou0_ := OwnV.below ou0 hb iu0
  have iu0_ := Nat.le_trans iu0 hb.size
  clear hbel; have hbel := hbel_; clear hbel_
  clear a0; have a0 := a0_; clear a0_
  clear a1; have a1 := a1_; clear a1_
  clear ot0; have ot0 := ot0_; clear ot0_
  clear it0; have it0 := it0_; clear it0_
  clear ot1; have ot1 := ot1_; clear ot1_
  clear it1; have it1 := it1_; clear it1_
  clear oW; have oW := oW_; clear oW_
  clear iW; have iW := iW_; clear iW_
  clear ox0; have ox0 := ox0_; clear ox0_
  clear ix0; have ix0 := ix0_; clear ix0_
  clear ox1; have ox1 := ox1_; clear ox1_
  clear ix1; have ix1 := ix1_; clear ix1_
  clear oG; have oG := oG_; clear oG_
  clear iG; have iG := iG_; clear iG_
  clear ou0; have ou0 := ou0_; clear ou0_
  clear iu0; have iu0 := iu0_; clear iu0_
  clear hsz
  clear hb
  go_wp2_with fail
  refine (eqIntS_same _ _ _ _ _ _ _ _ _ _ (OwnI.ri ox1) (OwnI.ri ou1) (by have := RI.len a1; omega)).mono ?_
  rintro e w11 ⟨rfl, hb⟩
  have hsz := hbel.size
  have hbel_ := hbel.trans (hb.mono hsz)
  have a0_ := RV.below a0 (hb.mono hsz)
  have a1_ := RV.below a1 (hb.mono hsz)
  have ot0_ := OwnV.below ot0 hb it0
  have it0_ := Nat.le_trans it0 hb.size
  have ot1_ := OwnV.below ot1 hb it1
  have it1_ := Nat.le_trans it1 hb.size
  have oW_ := OwnV.below oW hb iW
  have iW_ := Nat.le_trans iW hb.size
  have ox0_ := OwnV.below ox0 hb ix0
  have ix0_ := Nat.le_trans ix0 hb.size
  have ox1_ := OwnV.below ox1 hb ix1
  have ix1_ := Nat.le_trans ix1 hb.size
  have oG_ := OwnV.below oG hb iG
  have iG_ := Nat.le_trans iG hb.size
  have ou0_ := OwnV.below ou0 hb iu0
  have iu0_ := Nat.le_trans iu0 hb.size
  have ou1_ := OwnV.below ou1 hb iu1
  have iu1_ := Nat.le_trans iu1 hb.size
  clear hbel; have hbel := hbel_; clear hbel_
  clear a0; have a0 := a0_; clear a0_
  clear a1; have a1 := a1_; clear a1_
  clear ot0; have ot0 := ot0_; clear ot0_
  clear it0; have it0 := it0_; clear it0_
  clear ot1; have ot1 := ot1_; clear ot1_
  clear it1; have it1 := it1_; clear it1_
  clear oW; have oW := oW_; clear oW_
  clear iW; have iW := iW_; clear iW_
  clear ox0; have ox0 := ox0_; clear ox0_
  clear ix0; have ix0 := ix0_; clear ix0_
  clear ox1; have ox1 := ox1_; clear ox1_
  clear ix1; have ix1 := ix1_; clear ix1_
  clear oG; have oG := oG_; clear oG_
  clear iG; have iG := iG_; clear iG_
  clear ou0; have ou0 := ou0_; clear ou0_
  clear iu0; have iu0 := iu0_; clear iu0_
  clear ou1; have ou1 := ou1_; clear ou1_
  clear iu1; have iu1 := iu1_; clear iu1_
  clear hsz
  clear hb
  go_wp2_with fail
  refine (markIntS_any _ _ _ _ _ _ _ _ ox0 (by omega) (by omega) (by omega)).mono ?_
  rintro e w12 ⟨rfl, ox0_, ho, hs⟩
  clear hs
  have hsz := hbel.size
  have hbel_ := hbel.trans (ho.below lx0 hsz)
  have a0_ := RV.below a0 (ho.below lx0 hsz)
  have a1_ := RV.below a1 (ho.below lx0 hsz)
  have ot0_ := OwnV.only ot0 ho (by omega)
  have it0_ := Nat.le_trans it0 ho.size
  have ot1_ := OwnV.only ot1 ho (by omega)
  have it1_ := Nat.le_trans it1 ho.size
  have oW_ := OwnV.only oW ho (by omega)
  have iW_ := Nat.le_trans iW ho.size
  have ix0_ := Nat.le_trans ix0 ho.size
  have ox1_ := OwnV.only ox1 ho (by omega)
  have ix1_ := Nat.le_trans ix1 ho.size
  have oG_ := OwnV.only oG ho (by omega)
  have iG_ := Nat.le_trans iG ho.size
  have ou0_ := OwnV.only ou0 ho (by omega)
  have iu0_ := Nat.le_trans iu0 ho.size
  have ou1_ := OwnV.only ou1 ho (by omega)
  have iu1_ := Nat.le_trans iu1 ho.size
  clear hbel; have hbel := hbel_; clear hbel_
  clear a0; have a0 := a0_; clear a0_
  clear a1; have a1 := a1_; clear a1_
  clear ot0; have ot0 := ot0_; clear ot0_
  clear it0; have it0 := it0_; clear it0_
  clear ot1; have ot1 := ot1_; clear ot1_
  clear it1; have it1 := it1_; clear it1_
  clear oW; have oW := oW_; clear oW_
  clear iW; have iW := iW_; clear iW_
  clear ix0; have ix0 := ix0_; clear ix0_
  clear ox1; have ox1 := ox1_; clear ox1_
  clear ix1; have ix1 := ix1_; clear ix1_
  clear oG; have oG := oG_; clear oG_
  clear iG; have iG := iG_; clear iG_
  clear ou0; have ou0 := ou0_; clear ou0_
  clear iu0; have iu0 := iu0_; clear iu0_
  clear ou1; have ou1 := ou1_; clear ou1_
  clear iu1; have iu1 := iu1_; clear iu1_
  clear hsz
  clear ox0; have ox0 := ox0_; clear ox0_ ho
  go_wp2_with fail
  refine (markIntS_any _ _ _ _ _ _ _ _ ox1 (by omega) (by omega) (by omega)).mono ?_
  rintro e w13 ⟨rfl, ox1_, ho, hs⟩
  clear hs
  have hsz := hbel.size
  have hbel_ := hbel.trans (ho.below lx1 hsz)
  have a0_ := RV.below a0 (ho.below lx1 hsz)
  have a1_ := RV.below a1 (ho.below lx1 hsz)
  have ot0_ := OwnV.only ot0 ho (by omega)
  have it0_ := Nat.le_trans it0 ho.size
  have ot1_ := OwnV.only ot1 ho (by omega)
  have it1_ := Nat.le_trans it1 ho.size
  have oW_ := OwnV.only oW ho (by omega)
  have iW_ := Nat.le_trans iW ho.size
  have ox0_ := OwnV.only ox0 ho (by omega)
  have ix0_ := Nat.le_trans ix0 ho.size
  have ix1_ := Nat.le_trans ix1 ho.size
  have oG_ := OwnV.only oG ho (by omega)
  have iG_ := Nat.le_trans iG ho.size
  have ou0_ := OwnV.only ou0 ho (by omega)
  have iu0_ := Nat.le_trans iu0 ho.size
  have ou1_ := OwnV.only ou1 ho (by omega)
  have iu1_ := Nat.le_trans iu1 ho.size
  clear hbel; have hbel := hbel_; clear hbel_
  clear a0; have a0 := a0_; clear a0_
  clear a1; have a1 := a1_; clear a1_
  clear ot0; have ot0 := ot0_; clear ot0_
  clear it0; have it0 := it0_; clear it0_
  clear ot1; have ot1 := ot1_; clear ot1_
  clear it1; have it1 := it1_; clear it1_
  clear oW; have oW := oW_; clear oW_
  clear iW; have iW := iW_; clear iW_
  clear ox0; have ox0 := ox0_; clear ox0_
  clear ix0; have ix0 := ix0_; clear ix0_
  clear ix1; have ix1 := ix1_; clear ix1_
  clear oG; have oG := oG_; clear oG_
  clear iG; have iG := iG_; clear iG_
  clear ou0; have ou0 := ou0_; clear ou0_
  clear iu0; have iu0 := iu0_; clear iu0_
  clear ou1; have ou1 := ou1_; clear ou1_
  clear iu1; have iu1 := iu1_; clear iu1_
  clear hsz
  clear ox1; have ox1 := ox1_; clear ox1_ ho
  go_wp2_with fail
  refine (eqIntS_same _ _ _ _ _ _ _ _ _ _ (OwnI.ri oG) (OwnI.ri oW) (hlen)).mono ?_
  rintro e w14 ⟨rfl, hb⟩
  have hsz := hbel.size
  have hbel_ := hbel.trans (hb.mono hsz)
  have a0_ := RV.below a0 (hb.mono hsz)
  have a1_ := RV.below a1 (hb.mono hsz)
  have ot0_ := OwnV.below ot0 hb it0
  have it0_ := Nat.le_trans it0 hb.size
  have ot1_ := OwnV.below ot1 hb it1
  have it1_ := Nat.le_trans it1 hb.size
  have oW_ := OwnV.below oW hb iW
  have iW_ := Nat.le_trans iW hb.size
  have ox0_ := OwnV.below ox0 hb ix0
  have ix0_ := Nat.le_trans ix0 hb.size
  have ox1_ := OwnV.below ox1 hb ix1
  have ix1_ := Nat.le_trans ix1 hb.size
  have oG_ := OwnV.below oG hb iG
  have iG_ := Nat.le_trans iG hb.size
  have ou0_ := OwnV.below ou0 hb iu0
  have iu0_ := Nat.le_trans iu0 hb.size
  have ou1_ := OwnV.below ou1 hb iu1
  have iu1_ := Nat.le_trans iu1 hb.size
  clear hbel; have hbel := hbel_; clear hbel_
  clear a0; have a0 := a0_; clear a0_
  clear a1; have a1 := a1_; clear a1_
  clear ot0; have ot0 := ot0_; clear ot0_
  clear it0; have it0 := it0_; clear it0_
  clear ot1; have ot1 := ot1_; clear ot1_
  clear it1; have it1 := it1_; clear it1_
  clear oW; have oW := oW_; clear oW_
  clear iW; have iW := iW_; clear iW_
  clear ox0; have ox0 := ox0_; clear ox0_
  clear ix0; have ix0 := ix0_; clear ix0_
  clear ox1; have ox1 := ox1_; clear ox1_
  clear ix1; have ix1 := ix1_; clear ix1_
  clear oG; have oG := oG_; clear oG_
  clear iG; have iG := iG_; clear iG_
  clear ou0; have ou0 := ou0_; clear ou0_
  clear iu0; have iu0 := iu0_; clear iu0_
  clear ou1; have ou1 := ou1_; clear ou1_
  clear iu1; have iu1 := iu1_; clear iu1_
  clear hsz
  clear hb
  go_wp2_with fail
  refine (markIntS_any _ _ _ _ _ _ _ _ oG (by omega) (by omega) (by omega)).mono ?_
  rintro e w15 ⟨rfl, oG_, ho, hs⟩
  clear hs
  have hsz := hbel.size
  have hbel_ := hbel.trans (ho.below lG hsz)
  have a0_ := RV.below a0 (ho.below lG hsz)
  have a1_ := RV.below a1 (ho.below lG hsz)
  have ot0_ := OwnV.only ot0 ho (by omega)
  have it0_ := Nat.le_trans it0 ho.size
  have ot1_ := OwnV.only ot1 ho (by omega)
  have it1_ := Nat.le_trans it1 ho.size
  have oW_ := OwnV.only oW ho (by omega)
  have iW_ := Nat.le_trans iW ho.size
  have ox0_ := OwnV.only ox0 ho (by omega)
  have ix0_ := Nat.le_trans ix0 ho.size
  have ox1_ := OwnV.only ox1 ho (by omega)
  have ix1_ := Nat.le_trans ix1 ho.size
  have iG_ := Nat.le_trans iG ho.size
  have ou0_ := OwnV.only ou0 ho (by omega)
  have iu0_ := Nat.le_trans iu0 ho.size
  have ou1_ := OwnV.only ou1 ho (by omega)
  have iu1_ := Nat.le_trans iu1 ho.size
  clear hbel; have hbel := hbel_; clear hbel_
  clear a0; have a0 := a0_; clear a0_
  clear a1; have a1 := a1_; clear a1_
  clear ot0; have ot0 := ot0_; clear ot0_
  clear it0; have it0 := it0_; clear it0_
  clear ot1; have ot1 := ot1_; clear ot1_
  clear it1; have it1 := it1_; clear it1_
  clear oW; have oW := oW_; clear oW_
  clear iW; have iW := iW_; clear iW_
  clear ox0; have ox0 := ox0_; clear ox0_
  clear ix0; have ix0 := ix0_; clear ix0_
  clear ox1; have ox1 := ox1_; clear ox1_
  clear ix1; have ix1 := ix1_; clear ix1_
  clear iG; have iG := iG_; clear iG_
  clear ou0; have ou0 := ou0_; clear ou0_
  clear iu0; have iu0 := iu0_; clear iu0_
  clear ou1; have ou1 := ou1_; clear ou1_
  clear iu1; have iu1 := iu1_; clear iu1_
  clear hsz
  clear oG; have oG := oG_; clear oG_ ho
  go_wp2_with fail
  refine (heldIntS_yes _ _ _ _ _ _ (OwnI.ri oG) (by omega) (by omega) (by omega)).mono ?_
  rintro e w_ ⟨rfl, rfl⟩
  go_wp2_with fail
  refine (toIntS_any A0 n0 c0 _ xs _ a0 hbel.size (by omega)).mono ?_
  rintro e w16 ⟨rfl, oy0, hb, hs⟩
  have ly0 : w.heap.size ≤ w15.heap.size := hbel.size
  have iy0 : w15.heap.size + 1 ≤ w16.heap.size := by rw [hs]; exact Nat.le_refl _
  clear hs
  have dt0y0 := it0
  have dt1y0 := it1
  have dWy0 := iW
  have dx0y0 := ix0
  have dx1y0 := ix1
  have dGy0 := iG
  have du0y0 := iu0
  have du1y0 := iu1
  have hsz := hbel.size
  have hbel_ := hbel.trans (hb.mono hsz)
  have a0_ := RV.below a0 (hb.mono hsz)
  have a1_ := RV.below a1 (hb.mono hsz)
  have ot0_ := OwnV.below ot0 hb it0
  have it0_ := Nat.le_trans it0 hb.size
  have ot1_ := OwnV.below ot1 hb it1
  have it1_ := Nat.le_trans it1 hb.size
  have oW_ := OwnV.below oW hb iW
  have iW_ := Nat.le_trans iW hb.size
  have ox0_ := OwnV.below ox0 hb ix0
  have ix0_ := Nat.le_trans ix0 hb.size
  have ox1_ := OwnV.below ox1 hb ix1
  have ix1_ := Nat.le_trans ix1 hb.size
  have oG_ := OwnV.below oG hb iG
  have iG_ := Nat.le_trans iG hb.size
  have ou0_ := OwnV.below ou0 hb iu0
  have iu0_ := Nat.le_trans iu0 hb.size
  have ou1_ := OwnV.below ou1 hb iu1
  have iu1_ := Nat.le_trans iu1 hb.size
  clear hbel; have hbel := hbel_; clear hbel_
  clear a0; have a0 := a0_; clear a0_
  clear a1; have a1 := a1_; clear a1_
  clear ot0; have ot0 := ot0_; clear ot0_
  clear it0; have it0 := it0_; clear it0_
  clear ot1; have ot1 := ot1_; clear ot1_
  clear it1; have it1 := it1_; clear it1_
  clear oW; have oW := oW_; clear oW_
  clear iW; have iW := iW_; clear iW_
  clear ox0; have ox0 := ox0_; clear ox0_
  clear ix0; have ix0 := ix0_; clear ix0_
  clear ox1; have ox1 := ox1_; clear ox1_
  clear ix1; have ix1 := ix1_; clear ix1_
  clear oG; have oG := oG_; clear oG_
  clear iG; have iG := iG_; clear iG_
  clear ou0; have ou0 := ou0_; clear ou0_
  clear iu0; have iu0 := iu0_; clear iu0_
  clear ou1; have ou1 := ou1_; clear ou1_
  clear iu1; have iu1 := iu1_; clear iu1_
  clear hsz
  clear hb
  go_wp2_with fail
  refine (toIntS_any A1 n1 c1 _ ys _ a1 hbel.size (by omega)).mono ?_
  rintro e w17 ⟨rfl, oy1, hb, hs⟩
  have ly1 : w.heap.size ≤ w16.heap.size := hbel.size
  have iy1 : w16.heap.size + 1 ≤ w17.heap.size := by rw [hs]; exact Nat.le_refl _
  clear hs
  have dt0y1 := it0
  have dt1y1 := it1
  have dWy1 := iW
  have dx0y1 := ix0
  have dx1y1 := ix1
  have dGy1 := iG
  have du0y1 := iu0
  have du1y1 := iu1
  have dy0y1 := iy0
  have hsz := hbel.size
  have hbel_ := hbel.trans (hb.mono hsz)
  have a0_ := RV.below a0 (hb.mono hsz)
  have a1_ := RV.below a1 (hb.mono hsz)
  have ot0_ := OwnV.below ot0 hb it0
  have it0_ := Nat.le_trans it0 hb.size
  have ot1_ := OwnV.below ot1 hb it1
  have it1_ := Nat.le_trans it1 hb.size
  have oW_ := OwnV.below oW hb iW
  have iW_ := Nat.le_trans iW hb.size
  have ox0_ := OwnV.below ox0 hb ix0
  have ix0_ := Nat.le_trans ix0 hb.size
  have ox1_ := OwnV.below ox1 hb ix1
  have ix1_ := Nat.le_trans ix1 hb.size
  have oG_ := OwnV.below oG hb iG
  have iG_ := Nat.le_trans iG hb.size
  have ou0_ := OwnV.below ou0 hb iu0
  have iu0_ := Nat.le_trans iu0 hb.size
  have ou1_ := OwnV.below ou1 hb iu1
  have iu1_ := Nat.le_trans iu1 hb.size
  have oy0_ := OwnV.below oy0 hb iy0
  have iy0_ := Nat.le_trans iy0 hb.size
  clear hbel; have hbel := hbel_; clear hbel_
  clear a0; have a0 := a0_; clear a0_
  clear a1; have a1 := a1_; clear a1_
  clear ot0; have ot0 := ot0_; clear ot0_
  clear it0; have it0 := it0_; clear it0_
  clear ot1; have ot1 := ot1_; clear ot1_
  clear it1; have it1 := it1_; clear it1_
  clear oW; have oW := oW_; clear oW_
  clear iW; have iW := iW_; clear iW_
  clear ox0; have ox0 := ox0_; clear ox0_
  clear ix0; have ix0 := ix0_; clear ix0_
  clear ox1; have ox1 := ox1_; clear ox1_
  clear ix1; have ix1 := ix1_; clear ix1_
  clear oG; have oG := oG_; clear oG_
  clear iG; have iG := iG_; clear iG_
  clear ou0; have ou0 := ou0_; clear ou0_
  clear iu0; have iu0 := iu0_; clear iu0_
  clear ou1; have ou1 := ou1_; clear ou1_
  clear iu1; have iu1 := iu1_; clear iu1_
  clear oy0; have oy0 := oy0_; clear oy0_
  clear iy0; have iy0 := iy0_; clear iy0_
  clear hsz
  clear hb
  go_wp2_with fail
  refine (addChips_impl _ _ _ _ _ _ _ xs ys _ (RV.more (OwnI.ri oy0) iy0) (RV.more (OwnI.ri oy1) iy1) (Nat.le_refl _) (by omega) (by omega)).mono ?_
  rintro e w18 ⟨AH, nH, cH, rfl, oH, hb⟩
  have lH : w.heap.size ≤ w17.heap.size := hbel.size
  have iH : w18.heap.size ≤ w18.heap.size := Nat.le_refl _
  have dt0H := it0
  have dt1H := it1
  have dWH := iW
  have dx0H := ix0
  have dx1H := ix1
  have dGH := iG
  have du0H := iu0
  have du1H := iu1
  have dy0H := iy0
  have dy1H := iy1
  rw [← HV.out] at oH
  have zH : nH ≤ 1000000000 := by have := OwnI.len oH; omega
  have hsz := hbel.size
  have hbel_ := hbel.trans (hb.mono hsz)
  have a0_ := RV.below a0 (hb.mono hsz)
  have a1_ := RV.below a1 (hb.mono hsz)
  have ot0_ := OwnV.below ot0 hb it0
  have it0_ := Nat.le_trans it0 hb.size
  have ot1_ := OwnV.below ot1 hb it1
  have it1_ := Nat.le_trans it1 hb.size
  have oW_ := OwnV.below oW hb iW
  have iW_ := Nat.le_trans iW hb.size
  have ox0_ := OwnV.below ox0 hb ix0
  have ix0_ := Nat.le_trans ix0 hb.size
  have ox1_ := OwnV.below ox1 hb ix1
  have ix1_ := Nat.le_trans ix1 hb.size
  have oG_ := OwnV.below oG hb iG
  have iG_ := Nat.le_trans iG hb.size
  have ou0_ := OwnV.below ou0 hb iu0
  have iu0_ := Nat.le_trans iu0 hb.size
  have ou1_ := OwnV.below ou1 hb iu1
  have iu1_ := Nat.le_trans iu1 hb.size
  have oy0_ := OwnV.below oy0 hb iy0
  have iy0_ := Nat.le_trans iy0 hb.size
  have oy1_ := OwnV.below oy1 hb iy1
  have iy1_ := Nat.le_trans iy1 hb.size
  clear hbel; have hbel := hbel_; clear hbel_
  clear a0; have a0 := a0_; clear a0_
  clear a1; have a1 := a1_; clear a1_
  clear ot0; have ot0 := ot0_; clear ot0_
  clear it0; have it0 := it0_; clear it0_
  clear ot1; have ot1 := ot1_; clear ot1_
  clear it1; have it1 := it1_; clear it1_
  clear oW; have oW := oW_; clear oW_
  clear iW; have iW := iW_; clear iW_
  clear ox0; have ox0 := ox0_; clear ox0_
  clear ix0; have ix0 := ix0_; clear ix0_
  clear ox1; have ox1 := ox1_; clear ox1_
  clear ix1; have ix1 := ix1_; clear ix1_
  clear oG; have oG := oG_; clear oG_
  clear iG; have iG := iG_; clear iG_
  clear ou0; have ou0 := ou0_; clear ou0_
  clear iu0; have iu0 := iu0_; clear iu0_
  clear ou1; have ou1 := ou1_; clear ou1_
  clear iu1; have iu1 := iu1_; clear iu1_
  clear oy0; have oy0 := oy0_; clear oy0_
  clear iy0; have iy0 := iy0_; clear iy0_
  clear oy1; have oy1 := oy1_; clear oy1_
  clear iy1; have iy1 := iy1_; clear iy1_
  clear hsz
  clear hb
  go_wp2_with fail
  refine (eqIntS_same _ _ _ _ _ _ _ _ _ _ (OwnI.ri oH) (OwnI.ri oW) (hlen)).mono ?_
  rintro e w19 ⟨rfl, hb⟩
  have hsz := hbel.size
  have hbel_ := hbel.trans (hb.mono hsz)
  have a0_ := RV.below a0 (hb.mono hsz)
  have a1_ := RV.below a1 (hb.mono hsz)
  have ot0_ := OwnV.below ot0 hb it0
  have it0_ := Nat.le_trans it0 hb.size
  have ot1_ := OwnV.below ot1 hb it1
  have it1_ := Nat.le_trans it1 hb.size
  have oW_ := OwnV.below oW hb iW
  have iW_ := Nat.le_trans iW hb.size
  have ox0_ := OwnV.below ox0 hb ix0
  have ix0_ := Nat.le_trans ix0 hb.size
  have ox1_ := OwnV.below ox1 hb ix1
  have ix1_ := Nat.le_trans ix1 hb.size
  have oG_ := OwnV.below oG hb iG
  have iG_ := Nat.le_trans iG hb.size
  have ou0_ := OwnV.below ou0 hb iu0
  have iu0_ := Nat.le_trans iu0 hb.size
  have ou1_ := OwnV.below ou1 hb iu1
  have iu1_ := Nat.le_trans iu1 hb.size
  have oy0_ := OwnV.below oy0 hb iy0
  have iy0_ := Nat.le_trans iy0 hb.size
  have oy1_ := OwnV.below oy1 hb iy1
  have iy1_ := Nat.le_trans iy1 hb.size
  have oH_ := OwnV.below oH hb iH
  have iH_ := Nat.le_trans iH hb.size
  clear hbel; have hbel := hbel_; clear hbel_
  clear a0; have a0 := a0_; clear a0_
  clear a1; have a1 := a1_; clear a1_
  clear ot0; have ot0 := ot0_; clear ot0_
  clear it0; have it0 := it0_; clear it0_
  clear ot1; have ot1 := ot1_; clear ot1_
  clear it1; have it1 := it1_; clear it1_
  clear oW; have oW := oW_; clear oW_
  clear iW; have iW := iW_; clear iW_
  clear ox0; have ox0 := ox0_; clear ox0_
  clear ix0; have ix0 := ix0_; clear ix0_
  clear ox1; have ox1 := ox1_; clear ox1_
  clear ix1; have ix1 := ix1_; clear ix1_
  clear oG; have oG := oG_; clear oG_
  clear iG; have iG := iG_; clear iG_
  clear ou0; have ou0 := ou0_; clear ou0_
  clear iu0; have iu0 := iu0_; clear iu0_
  clear ou1; have ou1 := ou1_; clear ou1_
  clear iu1; have iu1 := iu1_; clear iu1_
  clear oy0; have oy0 := oy0_; clear oy0_
  clear iy0; have iy0 := iy0_; clear iy0_
  clear oy1; have oy1 := oy1_; clear oy1_
  clear iy1; have iy1 := iy1_; clear iy1_
  clear oH; have oH := oH_; clear oH_
  clear iH; have iH := iH_; clear iH_
  clear hsz
  clear hb
  go_wp2_with fail
  refine (heldIntS_yes _ _ _ _ _ _ (OwnI.ri oG) (by omega) (by omega) (by omega)).mono ?_
  rintro e w_ ⟨rfl, rfl⟩
  go_wp2
  go_ret
  exact ⟨rfl, hbel⟩

theorem fnExactAddChips_walk {A0 : Option Addr} {n0 c0 : Nat} {xs : List Int} {A1 : Option Addr} {n1 c1 : Nat} {ys : List Int} (w : World) (h0 : RV w w.heap.size A0 n0 (xs.map (Value.int .i64))) (wf0 : ∀ x ∈ xs, (Lit.int .i64 x).wf = true) (hl0 : n0 ≤ c0) (hm0 : c0 ≤ maxLen) (h1 : RV w w.heap.size A1 n1 (ys.map (Value.int .i64))) (wf1 : ∀ x ∈ ys, (Lit.int .i64 x).wf = true) (hl1 : n1 ≤ c1) (hm1 : c1 ≤ maxLen) :
    Calls Try.prog 6 #[.slice A0 n0 c0, .slice A1 n1 c1] w fun e w' => e = .returned (.bool true) ∧ Below w.heap.size w w' := by
  by_cases q0 : n0 ≤ 1048576
  · skip
    by_cases q1 : n1 ≤ 1048576
    · skip
      exact fnExactAddChips_core w A0 n0 c0 xs h0 wf0 hl0 hm0 A1 n1 c1 ys h1 wf1 hl1 hm1 ⟨q0, q1⟩
    · unfold maxLen at *
      go_enter Try.func6, Try.ntmps6
      go_wp2
      go_ret
      exact ⟨rfl, Below.refl _ _⟩
  · unfold maxLen at *
    go_enter Try.func6, Try.ntmps6
    go_wp2
    go_ret
    exact ⟨rfl, Below.refl _ _⟩
end Go.Proofs.Ytgkkanamnhochaa
