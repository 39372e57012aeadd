/-
  FnExactStopAndWait, walked: the program's StopAndWait returns what the reference's returns; it changes no argument; its result is memory of its own.
-/
import Derived.Test.YtnnapbjaidbkgaaExactT
import Derived.Test.YtnnapbjaidbkgaaRepA
namespace Go.Proofs.Ytnnapbjaidbkgaa
open Go.RowKit
set_option linter.unusedVariables false

set_option maxHeartbeats 1600000 in
theorem fnExactStopAndWait_core (w : World) (n : Int) (_w0 : (Lit.int .i64 n).wf = true) (A1 : Option Addr) (n1 c1 : Nat) (xs : List Bool) (h1 : RT w w.heap.size A1 n1 xs) (_hl1 : n1 ≤ c1) (_hm1 : c1 ≤ maxLen) (A2 : Option Addr) (n2 c2 : Nat) (ys : List Bool) (h2 : RT w w.heap.size A2 n2 ys) (_hl2 : n2 ≤ c2) (_hm2 : c2 ≤ maxLen) (hn : n1 ≤ 1048576 ∧ n2 ≤ 1048576) :
    Calls Try.prog 3 #[.int .i64 n, .slice A1 n1 c1, .slice A2 n2 c2] w fun e w' => e = .returned (.bool true) ∧ Below w.heap.size w w' := by
  obtain ⟨hN1, hN2⟩ := hn
  have hbel : Below w.heap.size w w := Below.refl _ _
  have hlen : ((stopWait n xs ys).1).length ≤ 1000000000 := by have := stopWait_len n xs ys; omega
  have hne2 : ((stopWait n xs ys).2 != (stopWait n xs ys).2) = false := by simp
  obtain ⟨V, hV⟩ : ∃ V, V = (stopWait n xs ys).1 := ⟨_, rfl⟩
  have HV := hid hV
  rw [← hV] at hlen
  clear hV
  have a1 : RT w w.heap.size A1 n1 xs := h1
  have a2 : RT w w.heap.size A2 n2 ys := h2
  clear h1 h2
  go_enter Try.func3, Try.ntmps3
  go_wp2_with fail
  refine (toBoolS_any A1 n1 c1 _ xs _ a1 hbel.size (by omega)).mono ?_
  rintro e w1 ⟨rfl, ot1, hb, hs⟩
  have lt1 : w.heap.size ≤ w.heap.size := hbel.size
  have it1 : w.heap.size + 1 ≤ w1.heap.size := by rw [hs]; exact Nat.le_refl _
  clear hs
  have hsz := hbel.size
  have hbel_ := hbel.trans (hb.mono hsz)
  have a1_ := RV.below a1 (hb.mono hsz)
  have a2_ := RV.below a2 (hb.mono hsz)
  clear hbel; have hbel := hbel_; clear hbel_
  clear a1; have a1 := a1_; clear a1_
  clear a2; have a2 := a2_; clear a2_
  clear hsz
  clear hb
  go_wp2_with fail
  refine (toBoolS_any A2 n2 c2 _ ys _ a2 hbel.size (by omega)).mono ?_
  rintro e w2 ⟨rfl, ot2, hb, hs⟩
  have lt2 : w.heap.size ≤ w1.heap.size := hbel.size
  have it2 : w1.heap.size + 1 ≤ w2.heap.size := by rw [hs]; exact Nat.le_refl _
  clear hs
  have dt1t2 := it1
  have hsz := hbel.size
  have hbel_ := hbel.trans (hb.mono hsz)
  have a1_ := RV.below a1 (hb.mono hsz)
  have a2_ := RV.below a2 (hb.mono hsz)
  have ot1_ := OwnV.below ot1 hb it1
  have it1_ := Nat.le_trans it1 hb.size
  clear hbel; have hbel := hbel_; clear hbel_
  clear a1; have a1 := a1_; clear a1_
  clear a2; have a2 := a2_; clear a2_
  clear ot1; have ot1 := ot1_; clear ot1_
  clear it1; have it1 := it1_; clear it1_
  clear hsz
  clear hb
  go_wp2_with fail
  refine (stopWait_spec n _ _ _ _ _ _ _ xs ys _ (RV.more (OwnT.rt ot1) it1) (RV.more (OwnT.rt ot2) it2) (Nat.le_refl _) (by omega) (by omega)).mono ?_
  rintro e w3 ⟨AW, nW, cW, rfl, oW, hb⟩
  have lW : w.heap.size ≤ w2.heap.size := hbel.size
  have iW : w3.heap.size ≤ w3.heap.size := Nat.le_refl _
  have dt1W := it1
  have dt2W := it2
  rw [← HV.out] at oW
  have zW : nW ≤ 1000000000 := by have := OwnI.len oW; omega
  have hsz := hbel.size
  have hbel_ := hbel.trans (hb.mono hsz)
  have a1_ := RV.below a1 (hb.mono hsz)
  have a2_ := RV.below a2 (hb.mono hsz)
  have ot1_ := OwnV.below ot1 hb it1
  have it1_ := Nat.le_trans it1 hb.size
  have ot2_ := OwnV.below ot2 hb it2
  have it2_ := Nat.le_trans it2 hb.size
  clear hbel; have hbel := hbel_; clear hbel_
  clear a1; have a1 := a1_; clear a1_
  clear a2; have a2 := a2_; clear a2_
  clear ot1; have ot1 := ot1_; clear ot1_
  clear it1; have it1 := it1_; clear it1_
  clear ot2; have ot2 := ot2_; clear ot2_
  clear it2; have it2 := it2_; clear it2_
  clear hsz
  clear hb
  go_wp2_with fail
  refine (toBoolS_any A1 n1 c1 _ xs _ a1 hbel.size (by omega)).mono ?_
  rintro e w4 ⟨rfl, ox1, hb, hs⟩
  have lx1 : w.heap.size ≤ w3.heap.size := hbel.size
  have ix1 : w3.heap.size + 1 ≤ w4.heap.size := by rw [hs]; exact Nat.le_refl _
  clear hs
  have dt1x1 := it1
  have dt2x1 := it2
  have dWx1 := iW
  have hsz := hbel.size
  have hbel_ := hbel.trans (hb.mono hsz)
  have a1_ := RV.below a1 (hb.mono hsz)
  have a2_ := RV.below a2 (hb.mono hsz)
  have ot1_ := OwnV.below ot1 hb it1
  have it1_ := Nat.le_trans it1 hb.size
  have ot2_ := OwnV.below ot2 hb it2
  have it2_ := Nat.le_trans it2 hb.size
  have oW_ := OwnV.below oW hb iW
  have iW_ := Nat.le_trans iW hb.size
  clear hbel; have hbel := hbel_; clear hbel_
  clear a1; have a1 := a1_; clear a1_
  clear a2; have a2 := a2_; clear a2_
  clear ot1; have ot1 := ot1_; clear ot1_
  clear it1; have it1 := it1_; clear it1_
  clear ot2; have ot2 := ot2_; clear ot2_
  clear it2; have it2 := it2_; clear it2_
  clear oW; have oW := oW_; clear oW_
  clear iW; have iW := iW_; clear iW_
  clear hsz
  clear hb
  go_wp2_with fail
  refine (toBoolS_any A2 n2 c2 _ ys _ a2 hbel.size (by omega)).mono ?_
  rintro e w5 ⟨rfl, ox2, hb, hs⟩
  have lx2 : w.heap.size ≤ w4.heap.size := hbel.size
  have ix2 : w4.heap.size + 1 ≤ w5.heap.size := by rw [hs]; exact Nat.le_refl _
  clear hs
  have dt1x2 := it1
  have dt2x2 := it2
  have dWx2 := iW
  have dx1x2 := ix1
  have hsz := hbel.size
  have hbel_ := hbel.trans (hb.mono hsz)
  have a1_ := RV.below a1 (hb.mono hsz)
  have a2_ := RV.below a2 (hb.mono hsz)
  have ot1_ := OwnV.below ot1 hb it1
  have it1_ := Nat.le_trans it1 hb.size
  have ot2_ := OwnV.below ot2 hb it2
  have it2_ := Nat.le_trans it2 hb.size
  have oW_ := OwnV.below oW hb iW
  have iW_ := Nat.le_trans iW hb.size
  have ox1_ := OwnV.below ox1 hb ix1
  have ix1_ := Nat.le_trans ix1 hb.size
  clear hbel; have hbel := hbel_; clear hbel_
  clear a1; have a1 := a1_; clear a1_
  clear a2; have a2 := a2_; clear a2_
  clear ot1; have ot1 := ot1_; clear ot1_
  clear it1; have it1 := it1_; clear it1_
  clear ot2; have ot2 := ot2_; clear ot2_
  clear it2; have it2 := it2_; clear it2_
  clear oW; have oW := oW_; clear oW_
  clear iW; have iW := iW_; clear iW_
  clear ox1; have ox1 := ox1_; clear ox1_
  clear ix1; have ix1 := ix1_; clear ix1_
  clear hsz
  clear hb
  go_wp2_with fail
  refine (stopWait_impl n _ _ _ _ _ _ _ xs ys _ (RV.more (OwnT.rt ox1) ix1) (RV.more (OwnT.rt ox2) ix2) (Nat.le_refl _) (by omega) (by omega)).mono ?_
  rintro e w6 ⟨AG, nG, cG, rfl, oG, hb⟩
  have lG : w.heap.size ≤ w5.heap.size := hbel.size
  have iG : w6.heap.size ≤ w6.heap.size := Nat.le_refl _
  have dt1G := it1
  have dt2G := it2
  have dWG := iW
  have dx1G := ix1
  have dx2G := ix2
  rw [← HV.out] at oG
  have zG : nG ≤ 1000000000 := by have := OwnI.len oG; omega
  have hsz := hbel.size
  have hbel_ := hbel.trans (hb.mono hsz)
  have a1_ := RV.below a1 (hb.mono hsz)
  have a2_ := RV.below a2 (hb.mono hsz)
  have ot1_ := OwnV.below ot1 hb it1
  have it1_ := Nat.le_trans it1 hb.size
  have ot2_ := OwnV.below ot2 hb it2
  have it2_ := Nat.le_trans it2 hb.size
  have oW_ := OwnV.below oW hb iW
  have iW_ := Nat.le_trans iW hb.size
  have ox1_ := OwnV.below ox1 hb ix1
  have ix1_ := Nat.le_trans ix1 hb.size
  have ox2_ := OwnV.below ox2 hb ix2
  have ix2_ := Nat.le_trans ix2 hb.size
  clear hbel; have hbel := hbel_; clear hbel_
  clear a1; have a1 := a1_; clear a1_
  clear a2; have a2 := a2_; clear a2_
  clear ot1; have ot1 := ot1_; clear ot1_
  clear it1; have it1 := it1_; clear it1_
  clear ot2; have ot2 := ot2_; clear ot2_
  clear it2; have it2 := it2_; clear it2_
  clear oW; have oW := oW_; clear oW_
  clear iW; have iW := iW_; clear iW_
  clear ox1; have ox1 := ox1_; clear ox1_
  clear ix1; have ix1 := ix1_; clear ix1_
  clear ox2; have ox2 := ox2_; clear ox2_
  clear ix2; have ix2 := ix2_; clear ix2_
  clear hsz
  clear hb
  go_wp2_with fail
  refine (eqIntS_same _ _ _ _ _ _ _ _ _ _ (OwnI.ri oG) (OwnI.ri oW) (hlen)).mono ?_
  rintro e w7 ⟨rfl, hb⟩
  have hsz := hbel.size
  have hbel_ := hbel.trans (hb.mono hsz)
  have a1_ := RV.below a1 (hb.mono hsz)
  have a2_ := RV.below a2 (hb.mono hsz)
  have ot1_ := OwnV.below ot1 hb it1
  have it1_ := Nat.le_trans it1 hb.size
  have ot2_ := OwnV.below ot2 hb it2
  have it2_ := Nat.le_trans it2 hb.size
  have oW_ := OwnV.below oW hb iW
  have iW_ := Nat.le_trans iW hb.size
  have ox1_ := OwnV.below ox1 hb ix1
  have ix1_ := Nat.le_trans ix1 hb.size
  have ox2_ := OwnV.below ox2 hb ix2
  have ix2_ := Nat.le_trans ix2 hb.size
  have oG_ := OwnV.below oG hb iG
  have iG_ := Nat.le_trans iG hb.size
  clear hbel; have hbel := hbel_; clear hbel_
  clear a1; have a1 := a1_; clear a1_
  clear a2; have a2 := a2_; clear a2_
  clear ot1; have ot1 := ot1_; clear ot1_
  clear it1; have it1 := it1_; clear it1_
  clear ot2; have ot2 := ot2_; clear ot2_
  clear it2; have it2 := it2_; clear it2_
  clear oW; have oW := oW_; clear oW_
  clear iW; have iW := iW_; clear iW_
  clear ox1; have ox1 := ox1_; clear ox1_
  clear ix1; have ix1 := ix1_; clear ix1_
  clear ox2; have ox2 := ox2_; clear ox2_
  clear ix2; have ix2 := ix2_; clear ix2_
  clear oG; have oG := oG_; clear oG_
  clear iG; have iG := iG_; clear iG_
  clear hsz
  clear hb
  go_wp2_with fail
  refine (toBoolS_any A1 n1 c1 _ xs _ a1 hbel.size (by omega)).mono ?_
  rintro e w8 ⟨rfl, ou1, hb, hs⟩
  have lu1 : w.heap.size ≤ w7.heap.size := hbel.size
  have iu1 : w7.heap.size + 1 ≤ w8.heap.size := by rw [hs]; exact Nat.le_refl _
  clear hs
  have dt1u1 := it1
  have dt2u1 := it2
  have dWu1 := iW
  have dx1u1 := ix1
  have dx2u1 := ix2
  have dGu1 := iG
  have hsz := hbel.size
  have hbel_ := hbel.trans (hb.mono hsz)
  have a1_ := RV.below a1 (hb.mono hsz)
  have a2_ := RV.below a2 (hb.mono hsz)
  have ot1_ := OwnV.below ot1 hb it1
  have it1_ := Nat.le_trans it1 hb.size
  have ot2_ := OwnV.below ot2 hb it2
  have it2_ := Nat.le_trans it2 hb.size
  have oW_ := OwnV.below oW hb iW
  have iW_ := Nat.le_trans iW hb.size
  have ox1_ := OwnV.below ox1 hb ix1
  have ix1_ := Nat.le_trans ix1 hb.size
  have ox2_ := OwnV.below ox2 hb ix2
  have ix2_ := Nat.le_trans ix2 hb.size
  have oG_ := OwnV.below oG hb iG
  have iG_ := Nat.le_trans iG hb.size
  clear hbel; have hbel := hbel_; clear hbel_
  clear a1; have a1 := a1_; clear a1_
  clear a2; have a2 := a2_; clear a2_
  clear ot1; have ot1 := ot1_; clear ot1_
  clear it1; have it1 := it1_; clear it1_
  clear ot2; have ot2 := ot2_; clear ot2_
  clear it2; have it2 := it2_; clear it2_
  clear oW; have oW := oW_; clear oW_
  clear iW; have iW := iW_; clear iW_
  clear ox1; have ox1 := ox1_; clear ox1_
  clear ix1; have ix1 := ix1_; clear ix1_
  clear ox2; have ox2 := ox2_; clear ox2_
  clear ix2; have ix2 := ix2_; clear ix2_
  clear oG; have oG := oG_; clear oG_
  clear iG; have iG := iG_; clear iG_
  clear hsz
  clear hb
  go_wp2_with fail
  refine (eqBoolS_same _ _ _ _ _ _ _ _ _ _ (OwnT.rt ox1) (OwnT.rt ou1) (by have := RT.len a1; omega)).mono ?_
  rintro e w9 ⟨rfl, hb⟩
  have hsz := hbel.size
  have hbel_ := hbel.trans (hb.mono hsz)
  have a1_ := RV.below a1 (hb.mono hsz)
  have a2_ := RV.below a2 (hb.mono hsz)
  have ot1_ := OwnV.below ot1 hb it1
  have it1_ := Nat.le_trans it1 hb.size
  have ot2_ := OwnV.below ot2 hb it2
  have it2_ := Nat.le_trans it2 hb.size
  have oW_ := OwnV.below oW hb iW
  have iW_ := Nat.le_trans iW hb.size
  have ox1_ := OwnV.below ox1 hb ix1
  have ix1_ := Nat.le_trans ix1 hb.size
  have ox2_ := OwnV.below ox2 hb ix2
  have ix2_ := Nat.le_trans ix2 hb.size
  have oG_ := OwnV.below oG hb iG
  have iG_ := Nat.le_trans iG hb.size
  have ou1_ := OwnV.below ou1 hb iu1
  have iu1_ := Nat.le_trans iu1 hb.size
  clear hbel; have hbel := hbel_; clear hbel_
  clear a1; have a1 := a1_; clear a1_
  clear a2; have a2 := a2_; clear a2_
  clear ot1; have ot1 := ot1_; clear ot1_
  clear it1; have it1 := it1_; clear it1_
  clear ot2; have ot2 := ot2_; clear ot2_
  clear it2; have it2 := it2_; clear it2_
  clear oW; have oW := oW_; clear oW_
  clear iW; have iW := iW_; clear iW_
  clear ox1; have ox1 := ox1_; clear ox1_
  clear ix1; have ix1 := ix1_; clear ix1_
  clear ox2; have ox2 := ox2_; clear ox2_
  clear ix2; have ix2 := ix2_; clear ix2_
  clear oG; have oG := oG_; clear oG_
  clear iG; have iG := iG_; clear iG_
  clear ou1; have ou1 := ou1_; clear ou1_
  clear iu1; have iu1 := iu1_; clear iu1_
  clear hsz
  clear hb
  go_wp2_with fail
  refine (toBoolS_any A2 n2 c2 _ ys _ a2 hbel.size (by omega)).mono ?_
  rintro e w10 ⟨rfl, ou2, hb, hs⟩
  have lu2 : w.heap.size ≤ w9.heap.size := hbel.size
  have iu2 : w9.heap.size + 1 ≤ w10.heap.size := by rw [hs]; exact Nat.le_refl _
  clear hs
  have dt1u2 := it1
  have dt2u2 := it2
  have dWu2 := iW
  have dx1u2 := ix1
  have dx2u2 := ix2
  have dGu2 := iG
  have du1u2 := iu1
  have hsz := hbel.size
  have hbel_ := hbel.trans (hb.mono hsz)
  have a1_ := RV.below a1 (hb.mono hsz)
  have a2_ := RV.below a2 (hb.mono hsz)
  have ot1_ := OwnV.below ot1 hb it1
  have it1_ := Nat.le_trans it1 hb.size
  have ot2_ := OwnV.below ot2 hb it2
  have it2_ := Nat.le_trans it2 hb.size
  have oW_ := OwnV.below oW hb iW
  have iW_ := Nat.le_trans iW hb.size
  have ox1_ := OwnV.below ox1 hb ix1
  have ix1_ := Nat.le_trans ix1 hb.size
  have ox2_ := OwnV.below ox2 hb ix2
  have ix2_ := Nat.le_trans ix2 hb.size
  have oG_ := OwnV.below oG hb iG
  have iG_ := Nat.le_trans iG hb.size
  have ou1_ := OwnV.below ou1 hb iu1
  have iu1_ := Nat.le_trans iu1 hb.size
  clear hbel; have hbel := hbel_; clear hbel_
  clear a1; have a1 := a1_; clear a1_
  clear a2; have a2 := a2_; clear a2_
  clear ot1; have ot1 := ot1_; clear ot1_
  clear it1; have it1 := it1_; clear it1_
  clear ot2; have ot2 := ot2_; clear ot2_
  clear it2; have it2 := it2_; clear it2_
  clear oW; have oW := oW_; clear oW_
  clear iW; have iW := iW_; clear iW_
  clear ox1; have ox1 := ox1_; clear ox1_
  clear ix1; have ix1 := ix1_; clear ix1_
  clear ox2; have ox2 := ox2_; clear ox2_
  clear ix2; have ix2 := ix2_; clear ix2_
  clear oG; have oG := oG_; clear oG_
  clear iG; have iG := iG_; clear iG_
  clear ou1; have ou1 := ou1_; clear ou1_
  clear iu1; have iu1 := iu1_; clear iu1_
  clear hsz
  clear hb
  go_wp2_with fail
  refine (eqBoolS_same _ _ _ _ _ _ _ _ _ _ (OwnT.rt ox2) (OwnT.rt ou2) (by have := RT.len a2; omega)).mono ?_
  rintro e w11 ⟨rfl, hb⟩
  have hsz := hbel.size
  have hbel_ := hbel.trans (hb.mono hsz)
  have a1_ := RV.below a1 (hb.mono hsz)
  have a2_ := RV.below a2 (hb.mono hsz)
  have ot1_ := OwnV.below ot1 hb it1
  have it1_ := Nat.le_trans it1 hb.size
  have ot2_ := OwnV.below ot2 hb it2
  have it2_ := Nat.le_trans it2 hb.size
  have oW_ := OwnV.below oW hb iW
  have iW_ := Nat.le_trans iW hb.size
  have ox1_ := OwnV.below ox1 hb ix1
  have ix1_ := Nat.le_trans ix1 hb.size
  have ox2_ := OwnV.below ox2 hb ix2
  have ix2_ := Nat.le_trans ix2 hb.size
  have oG_ := OwnV.below oG hb iG
  have iG_ := Nat.le_trans iG hb.size
  have ou1_ := OwnV.below ou1 hb iu1
  have iu1_ := Nat.le_trans iu1 hb.size
  have ou2_ := OwnV.below ou2 hb iu2
  have iu2_ := Nat.le_trans iu2 hb.size
  clear hbel; have hbel := hbel_; clear hbel_
  clear a1; have a1 := a1_; clear a1_
  clear a2; have a2 := a2_; clear a2_
  clear ot1; have ot1 := ot1_; clear ot1_
  clear it1; have it1 := it1_; clear it1_
  clear ot2; have ot2 := ot2_; clear ot2_
  clear it2; have it2 := it2_; clear it2_
  clear oW; have oW := oW_; clear oW_
  clear iW; have iW := iW_; clear iW_
  clear ox1; have ox1 := ox1_; clear ox1_
  clear ix1; have ix1 := ix1_; clear ix1_
  clear ox2; have ox2 := ox2_; clear ox2_
  clear ix2; have ix2 := ix2_; clear ix2_
  clear oG; have oG := oG_; clear oG_
  clear iG; have iG := iG_; clear iG_
  clear ou1; have ou1 := ou1_; clear ou1_
  clear iu1; have iu1 := iu1_; clear iu1_
  clear ou2; have ou2 := ou2_; clear ou2_
  clear iu2; have iu2 := iu2_; clear iu2_
  clear hsz
  clear hb
  go_wp2_with fail
  refine (markBoolS_any _ _ _ _ _ _ _ _ ox1 (by omega) (by omega) (by omega)).mono ?_
  rintro e w12 ⟨rfl, ox1_, ho, hs⟩
  clear hs
  have hsz := hbel.size
  have hbel_ := hbel.trans (ho.below lx1 hsz)
  have a1_ := RV.below a1 (ho.below lx1 hsz)
  have a2_ := RV.below a2 (ho.below lx1 hsz)
  have ot1_ := OwnV.only ot1 ho (by omega)
  have it1_ := Nat.le_trans it1 ho.size
  have ot2_ := OwnV.only ot2 ho (by omega)
  have it2_ := Nat.le_trans it2 ho.size
  have oW_ := OwnV.only oW ho (by omega)
  have iW_ := Nat.le_trans iW ho.size
  have ix1_ := Nat.le_trans ix1 ho.size
  have ox2_ := OwnV.only ox2 ho (by omega)
  have ix2_ := Nat.le_trans ix2 ho.size
  have oG_ := OwnV.only oG ho (by omega)
  have iG_ := Nat.le_trans iG ho.size
  have ou1_ := OwnV.only ou1 ho (by omega)
  have iu1_ := Nat.le_trans iu1 ho.size
  have ou2_ := OwnV.only ou2 ho (by omega)
  have iu2_ := Nat.le_trans iu2 ho.size
  clear hbel; have hbel := hbel_; clear hbel_
  clear a1; have a1 := a1_; clear a1_
  clear a2; have a2 := a2_; clear a2_
  clear ot1; have ot1 := ot1_; clear ot1_
  clear it1; have it1 := it1_; clear it1_
  clear ot2; have ot2 := ot2_; clear ot2_
  clear it2; have it2 := it2_; clear it2_
  clear oW; have oW := oW_; clear oW_
  clear iW; have iW := iW_; clear iW_
  clear ix1; have ix1 := ix1_; clear ix1_
  clear ox2; have ox2 := ox2_; clear ox2_
  clear ix2; have ix2 := ix2_; clear ix2_
  clear oG; have oG := oG_; clear oG_
  clear iG; have iG := iG_; clear iG_
  clear ou1; have ou1 := ou1_; clear ou1_
  clear iu1; have iu1 := iu1_; clear iu1_
  clear ou2; have ou2 := ou2_; clear ou2_
  clear iu2; have iu2 := iu2_; clear iu2_
  clear hsz
  clear ox1; have ox1 := ox1_; clear ox1_ ho
  go_wp2_with fail
  refine (markBoolS_any _ _ _ _ _ _ _ _ ox2 (by omega) (by omega) (by omega)).mono ?_
  rintro e w13 ⟨rfl, ox2_, ho, hs⟩
  clear hs
  have hsz := hbel.size
  have hbel_ := hbel.trans (ho.below lx2 hsz)
  have a1_ := RV.below a1 (ho.below lx2 hsz)
  have a2_ := RV.below a2 (ho.below lx2 hsz)
  have ot1_ := OwnV.only ot1 ho (by omega)
  have it1_ := Nat.le_trans it1 ho.size
  have ot2_ := OwnV.only ot2 ho (by omega)
  have it2_ := Nat.le_trans it2 ho.size
  have oW_ := OwnV.only oW ho (by omega)
  have iW_ := Nat.le_trans iW ho.size
  have ox1_ := OwnV.only ox1 ho (by omega)
  have ix1_ := Nat.le_trans ix1 ho.size
  have ix2_ := Nat.le_trans ix2 ho.size
  have oG_ := OwnV.only oG ho (by omega)
  have iG_ := Nat.le_trans iG ho.size
  have ou1_ := OwnV.only ou1 ho (by omega)
  have iu1_ := Nat.le_trans iu1 ho.size
  have ou2_ := OwnV.only ou2 ho (by omega)
  have iu2_ := Nat.le_trans iu2 ho.size
  clear hbel; have hbel := hbel_; clear hbel_
  clear a1; have a1 := a1_; clear a1_
  clear a2; have a2 := a2_; clear a2_
  clear ot1; have ot1 := ot1_; clear ot1_
  clear it1; have it1 := it1_; clear it1_
  clear ot2; have ot2 := ot2_; clear ot2_
  clear it2; have it2 := it2_; clear it2_
  clear oW; have oW := oW_; clear oW_
  clear iW; have iW := iW_; clear iW_
  clear ox1; have ox1 := ox1_; clear ox1_
  clear ix1; have ix1 := ix1_; clear ix1_
  clear ix2; have ix2 := ix2_; clear ix2_
  clear oG; have oG := oG_; clear oG_
  clear iG; have iG := iG_; clear iG_
  clear ou1; have ou1 := ou1_; clear ou1_
  clear iu1; have iu1 := iu1_; clear iu1_
  clear ou2; have ou2 := ou2_; clear ou2_
  clear iu2; have iu2 := iu2_; clear iu2_
  clear hsz
  clear ox2; have ox2 := ox2_; clear ox2_ ho
  go_wp2_with fail
  refine (eqIntS_same _ _ _ _ _ _ _ _ _ _ (OwnI.ri oG) (OwnI.ri oW) (hlen)).mono ?_
  rintro e w14 ⟨rfl, hb⟩
  have hsz := hbel.size
  have hbel_ := hbel.trans (hb.mono hsz)
  have a1_ := RV.below a1 (hb.mono hsz)
  have a2_ := RV.below a2 (hb.mono hsz)
  have ot1_ := OwnV.below ot1 hb it1
  have it1_ := Nat.le_trans it1 hb.size
  have ot2_ := OwnV.below ot2 hb it2
  have it2_ := Nat.le_trans it2 hb.size
  have oW_ := OwnV.below oW hb iW
  have iW_ := Nat.le_trans iW hb.size
  have ox1_ := OwnV.below ox1 hb ix1
  have ix1_ := Nat.le_trans ix1 hb.size
  have ox2_ := OwnV.below ox2 hb ix2
  have ix2_ := Nat.le_trans ix2 hb.size
  have oG_ := OwnV.below oG hb iG
  have iG_ := Nat.le_trans iG hb.size
  have ou1_ := OwnV.below ou1 hb iu1
  have iu1_ := Nat.le_trans iu1 hb.size
  have ou2_ := OwnV.below ou2 hb iu2
  have iu2_ := Nat.le_trans iu2 hb.size
  clear hbel; have hbel := hbel_; clear hbel_
  clear a1; have a1 := a1_; clear a1_
  clear a2; have a2 := a2_; clear a2_
  clear ot1; have ot1 := ot1_; clear ot1_
  clear it1; have it1 := it1_; clear it1_
  clear ot2; have ot2 := ot2_; clear ot2_
  clear it2; have it2 := it2_; clear it2_
  clear oW; have oW := oW_; clear oW_
  clear iW; have iW := iW_; clear iW_
  clear ox1; have ox1 := ox1_; clear ox1_
  clear ix1; have ix1 := ix1_; clear ix1_
  clear ox2; have ox2 := ox2_; clear ox2_
  clear ix2; have ix2 := ix2_; clear ix2_
  clear oG; have oG := oG_; clear oG_
  clear iG; have iG := iG_; clear iG_
  clear ou1; have ou1 := ou1_; clear ou1_
  clear iu1; have iu1 := iu1_; clear iu1_
  clear ou2; have ou2 := ou2_; clear ou2_
  clear iu2; have iu2 := iu2_; clear iu2_
  clear hsz
  clear hb
  go_wp2_with fail
  refine (markIntS_any _ _ _ _ _ _ _ _ oG (by omega) (by omega) (by omega)).mono ?_
  rintro e w15 ⟨rfl, oG_, ho, hs⟩
  clear hs
  have hsz := hbel.size
  have hbel_ := hbel.trans (ho.below lG hsz)
  have a1_ := RV.below a1 (ho.below lG hsz)
  have a2_ := RV.below a2 (ho.below lG hsz)
  have ot1_ := OwnV.only ot1 ho (by omega)
  have it1_ := Nat.le_trans it1 ho.size
  have ot2_ := OwnV.only ot2 ho (by omega)
  have it2_ := Nat.le_trans it2 ho.size
  have oW_ := OwnV.only oW ho (by omega)
  have iW_ := Nat.le_trans iW ho.size
  have ox1_ := OwnV.only ox1 ho (by omega)
  have ix1_ := Nat.le_trans ix1 ho.size
  have ox2_ := OwnV.only ox2 ho (by omega)
  have ix2_ := Nat.le_trans ix2 ho.size
  have iG_ := Nat.le_trans iG ho.size
  have ou1_ := OwnV.only ou1 ho (by omega)
  have iu1_ := Nat.le_trans iu1 ho.size
  have ou2_ := OwnV.only ou2 ho (by omega)
  have iu2_ := Nat.le_trans iu2 ho.size
  clear hbel; have hbel := hbel_; clear hbel_
  clear a1; have a1 := a1_; clear a1_
  clear a2; have a2 := a2_; clear a2_
  clear ot1; have ot1 := ot1_; clear ot1_
  clear it1; have it1 := it1_; clear it1_
  clear ot2; have ot2 := ot2_; clear ot2_
  clear it2; have it2 := it2_; clear it2_
  clear oW; have oW := oW_; clear oW_
  clear iW; have iW := iW_; clear iW_
  clear ox1; have ox1 := ox1_; clear ox1_
  clear ix1; have ix1 := ix1_; clear ix1_
  clear ox2; have ox2 := ox2_; clear ox2_
  clear ix2; have ix2 := ix2_; clear ix2_
  clear iG; have iG := iG_; clear iG_
  clear ou1; have ou1 := ou1_; clear ou1_
  clear iu1; have iu1 := iu1_; clear iu1_
  clear ou2; have ou2 := ou2_; clear ou2_
  clear iu2; have iu2 := iu2_; clear iu2_
  clear hsz
  clear oG; have oG := oG_; clear oG_ ho
  go_wp2_with fail
  refine (heldIntS_yes _ _ _ _ _ _ (OwnI.ri oG) (by omega) (by omega) (by omega)).mono ?_
  rintro e w_ ⟨rfl, rfl⟩
  go_wp2_with fail
  refine (toBoolS_any A1 n1 c1 _ xs _ a1 hbel.size (by omega)).mono ?_
  rintro e w16 ⟨rfl, oy1, hb, hs⟩
  have ly1 : w.heap.size ≤ w15.heap.size := hbel.size
  have iy1 : w15.heap.size + 1 ≤ w16.heap.size := by rw [hs]; exact Nat.le_refl _
  clear hs
  have dt1y1 := it1
  have dt2y1 := it2
  have dWy1 := iW
  have dx1y1 := ix1
  have dx2y1 := ix2
  have dGy1 := iG
  have du1y1 := iu1
  have du2y1 := iu2
  have hsz := hbel.size
  have hbel_ := hbel.trans (hb.mono hsz)
  have a1_ := RV.below a1 (hb.mono hsz)
  have a2_ := RV.below a2 (hb.mono hsz)
  have ot1_ := OwnV.below ot1 hb it1
  have it1_ := Nat.le_trans it1 hb.size
  have ot2_ := OwnV.below ot2 hb it2
  have it2_ := Nat.le_trans it2 hb.size
  have oW_ := OwnV.below oW hb iW
  have iW_ := Nat.le_trans iW hb.size
  have ox1_ := OwnV.below ox1 hb ix1
  have ix1_ := Nat.le_trans ix1 hb.size
  have ox2_ := OwnV.below ox2 hb ix2
  have ix2_ := Nat.le_trans ix2 hb.size
  have oG_ := OwnV.below oG hb iG
  have iG_ := Nat.le_trans iG hb.size
  have ou1_ := OwnV.below ou1 hb iu1
  have iu1_ := Nat.le_trans iu1 hb.size
  have ou2_ := OwnV.below ou2 hb iu2
  have iu2_ := Nat.le_trans iu2 hb.size
  clear hbel; have hbel := hbel_; clear hbel_
  clear a1; have a1 := a1_; clear a1_
  clear a2; have a2 := a2_; clear a2_
  clear ot1; have ot1 := ot1_; clear ot1_
  clear it1; have it1 := it1_; clear it1_
  clear ot2; have ot2 := ot2_; clear ot2_
  clear it2; have it2 := it2_; clear it2_
  clear oW; have oW := oW_; clear oW_
  clear iW; have iW := iW_; clear iW_
  clear ox1; have ox1 := ox1_; clear ox1_
  clear ix1; have ix1 := ix1_; clear ix1_
  clear ox2; have ox2 := ox2_; clear ox2_
  clear ix2; have ix2 := ix2_; clear ix2_
  clear oG; have oG := oG_; clear oG_
  clear iG; have iG := iG_; clear iG_
  clear ou1; have ou1 := ou1_; clear ou1_
  clear iu1; have iu1 := iu1_; clear iu1_
  clear ou2; have ou2 := ou2_; clear ou2_
  clear iu2; have iu2 := iu2_; clear iu2_
  clear hsz
  clear hb
  go_wp2_with fail
  refine (toBoolS_any A2 n2 c2 _ ys _ a2 hbel.size (by omega)).mono ?_
  rintro e w17 ⟨rfl, oy2, hb, hs⟩
  have ly2 : w.heap.size ≤ w16.heap.size := hbel.size
  have iy2 : w16.heap.size + 1 ≤ w17.heap.size := by rw [hs]; exact Nat.le_refl _
  clear hs
  have dt1y2 := it1
  have dt2y2 := it2
  have dWy2 := iW
  have dx1y2 := ix1
  have dx2y2 := ix2
  have dGy2 := iG
  have du1y2 := iu1
  have du2y2 := iu2
  have dy1y2 := iy1
  have hsz := hbel.size
  have hbel_ := hbel.trans (hb.mono hsz)
  have a1_ := RV.below a1 (hb.mono hsz)
  have a2_ := RV.below a2 (hb.mono hsz)
  have ot1_ := OwnV.below ot1 hb it1
  have it1_ := Nat.le_trans it1 hb.size
  have ot2_ := OwnV.below ot2 hb it2
  have it2_ := Nat.le_trans it2 hb.size
  have oW_ := OwnV.below oW hb iW
  have iW_ := Nat.le_trans iW hb.size
  have ox1_ := OwnV.below ox1 hb ix1
  have ix1_ := Nat.le_trans ix1 hb.size
  have ox2_ := OwnV.below ox2 hb ix2
  have ix2_ := Nat.le_trans ix2 hb.size
  have oG_ := OwnV.below oG hb iG
  have iG_ := Nat.le_trans iG hb.size
  have ou1_ := OwnV.below ou1 hb iu1
  have iu1_ := Nat.le_trans iu1 hb.size
  have ou2_ := OwnV.below ou2 hb iu2
  have iu2_ := Nat.le_trans iu2 hb.size
  have oy1_ := OwnV.below oy1 hb iy1
  have iy1_ := Nat.le_trans iy1 hb.size
  clear hbel; have hbel := hbel_; clear hbel_
  clear a1; have a1 := a1_; clear a1_
  clear a2; have a2 := a2_; clear a2_
  clear ot1; have ot1 := ot1_; clear ot1_
  clear it1; have it1 := it1_; clear it1_
  clear ot2; have ot2 := ot2_; clear ot2_
  clear it2; have it2 := it2_; clear it2_
  clear oW; have oW := oW_; clear oW_
  clear iW; have iW := iW_; clear iW_
  clear ox1; have ox1 := ox1_; clear ox1_
  clear ix1; have ix1 := ix1_; clear ix1_
  clear ox2; have ox2 := ox2_; clear ox2_
  clear ix2; have ix2 := ix2_; clear ix2_
  clear oG; have oG := oG_; clear oG_
  clear iG; have iG := iG_; clear iG_
  clear ou1; have ou1 := ou1_; clear ou1_
  clear iu1; have iu1 := iu1_; clear iu1_
  clear ou2; have ou2 := ou2_; clear ou2_
  clear iu2; have iu2 := iu2_; clear iu2_
  clear oy1; have oy1 := oy1_; clear oy1_
  clear iy1; have iy1 := iy1_; clear iy1_
  clear hsz
  clear hb
  go_wp2_with fail
  refine (stopWait_impl n _ _ _ _ _ _ _ xs ys _ (RV.more (OwnT.rt oy1) iy1) (RV.more (OwnT.rt oy2) iy2) (Nat.le_refl _) (by omega) (by omega)).mono ?_
  rintro e w18 ⟨AH, nH, cH, rfl, oH, hb⟩
  have lH : w.heap.size ≤ w17.heap.size := hbel.size
  have iH : w18.heap.size ≤ w18.heap.size := Nat.le_refl _
  have dt1H := it1
  have dt2H := it2
  have dWH := iW
  have dx1H := ix1
  have dx2H := ix2
  have dGH := iG
  have du1H := iu1
  have du2H := iu2
  have dy1H := iy1
  have dy2H := iy2
  rw [← HV.out] at oH
  have zH : nH ≤ 1000000000 := by have := OwnI.len oH; omega
  have hsz := hbel.size
  have hbel_ := hbel.trans (hb.mono hsz)
  have a1_ := RV.below a1 (hb.mono hsz)
  have a2_ := RV.below a2 (hb.mono hsz)
  have ot1_ := OwnV.below ot1 hb it1
  have it1_ := Nat.le_trans it1 hb.size
  have ot2_ := OwnV.below ot2 hb it2
  have it2_ := Nat.le_trans it2 hb.size
  have oW_ := OwnV.below oW hb iW
  have iW_ := Nat.le_trans iW hb.size
  have ox1_ := OwnV.below ox1 hb ix1
  have ix1_ := Nat.le_trans ix1 hb.size
  have ox2_ := OwnV.below ox2 hb ix2
  have ix2_ := Nat.le_trans ix2 hb.size
  have oG_ := OwnV.below oG hb iG
  have iG_ := Nat.le_trans iG hb.size
  have ou1_ := OwnV.below ou1 hb iu1
  have iu1_ := Nat.le_trans iu1 hb.size
  have ou2_ := OwnV.below ou2 hb iu2
  have iu2_ := Nat.le_trans iu2 hb.size
  have oy1_ := OwnV.below oy1 hb iy1
  have iy1_ := Nat.le_trans iy1 hb.size
  have oy2_ := OwnV.below oy2 hb iy2
  have iy2_ := Nat.le_trans iy2 hb.size
  clear hbel; have hbel := hbel_; clear hbel_
  clear a1; have a1 := a1_; clear a1_
  clear a2; have a2 := a2_; clear a2_
  clear ot1; have ot1 := ot1_; clear ot1_
  clear it1; have it1 := it1_; clear it1_
  clear ot2; have ot2 := ot2_; clear ot2_
  clear it2; have it2 := it2_; clear it2_
  clear oW; have oW := oW_; clear oW_
  clear iW; have iW := iW_; clear iW_
  clear ox1; have ox1 := ox1_; clear ox1_
  clear ix1; have ix1 := ix1_; clear ix1_
  clear ox2; have ox2 := ox2_; clear ox2_
  clear ix2; have ix2 := ix2_; clear ix2_
  clear oG; have oG := oG_; clear oG_
  clear iG; have iG := iG_; clear iG_
  clear ou1; have ou1 := ou1_; clear ou1_
  clear iu1; have iu1 := iu1_; clear iu1_
  clear ou2; have ou2 := ou2_; clear ou2_
  clear iu2; have iu2 := iu2_; clear iu2_
  clear oy1; have oy1 := oy1_; clear oy1_
  clear iy1; have iy1 := iy1_; clear iy1_
  clear oy2; have oy2 := oy2_; clear oy2_
  clear iy2; have iy2 := iy2_; clear iy2_
  clear hsz
  clear hb
  go_wp2_with fail
  refine (eqIntS_same _ _ _ _ _ _ _ _ _ _ (OwnI.ri oH) (OwnI.ri oW) (hlen)).mono ?_
  rintro e w19 ⟨rfl, hb⟩
  have hsz := hbel.size
  have hbel_ := hbel.trans (hb.mono hsz)
  have a1_ := RV.below a1 (hb.mono hsz)
  have a2_ := RV.below a2 (hb.mono hsz)
  have ot1_ := OwnV.below ot1 hb it1
  have it1_ := Nat.le_trans it1 hb.size
  have ot2_ := OwnV.below ot2 hb it2
  have it2_ := Nat.le_trans it2 hb.size
  have oW_ := OwnV.below oW hb iW
  have iW_ := Nat.le_trans iW hb.size
  have ox1_ := OwnV.below ox1 hb ix1
  have ix1_ := Nat.le_trans ix1 hb.size
  have ox2_ := OwnV.below ox2 hb ix2
  have ix2_ := Nat.le_trans ix2 hb.size
  have oG_ := OwnV.below oG hb iG
  have iG_ := Nat.le_trans iG hb.size
  have ou1_ := OwnV.below ou1 hb iu1
  have iu1_ := Nat.le_trans iu1 hb.size
  have ou2_ := OwnV.below ou2 hb iu2
  have iu2_ := Nat.le_trans iu2 hb.size
  have oy1_ := OwnV.below oy1 hb iy1
  have iy1_ := Nat.le_trans iy1 hb.size
  have oy2_ := OwnV.below oy2 hb iy2
  have iy2_ := Nat.le_trans iy2 hb.size
  have oH_ := OwnV.below oH hb iH
  have iH_ := Nat.le_trans iH hb.size
  clear hbel; have hbel := hbel_; clear hbel_
  clear a1; have a1 := a1_; clear a1_
  clear a2; have a2 := a2_; clear a2_
  clear ot1; have ot1 := ot1_; clear ot1_
  clear it1; have it1 := it1_; clear it1_
  clear ot2; have ot2 := ot2_; clear ot2_
  clear it2; have it2 := it2_; clear it2_
  clear oW; have oW := oW_; clear oW_
  clear iW; have iW := iW_; clear iW_
  clear ox1; have ox1 := ox1_; clear ox1_
  clear ix1; have ix1 := ix1_; clear ix1_
  clear ox2; have ox2 := ox2_; clear ox2_
  clear ix2; have ix2 := ix2_; clear ix2_
  clear oG; have oG := oG_; clear oG_
  clear iG; have iG := iG_; clear iG_
  clear ou1; have ou1 := ou1_; clear ou1_
  clear iu1; have iu1 := iu1_; clear iu1_
  clear ou2; have ou2 := ou2_; clear ou2_
  clear iu2; have iu2 := iu2_; clear iu2_
  clear oy1; have oy1 := oy1_; clear oy1_
  clear iy1; have iy1 := iy1_; clear iy1_
  clear oy2; have oy2 := oy2_; clear oy2_
  clear iy2; have iy2 := iy2_; clear iy2_
  clear oH; have oH := oH_; clear oH_
  clear iH; have iH := iH_; clear iH_
  clear hsz
  clear hb
  go_wp2_with fail
  refine (heldIntS_yes _ _ _ _ _ _ (OwnI.ri oG) (by omega) (by omega) (by omega)).mono ?_
  rintro e w_ ⟨rfl, rfl⟩
  go_wp2
  go_ret
  exact ⟨rfl, hbel⟩

theorem fnExactStopAndWait_walk (n : Int) (w0 : (Lit.int .i64 n).wf = true) {A1 : Option Addr} {n1 c1 : Nat} {xs : List Bool} {A2 : Option Addr} {n2 c2 : Nat} {ys : List Bool} (w : World) (h1 : RT w w.heap.size A1 n1 xs) (hl1 : n1 ≤ c1) (hm1 : c1 ≤ maxLen) (h2 : RT w w.heap.size A2 n2 ys) (hl2 : n2 ≤ c2) (hm2 : c2 ≤ maxLen) :
    Calls Try.prog 3 #[.int .i64 n, .slice A1 n1 c1, .slice A2 n2 c2] w fun e w' => e = .returned (.bool true) ∧ Below w.heap.size w w' := by
  by_cases q1 : n1 ≤ 1048576
  · skip
    by_cases q2 : n2 ≤ 1048576
    · skip
      exact fnExactStopAndWait_core w n w0 A1 n1 c1 xs h1 hl1 hm1 A2 n2 c2 ys h2 hl2 hm2 ⟨q1, q2⟩
    · unfold maxLen at *
      go_enter Try.func3, Try.ntmps3
      go_wp2
      go_ret
      exact ⟨rfl, Below.refl _ _⟩
  · unfold maxLen at *
    go_enter Try.func3, Try.ntmps3
    go_wp2
    go_ret
    exact ⟨rfl, Below.refl _ _⟩
end Go.Proofs.Ytnnapbjaidbkgaa
