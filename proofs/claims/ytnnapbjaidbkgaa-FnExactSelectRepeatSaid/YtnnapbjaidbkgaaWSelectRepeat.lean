/-
  FnExactSelectRepeat, walked: the program's SelectRepeat returns what the reference's returns; it changes no argument; its result is memory of its own.
-/
import Derived.Test.YtnnapbjaidbkgaaExactT
import Derived.Test.YtnnapbjaidbkgaaRepG
namespace Go.Proofs.Ytnnapbjaidbkgaa
open Go.RowKit
set_option linter.unusedVariables false

set_option maxHeartbeats 1600000 in
theorem fnExactSelectRepeat_core (w : World) (n : Int) (_w0 : (Lit.int .i64 n).wf = true) (win : Int) (_w1 : (Lit.int .i64 win).wf = true) (A2 : Option Addr) (n2 c2 : Nat) (xs : List (Bool)) (h2 : RT w w.heap.size A2 n2 xs) (hl2 : n2 ≤ c2) (hm2 : c2 ≤ maxLen) (hN2 : n2 ≤ 1048576) :
    Calls Try.prog 7 #[.int .i64 n, .int .i64 win, .slice A2 n2 c2] w fun e w' => e = .returned (.bool true) ∧ Below w.heap.size w w' := by
  have hbel : Below w.heap.size w w := Below.refl _ _
  have hne2 : ((selRep n win xs).2 != (selRep n win xs).2) = false := by simp
  obtain ⟨V, HV⟩ : ∃ V, Hid (V = (selRep n win xs).1) := ⟨_, hid rfl⟩
  have hlen : V.length ≤ 1000000000 := by rw [HV.out]; exact by have := selRep_len xs n win; omega
  have a2 : RT w w.heap.size A2 n2 xs := h2
  clear h2
  go_enter Try.func7, Try.ntmps7
  go_wp2_with fail
  refine (toBoolS_any A2 n2 c2 _ xs _ a2 hbel.size (by omega)).mono ?_
  rintro e w1 ⟨rfl, ot2, hb, hs⟩
  have lt2 : w.heap.size ≤ w.heap.size := hbel.size
  have it2 : w.heap.size + 1 ≤ w1.heap.size := by rw [hs]; exact Nat.le_refl _
  clear hs
  have hsz := hbel.size
  have hbel_ := hbel.trans (hb.mono hsz)
  have a2_ := RV.below a2 (hb.mono hsz)
  clear hbel; have hbel := hbel_; clear hbel_
  clear a2; have a2 := a2_; clear a2_
  clear hsz
  clear hb
  go_wp2_with fail
  refine (selRep_spec n win _ _ _ _ xs _ (RV.more (OwnT.rt ot2) it2) (Nat.le_refl _) (by omega)).mono ?_
  rintro e w2 ⟨AW, nW, cW, rfl, oW, hb⟩
  have lW : w.heap.size ≤ w1.heap.size := hbel.size
  have iW : w2.heap.size ≤ w2.heap.size := Nat.le_refl _
  rw [← HV.out] at oW
  have zW : nW ≤ 1000000000 := by have := OwnI.len oW; omega
  have dt2W := it2
  have hsz := hbel.size
  have hbel_ := hbel.trans (hb.mono hsz)
  have a2_ := RV.below a2 (hb.mono hsz)
  have ot2_ := OwnV.below ot2 hb it2
  have it2_ := Nat.le_trans it2 hb.size
  clear hbel; have hbel := hbel_; clear hbel_
  clear a2; have a2 := a2_; clear a2_
  clear ot2; have ot2 := ot2_; clear ot2_
  clear it2; have it2 := it2_; clear it2_
  clear hsz
  clear hb
  go_wp2_with fail
  refine (toBoolS_any A2 n2 c2 _ xs _ a2 hbel.size (by omega)).mono ?_
  rintro e w3 ⟨rfl, ox2, hb, hs⟩
  have lx2 : w.heap.size ≤ w2.heap.size := hbel.size
  have ix2 : w2.heap.size + 1 ≤ w3.heap.size := by rw [hs]; exact Nat.le_refl _
  clear hs
  have dt2x2 := it2
  have dWx2 := iW
  have hsz := hbel.size
  have hbel_ := hbel.trans (hb.mono hsz)
  have a2_ := RV.below a2 (hb.mono hsz)
  have ot2_ := OwnV.below ot2 hb it2
  have it2_ := Nat.le_trans it2 hb.size
  have oW_ := OwnV.below oW hb iW
  have iW_ := Nat.le_trans iW hb.size
  clear hbel; have hbel := hbel_; clear hbel_
  clear a2; have a2 := a2_; clear a2_
  clear ot2; have ot2 := ot2_; clear ot2_
  clear it2; have it2 := it2_; clear it2_
  clear oW; have oW := oW_; clear oW_
  clear iW; have iW := iW_; clear iW_
  clear hsz
  clear hb
  go_wp2_with fail
  refine (selRep_impl n win _ _ _ _ xs _ (RV.more (OwnT.rt ox2) ix2) (Nat.le_refl _) (by omega)).mono ?_
  rintro e w4 ⟨AG, nG, cG, rfl, oG, hb⟩
  have lG : w.heap.size ≤ w3.heap.size := hbel.size
  have iG : w4.heap.size ≤ w4.heap.size := Nat.le_refl _
  rw [← HV.out] at oG
  have zG : nG ≤ 1000000000 := by have := OwnI.len oG; omega
  have dt2G := it2
  have dWG := iW
  have dx2G := ix2
  have hsz := hbel.size
  have hbel_ := hbel.trans (hb.mono hsz)
  have a2_ := RV.below a2 (hb.mono hsz)
  have ot2_ := OwnV.below ot2 hb it2
  have it2_ := Nat.le_trans it2 hb.size
  have oW_ := OwnV.below oW hb iW
  have iW_ := Nat.le_trans iW hb.size
  have ox2_ := OwnV.below ox2 hb ix2
  have ix2_ := Nat.le_trans ix2 hb.size
  clear hbel; have hbel := hbel_; clear hbel_
  clear a2; have a2 := a2_; clear a2_
  clear ot2; have ot2 := ot2_; clear ot2_
  clear it2; have it2 := it2_; clear it2_
  clear oW; have oW := oW_; clear oW_
  clear iW; have iW := iW_; clear iW_
  clear ox2; have ox2 := ox2_; clear ox2_
  clear ix2; have ix2 := ix2_; clear ix2_
  clear hsz
  clear hb
  go_wp2_with fail
  refine (eqIntS_same _ _ _ _ _ _ _ _ _ _ (OwnI.ri oG) (OwnI.ri oW) (by omega)).mono ?_
  rintro e w5 ⟨rfl, hb⟩
  have hsz := hbel.size
  have hbel_ := hbel.trans (hb.mono hsz)
  have a2_ := RV.below a2 (hb.mono hsz)
  have ot2_ := OwnV.below ot2 hb it2
  have it2_ := Nat.le_trans it2 hb.size
  have oW_ := OwnV.below oW hb iW
  have iW_ := Nat.le_trans iW hb.size
  have ox2_ := OwnV.below ox2 hb ix2
  have ix2_ := Nat.le_trans ix2 hb.size
  have oG_ := OwnV.below oG hb iG
  have iG_ := Nat.le_trans iG hb.size
  clear hbel; have hbel := hbel_; clear hbel_
  clear a2; have a2 := a2_; clear a2_
  clear ot2; have ot2 := ot2_; clear ot2_
  clear it2; have it2 := it2_; clear it2_
  clear oW; have oW := oW_; clear oW_
  clear iW; have iW := iW_; clear iW_
  clear ox2; have ox2 := ox2_; clear ox2_
  clear ix2; have ix2 := ix2_; clear ix2_
  clear oG; have oG := oG_; clear oG_
  clear iG; have iG := iG_; clear iG_
  clear hsz
  clear hb
  go_wp2_with fail
  refine (toBoolS_any A2 n2 c2 _ xs _ a2 hbel.size (by omega)).mono ?_
  rintro e w6 ⟨rfl, ou2, hb, hs⟩
  have lu2 : w.heap.size ≤ w5.heap.size := hbel.size
  have iu2 : w5.heap.size + 1 ≤ w6.heap.size := by rw [hs]; exact Nat.le_refl _
  clear hs
  have dt2u2 := it2
  have dWu2 := iW
  have dx2u2 := ix2
  have dGu2 := iG
  have hsz := hbel.size
  have hbel_ := hbel.trans (hb.mono hsz)
  have a2_ := RV.below a2 (hb.mono hsz)
  have ot2_ := OwnV.below ot2 hb it2
  have it2_ := Nat.le_trans it2 hb.size
  have oW_ := OwnV.below oW hb iW
  have iW_ := Nat.le_trans iW hb.size
  have ox2_ := OwnV.below ox2 hb ix2
  have ix2_ := Nat.le_trans ix2 hb.size
  have oG_ := OwnV.below oG hb iG
  have iG_ := Nat.le_trans iG hb.size
  clear hbel; have hbel := hbel_; clear hbel_
  clear a2; have a2 := a2_; clear a2_
  clear ot2; have ot2 := ot2_; clear ot2_
  clear it2; have it2 := it2_; clear it2_
  clear oW; have oW := oW_; clear oW_
  clear iW; have iW := iW_; clear iW_
  clear ox2; have ox2 := ox2_; clear ox2_
  clear ix2; have ix2 := ix2_; clear ix2_
  clear oG; have oG := oG_; clear oG_
  clear iG; have iG := iG_; clear iG_
  clear hsz
  clear hb
  go_wp2_with fail
  refine (eqBoolS_same _ _ _ _ _ _ _ _ _ _ (OwnT.rt ox2) (OwnT.rt ou2) (by have := RT.len a2; omega)).mono ?_
  rintro e w7 ⟨rfl, hb⟩
  have hsz := hbel.size
  have hbel_ := hbel.trans (hb.mono hsz)
  have a2_ := RV.below a2 (hb.mono hsz)
  have ot2_ := OwnV.below ot2 hb it2
  have it2_ := Nat.le_trans it2 hb.size
  have oW_ := OwnV.below oW hb iW
  have iW_ := Nat.le_trans iW hb.size
  have ox2_ := OwnV.below ox2 hb ix2
  have ix2_ := Nat.le_trans ix2 hb.size
  have oG_ := OwnV.below oG hb iG
  have iG_ := Nat.le_trans iG hb.size
  have ou2_ := OwnV.below ou2 hb iu2
  have iu2_ := Nat.le_trans iu2 hb.size
  clear hbel; have hbel := hbel_; clear hbel_
  clear a2; have a2 := a2_; clear a2_
  clear ot2; have ot2 := ot2_; clear ot2_
  clear it2; have it2 := it2_; clear it2_
  clear oW; have oW := oW_; clear oW_
  clear iW; have iW := iW_; clear iW_
  clear ox2; have ox2 := ox2_; clear ox2_
  clear ix2; have ix2 := ix2_; clear ix2_
  clear oG; have oG := oG_; clear oG_
  clear iG; have iG := iG_; clear iG_
  clear ou2; have ou2 := ou2_; clear ou2_
  clear iu2; have iu2 := iu2_; clear iu2_
  clear hsz
  clear hb
  go_wp2_with fail
  refine (markBoolS_any _ _ _ _ _ _ _ _ ox2 (by omega) (by omega) (by omega)).mono ?_
  rintro e w8 ⟨rfl, ox2_, ho, hs⟩
  clear hs
  have hsz := hbel.size
  have hbel_ := hbel.trans (ho.below lx2 hsz)
  have a2_ := RV.below a2 (ho.below lx2 hsz)
  have ot2_ := OwnV.only ot2 ho (by omega)
  have it2_ := Nat.le_trans it2 ho.size
  have oW_ := OwnV.only oW ho (by omega)
  have iW_ := Nat.le_trans iW ho.size
  have ix2_ := Nat.le_trans ix2 ho.size
  have oG_ := OwnV.only oG ho (by omega)
  have iG_ := Nat.le_trans iG ho.size
  have ou2_ := OwnV.only ou2 ho (by omega)
  have iu2_ := Nat.le_trans iu2 ho.size
  clear hbel; have hbel := hbel_; clear hbel_
  clear a2; have a2 := a2_; clear a2_
  clear ot2; have ot2 := ot2_; clear ot2_
  clear it2; have it2 := it2_; clear it2_
  clear oW; have oW := oW_; clear oW_
  clear iW; have iW := iW_; clear iW_
  clear ix2; have ix2 := ix2_; clear ix2_
  clear oG; have oG := oG_; clear oG_
  clear iG; have iG := iG_; clear iG_
  clear ou2; have ou2 := ou2_; clear ou2_
  clear iu2; have iu2 := iu2_; clear iu2_
  clear hsz
  clear ox2; have ox2 := ox2_; clear ox2_ ho
  go_wp2_with fail
  refine (eqIntS_same _ _ _ _ _ _ _ _ _ _ (OwnI.ri oG) (OwnI.ri oW) (by omega)).mono ?_
  rintro e w9 ⟨rfl, hb⟩
  have hsz := hbel.size
  have hbel_ := hbel.trans (hb.mono hsz)
  have a2_ := RV.below a2 (hb.mono hsz)
  have ot2_ := OwnV.below ot2 hb it2
  have it2_ := Nat.le_trans it2 hb.size
  have oW_ := OwnV.below oW hb iW
  have iW_ := Nat.le_trans iW hb.size
  have ox2_ := OwnV.below ox2 hb ix2
  have ix2_ := Nat.le_trans ix2 hb.size
  have oG_ := OwnV.below oG hb iG
  have iG_ := Nat.le_trans iG hb.size
  have ou2_ := OwnV.below ou2 hb iu2
  have iu2_ := Nat.le_trans iu2 hb.size
  clear hbel; have hbel := hbel_; clear hbel_
  clear a2; have a2 := a2_; clear a2_
  clear ot2; have ot2 := ot2_; clear ot2_
  clear it2; have it2 := it2_; clear it2_
  clear oW; have oW := oW_; clear oW_
  clear iW; have iW := iW_; clear iW_
  clear ox2; have ox2 := ox2_; clear ox2_
  clear ix2; have ix2 := ix2_; clear ix2_
  clear oG; have oG := oG_; clear oG_
  clear iG; have iG := iG_; clear iG_
  clear ou2; have ou2 := ou2_; clear ou2_
  clear iu2; have iu2 := iu2_; clear iu2_
  clear hsz
  clear hb
  go_wp2_with fail
  refine (markIntS_any _ _ _ _ _ _ _ _ oG (by omega) (by omega) (by omega)).mono ?_
  rintro e w10 ⟨rfl, oG_, ho, hs⟩
  clear hs
  have hsz := hbel.size
  have hbel_ := hbel.trans (ho.below lG hsz)
  have a2_ := RV.below a2 (ho.below lG hsz)
  have ot2_ := OwnV.only ot2 ho (by omega)
  have it2_ := Nat.le_trans it2 ho.size
  have oW_ := OwnV.only oW ho (by omega)
  have iW_ := Nat.le_trans iW ho.size
  have ox2_ := OwnV.only ox2 ho (by omega)
  have ix2_ := Nat.le_trans ix2 ho.size
  have iG_ := Nat.le_trans iG ho.size
  have ou2_ := OwnV.only ou2 ho (by omega)
  have iu2_ := Nat.le_trans iu2 ho.size
  clear hbel; have hbel := hbel_; clear hbel_
  clear a2; have a2 := a2_; clear a2_
  clear ot2; have ot2 := ot2_; clear ot2_
  clear it2; have it2 := it2_; clear it2_
  clear oW; have oW := oW_; clear oW_
  clear iW; have iW := iW_; clear iW_
  clear ox2; have ox2 := ox2_; clear ox2_
  clear ix2; have ix2 := ix2_; clear ix2_
  clear iG; have iG := iG_; clear iG_
  clear ou2; have ou2 := ou2_; clear ou2_
  clear iu2; have iu2 := iu2_; clear iu2_
  clear hsz
  clear oG; have oG := oG_; clear oG_ ho
  go_wp2_with fail
  refine (heldIntS_yes _ _ _ _ _ _ (OwnI.ri oG) (by omega) (by omega) (by omega)).mono ?_
  rintro e w_ ⟨rfl, rfl⟩
  go_wp2_with fail
  refine (toBoolS_any A2 n2 c2 _ xs _ a2 hbel.size (by omega)).mono ?_
  rintro e w11 ⟨rfl, oy2, hb, hs⟩
  have ly2 : w.heap.size ≤ w10.heap.size := hbel.size
  have iy2 : w10.heap.size + 1 ≤ w11.heap.size := by rw [hs]; exact Nat.le_refl _
  clear hs
  have dt2y2 := it2
  have dWy2 := iW
  have dx2y2 := ix2
  have dGy2 := iG
  have du2y2 := iu2
  have hsz := hbel.size
  have hbel_ := hbel.trans (hb.mono hsz)
  have a2_ := RV.below a2 (hb.mono hsz)
  have ot2_ := OwnV.below ot2 hb it2
  have it2_ := Nat.le_trans it2 hb.size
  have oW_ := OwnV.below oW hb iW
  have iW_ := Nat.le_trans iW hb.size
  have ox2_ := OwnV.below ox2 hb ix2
  have ix2_ := Nat.le_trans ix2 hb.size
  have oG_ := OwnV.below oG hb iG
  have iG_ := Nat.le_trans iG hb.size
  have ou2_ := OwnV.below ou2 hb iu2
  have iu2_ := Nat.le_trans iu2 hb.size
  clear hbel; have hbel := hbel_; clear hbel_
  clear a2; have a2 := a2_; clear a2_
  clear ot2; have ot2 := ot2_; clear ot2_
  clear it2; have it2 := it2_; clear it2_
  clear oW; have oW := oW_; clear oW_
  clear iW; have iW := iW_; clear iW_
  clear ox2; have ox2 := ox2_; clear ox2_
  clear ix2; have ix2 := ix2_; clear ix2_
  clear oG; have oG := oG_; clear oG_
  clear iG; have iG := iG_; clear iG_
  clear ou2; have ou2 := ou2_; clear ou2_
  clear iu2; have iu2 := iu2_; clear iu2_
  clear hsz
  clear hb
  go_wp2_with fail
  refine (selRep_impl n win _ _ _ _ xs _ (RV.more (OwnT.rt oy2) iy2) (Nat.le_refl _) (by omega)).mono ?_
  rintro e w12 ⟨AH, nH, cH, rfl, oH, hb⟩
  have lH : w.heap.size ≤ w11.heap.size := hbel.size
  have iH : w12.heap.size ≤ w12.heap.size := Nat.le_refl _
  rw [← HV.out] at oH
  have zH : nH ≤ 1000000000 := by have := OwnI.len oH; omega
  have dt2H := it2
  have dWH := iW
  have dx2H := ix2
  have dGH := iG
  have du2H := iu2
  have dy2H := iy2
  have hsz := hbel.size
  have hbel_ := hbel.trans (hb.mono hsz)
  have a2_ := RV.below a2 (hb.mono hsz)
  have ot2_ := OwnV.below ot2 hb it2
  have it2_ := Nat.le_trans it2 hb.size
  have oW_ := OwnV.below oW hb iW
  have iW_ := Nat.le_trans iW hb.size
  have ox2_ := OwnV.below ox2 hb ix2
  have ix2_ := Nat.le_trans ix2 hb.size
  have oG_ := OwnV.below oG hb iG
  have iG_ := Nat.le_trans iG hb.size
  have ou2_ := OwnV.below ou2 hb iu2
  have iu2_ := Nat.le_trans iu2 hb.size
  have oy2_ := OwnV.below oy2 hb iy2
  have iy2_ := Nat.le_trans iy2 hb.size
  clear hbel; have hbel := hbel_; clear hbel_
  clear a2; have a2 := a2_; clear a2_
  clear ot2; have ot2 := ot2_; clear ot2_
  clear it2; have it2 := it2_; clear it2_
  clear oW; have oW := oW_; clear oW_
  clear iW; have iW := iW_; clear iW_
  clear ox2; have ox2 := ox2_; clear ox2_
  clear ix2; have ix2 := ix2_; clear ix2_
  clear oG; have oG := oG_; clear oG_
  clear iG; have iG := iG_; clear iG_
  clear ou2; have ou2 := ou2_; clear ou2_
  clear iu2; have iu2 := iu2_; clear iu2_
  clear oy2; have oy2 := oy2_; clear oy2_
  clear iy2; have iy2 := iy2_; clear iy2_
  clear hsz
  clear hb
  go_wp2_with fail
  refine (eqIntS_same _ _ _ _ _ _ _ _ _ _ (OwnI.ri oH) (OwnI.ri oW) (by omega)).mono ?_
  rintro e w13 ⟨rfl, hb⟩
  have hsz := hbel.size
  have hbel_ := hbel.trans (hb.mono hsz)
  have a2_ := RV.below a2 (hb.mono hsz)
  have ot2_ := OwnV.below ot2 hb it2
  have it2_ := Nat.le_trans it2 hb.size
  have oW_ := OwnV.below oW hb iW
  have iW_ := Nat.le_trans iW hb.size
  have ox2_ := OwnV.below ox2 hb ix2
  have ix2_ := Nat.le_trans ix2 hb.size
  have oG_ := OwnV.below oG hb iG
  have iG_ := Nat.le_trans iG hb.size
  have ou2_ := OwnV.below ou2 hb iu2
  have iu2_ := Nat.le_trans iu2 hb.size
  have oy2_ := OwnV.below oy2 hb iy2
  have iy2_ := Nat.le_trans iy2 hb.size
  have oH_ := OwnV.below oH hb iH
  have iH_ := Nat.le_trans iH hb.size
  clear hbel; have hbel := hbel_; clear hbel_
  clear a2; have a2 := a2_; clear a2_
  clear ot2; have ot2 := ot2_; clear ot2_
  clear it2; have it2 := it2_; clear it2_
  clear oW; have oW := oW_; clear oW_
  clear iW; have iW := iW_; clear iW_
  clear ox2; have ox2 := ox2_; clear ox2_
  clear ix2; have ix2 := ix2_; clear ix2_
  clear oG; have oG := oG_; clear oG_
  clear iG; have iG := iG_; clear iG_
  clear ou2; have ou2 := ou2_; clear ou2_
  clear iu2; have iu2 := iu2_; clear iu2_
  clear oy2; have oy2 := oy2_; clear oy2_
  clear iy2; have iy2 := iy2_; clear iy2_
  clear oH; have oH := oH_; clear oH_
  clear iH; have iH := iH_; clear iH_
  clear hsz
  clear hb
  go_wp2_with fail
  refine (heldIntS_yes _ _ _ _ _ _ (OwnI.ri oG) (by omega) (by omega) (by omega)).mono ?_
  rintro e w_ ⟨rfl, rfl⟩
  go_wp2
  go_ret
  exact ⟨rfl, hbel⟩

set_option maxHeartbeats 800000 in
theorem fnExactSelectRepeat_walk (n : Int) (w0 : (Lit.int .i64 n).wf = true) (win : Int) (w1 : (Lit.int .i64 win).wf = true) {A2 : Option Addr} {n2 c2 : Nat} {xs : List (Bool)} (w : World) (h2 : RT w w.heap.size A2 n2 xs) (hl2 : n2 ≤ c2) (hm2 : c2 ≤ maxLen) :
    Calls Try.prog 7 #[.int .i64 n, .int .i64 win, .slice A2 n2 c2] w fun e w' => e = .returned (.bool true) ∧ Below w.heap.size w w' := by
  by_cases q2 : n2 ≤ 1048576
  · skip
    exact fnExactSelectRepeat_core w n w0 win w1 A2 n2 c2 xs h2 hl2 hm2 q2
  · unfold maxLen at *
    go_enter Try.func7, Try.ntmps7
    go_wp2
    go_ret
    exact ⟨rfl, Below.refl _ _⟩
end Go.Proofs.Ytnnapbjaidbkgaa
