/-
  FnExactApplyGain, walked: the program's ApplyGain returns what the reference's returns; it changes no argument; its result is memory of its own.
-/
import Derived.Test.YtdcljfpgjifijaaExact
import Derived.Test.YtdcljfpgjifijaaGain
namespace Go.Proofs.Ytdcljfpgjifijaa
open Go.RowKit

set_option maxHeartbeats 1600000 in
theorem fnExactApplyGain_core (w : World) (g : Int) (_w0 : (Lit.int .i64 g).wf = true) (A1 : Option Addr) (n1 c1 : Nat) (xs : List Int) (h1 : RV w w.heap.size A1 n1 (xs.map (Value.int .i64))) (_wf1 : ∀ x ∈ xs, (Lit.int .i64 x).wf = true) (_hl1 : n1 ≤ c1) (_hm1 : c1 ≤ maxLen) (hn : n1 ≤ 1048576) :
    Calls Try.prog 5 #[.int .i64 g, .slice A1 n1 c1] w fun e w' => e = .returned (.bool true) ∧ Below w.heap.size w w' := by
  have hN1 : n1 ≤ 1048576 := hn
  clear hn
  have hbel : Below w.heap.size w w := Below.refl _ _
  have hlen : (applyGain g xs).length ≤ 1000000000 := by have := RV.len h1; rw [List.length_map] at this; unfold applyGain; split <;> simp <;> omega
  obtain ⟨V, hV⟩ : ∃ V, V = applyGain g xs := ⟨_, rfl⟩
  have HV := hid hV
  rw [← hV] at hlen
  clear hV
  have a1 : RI w w.heap.size A1 n1 xs := h1
  clear h1
  go_enter Try.func5, Try.ntmps5
  go_wp2_with fail
  refine (toIntS_any A1 n1 c1 _ xs _ a1 hbel.size (by omega)).mono ?_
  rintro e w1 ⟨rfl, ot1, hb, hs⟩
  have lt1 : w.heap.size ≤ w.heap.size := hbel.size
  have it1 : w.heap.size + 1 ≤ w1.heap.size := by rw [hs]; exact Nat.le_refl _
  clear hs
  have hsz := hbel.size
  have hbel_ := hbel.trans (hb.mono hsz)
  have a1_ := RV.below a1 (hb.mono hsz)
  clear hbel; have hbel := hbel_; clear hbel_
  clear a1; have a1 := a1_; clear a1_
  clear hsz
  clear hb
  go_wp2_with fail
  refine (applyGain_spec g _ _ _ _ xs _ (OwnI.ri ot1) it1 (by omega)).mono ?_
  rintro e w2 ⟨AW, nW, cW, rfl, oW, hb⟩
  have lW : w.heap.size ≤ w1.heap.size := hbel.size
  have iW : w2.heap.size ≤ w2.heap.size := Nat.le_refl _
  have dt1W := it1
  rw [← HV.out] at oW
  have zW : nW ≤ 1000000000 := by have := OwnI.len oW; omega
  have hsz := hbel.size
  have hbel_ := hbel.trans (hb.mono hsz)
  have a1_ := RV.below a1 (hb.mono hsz)
  have ot1_ := OwnV.below ot1 hb it1
  have it1_ := Nat.le_trans it1 hb.size
  clear hbel; have hbel := hbel_; clear hbel_
  clear a1; have a1 := a1_; clear a1_
  clear ot1; have ot1 := ot1_; clear ot1_
  clear it1; have it1 := it1_; clear it1_
  clear hsz
  clear hb
  go_wp2_with fail
  refine (toIntS_any A1 n1 c1 _ xs _ a1 hbel.size (by omega)).mono ?_
  rintro e w3 ⟨rfl, ox1, hb, hs⟩
  have lx1 : w.heap.size ≤ w2.heap.size := hbel.size
  have ix1 : w2.heap.size + 1 ≤ w3.heap.size := by rw [hs]; exact Nat.le_refl _
  clear hs
  have dt1x1 := it1
  have dWx1 := iW
  have hsz := hbel.size
  have hbel_ := hbel.trans (hb.mono hsz)
  have a1_ := RV.below a1 (hb.mono hsz)
  have ot1_ := OwnV.below ot1 hb it1
  have it1_ := Nat.le_trans it1 hb.size
  have oW_ := OwnV.below oW hb iW
  have iW_ := Nat.le_trans iW hb.size
  clear hbel; have hbel := hbel_; clear hbel_
  clear a1; have a1 := a1_; clear a1_
  clear ot1; have ot1 := ot1_; clear ot1_
  clear it1; have it1 := it1_; clear it1_
  clear oW; have oW := oW_; clear oW_
  clear iW; have iW := iW_; clear iW_
  clear hsz
  clear hb
  go_wp2_with fail
  refine (applyGain_impl g _ _ _ _ xs _ (OwnI.ri ox1) ix1 (by omega)).mono ?_
  rintro e w4 ⟨AG, nG, cG, rfl, oG, hb⟩
  have lG : w.heap.size ≤ w3.heap.size := hbel.size
  have iG : w4.heap.size ≤ w4.heap.size := Nat.le_refl _
  have dt1G := it1
  have dWG := iW
  have dx1G := ix1
  rw [← HV.out] at oG
  have zG : nG ≤ 1000000000 := by have := OwnI.len oG; omega
  have hsz := hbel.size
  have hbel_ := hbel.trans (hb.mono hsz)
  have a1_ := RV.below a1 (hb.mono hsz)
  have ot1_ := OwnV.below ot1 hb it1
  have it1_ := Nat.le_trans it1 hb.size
  have oW_ := OwnV.below oW hb iW
  have iW_ := Nat.le_trans iW hb.size
  have ox1_ := OwnV.below ox1 hb ix1
  have ix1_ := Nat.le_trans ix1 hb.size
  clear hbel; have hbel := hbel_; clear hbel_
  clear a1; have a1 := a1_; clear a1_
  clear ot1; have ot1 := ot1_; clear ot1_
  clear it1; have it1 := it1_; clear it1_
  clear oW; have oW := oW_; clear oW_
  clear iW; have iW := iW_; clear iW_
  clear ox1; have ox1 := ox1_; clear ox1_
  clear ix1; have ix1 := ix1_; clear ix1_
  clear hsz
  clear hb
  go_wp2_with fail
  refine (eqIntS_same _ _ _ _ _ _ _ _ _ _ (OwnI.ri oG) (OwnI.ri oW) (hlen)).mono ?_
  rintro e w5 ⟨rfl, hb⟩
  have hsz := hbel.size
  have hbel_ := hbel.trans (hb.mono hsz)
  have a1_ := RV.below a1 (hb.mono hsz)
  have ot1_ := OwnV.below ot1 hb it1
  have it1_ := Nat.le_trans it1 hb.size
  have oW_ := OwnV.below oW hb iW
  have iW_ := Nat.le_trans iW hb.size
  have ox1_ := OwnV.below ox1 hb ix1
  have ix1_ := Nat.le_trans ix1 hb.size
  have oG_ := OwnV.below oG hb iG
  have iG_ := Nat.le_trans iG hb.size
  clear hbel; have hbel := hbel_; clear hbel_
  clear a1; have a1 := a1_; clear a1_
  clear ot1; have ot1 := ot1_; clear ot1_
  clear it1; have it1 := it1_; clear it1_
  clear oW; have oW := oW_; clear oW_
  clear iW; have iW := iW_; clear iW_
  clear ox1; have ox1 := ox1_; clear ox1_
  clear ix1; have ix1 := ix1_; clear ix1_
  clear oG; have oG := oG_; clear oG_
  clear iG; have iG := iG_; clear iG_
  clear hsz
  clear hb
  go_wp2_with fail
  refine (toIntS_any A1 n1 c1 _ xs _ a1 hbel.size (by omega)).mono ?_
  rintro e w6 ⟨rfl, ou1, hb, hs⟩
  have lu1 : w.heap.size ≤ w5.heap.size := hbel.size
  have iu1 : w5.heap.size + 1 ≤ w6.heap.size := by rw [hs]; exact Nat.le_refl _
  clear hs
  have dt1u1 := it1
  have dWu1 := iW
  have dx1u1 := ix1
  have dGu1 := iG
  have hsz := hbel.size
  have hbel_ := hbel.trans (hb.mono hsz)
  have a1_ := RV.below a1 (hb.mono hsz)
  have ot1_ := OwnV.below ot1 hb it1
  have it1_ := Nat.le_trans it1 hb.size
  have oW_ := OwnV.below oW hb iW
  have iW_ := Nat.le_trans iW hb.size
  have ox1_ := OwnV.below ox1 hb ix1
  have ix1_ := Nat.le_trans ix1 hb.size
  have oG_ := OwnV.below oG hb iG
  have iG_ := Nat.le_trans iG hb.size
  clear hbel; have hbel := hbel_; clear hbel_
  clear a1; have a1 := a1_; clear a1_
  clear ot1; have ot1 := ot1_; clear ot1_
  clear it1; have it1 := it1_; clear it1_
  clear oW; have oW := oW_; clear oW_
  clear iW; have iW := iW_; clear iW_
  clear ox1; have ox1 := ox1_; clear ox1_
  clear ix1; have ix1 := ix1_; clear ix1_
  clear oG; have oG := oG_; clear oG_
  clear iG; have iG := iG_; clear iG_
  clear hsz
  clear hb
  go_wp2_with fail
  refine (eqIntS_same _ _ _ _ _ _ _ _ _ _ (OwnI.ri ox1) (OwnI.ri ou1) (by have := RI.len a1; omega)).mono ?_
  rintro e w7 ⟨rfl, hb⟩
  have hsz := hbel.size
  have hbel_ := hbel.trans (hb.mono hsz)
  have a1_ := RV.below a1 (hb.mono hsz)
  have ot1_ := OwnV.below ot1 hb it1
  have it1_ := Nat.le_trans it1 hb.size
  have oW_ := OwnV.below oW hb iW
  have iW_ := Nat.le_trans iW hb.size
  have ox1_ := OwnV.below ox1 hb ix1
  have ix1_ := Nat.le_trans ix1 hb.size
  have oG_ := OwnV.below oG hb iG
  have iG_ := Nat.le_trans iG hb.size
  have ou1_ := OwnV.below ou1 hb iu1
  have iu1_ := Nat.le_trans iu1 hb.size
  clear hbel; have hbel := hbel_; clear hbel_
  clear a1; have a1 := a1_; clear a1_
  clear ot1; have ot1 := ot1_; clear ot1_
  clear it1; have it1 := it1_; clear it1_
  clear oW; have oW := oW_; clear oW_
  clear iW; have iW := iW_; clear iW_
  clear ox1; have ox1 := ox1_; clear ox1_
  clear ix1; have ix1 := ix1_; clear ix1_
  clear oG; have oG := oG_; clear oG_
  clear iG; have iG := iG_; clear iG_
  clear ou1; have ou1 := ou1_; clear ou1_
  clear iu1; have iu1 := iu1_; clear iu1_
  clear hsz
  clear hb
  go_wp2_with fail
  refine (markIntS_any _ _ _ _ _ _ _ _ ox1 (by omega) (by omega) (by omega)).mono ?_
  rintro e w8 ⟨rfl, ox1_, ho, hs⟩
  clear hs
  have hsz := hbel.size
  have hbel_ := hbel.trans (ho.below lx1 hsz)
  have a1_ := RV.below a1 (ho.below lx1 hsz)
  have ot1_ := OwnV.only ot1 ho (by omega)
  have it1_ := Nat.le_trans it1 ho.size
  have oW_ := OwnV.only oW ho (by omega)
  have iW_ := Nat.le_trans iW ho.size
  have ix1_ := Nat.le_trans ix1 ho.size
  have oG_ := OwnV.only oG ho (by omega)
  have iG_ := Nat.le_trans iG ho.size
  have ou1_ := OwnV.only ou1 ho (by omega)
  have iu1_ := Nat.le_trans iu1 ho.size
  clear hbel; have hbel := hbel_; clear hbel_
  clear a1; have a1 := a1_; clear a1_
  clear ot1; have ot1 := ot1_; clear ot1_
  clear it1; have it1 := it1_; clear it1_
  clear oW; have oW := oW_; clear oW_
  clear iW; have iW := iW_; clear iW_
  clear ix1; have ix1 := ix1_; clear ix1_
  clear oG; have oG := oG_; clear oG_
  clear iG; have iG := iG_; clear iG_
  clear ou1; have ou1 := ou1_; clear ou1_
  clear iu1; have iu1 := iu1_; clear iu1_
  clear hsz
  clear ox1; have ox1 := ox1_; clear ox1_ ho
  go_wp2_with fail
  refine (eqIntS_same _ _ _ _ _ _ _ _ _ _ (OwnI.ri oG) (OwnI.ri oW) (hlen)).mono ?_
  rintro e w9 ⟨rfl, hb⟩
  have hsz := hbel.size
  have hbel_ := hbel.trans (hb.mono hsz)
  have a1_ := RV.below a1 (hb.mono hsz)
  have ot1_ := OwnV.below ot1 hb it1
  have it1_ := Nat.le_trans it1 hb.size
  have oW_ := OwnV.below oW hb iW
  have iW_ := Nat.le_trans iW hb.size
  have ox1_ := OwnV.below ox1 hb ix1
  have ix1_ := Nat.le_trans ix1 hb.size
  have oG_ := OwnV.below oG hb iG
  have iG_ := Nat.le_trans iG hb.size
  have ou1_ := OwnV.below ou1 hb iu1
  have iu1_ := Nat.le_trans iu1 hb.size
  clear hbel; have hbel := hbel_; clear hbel_
  clear a1; have a1 := a1_; clear a1_
  clear ot1; have ot1 := ot1_; clear ot1_
  clear it1; have it1 := it1_; clear it1_
  clear oW; have oW := oW_; clear oW_
  clear iW; have iW := iW_; clear iW_
  clear ox1; have ox1 := ox1_; clear ox1_
  clear ix1; have ix1 := ix1_; clear ix1_
  clear oG; have oG := oG_; clear oG_
  clear iG; have iG := iG_; clear iG_
  clear ou1; have ou1 := ou1_; clear ou1_
  clear iu1; have iu1 := iu1_; clear iu1_
  clear hsz
  clear hb
  go_wp2_with fail
  refine (markIntS_any _ _ _ _ _ _ _ _ oG (by omega) (by omega) (by omega)).mono ?_
  rintro e w10 ⟨rfl, oG_, ho, hs⟩
  clear hs
  have hsz := hbel.size
  have hbel_ := hbel.trans (ho.below lG hsz)
  have a1_ := RV.below a1 (ho.below lG hsz)
  have ot1_ := OwnV.only ot1 ho (by omega)
  have it1_ := Nat.le_trans it1 ho.size
  have oW_ := OwnV.only oW ho (by omega)
  have iW_ := Nat.le_trans iW ho.size
  have ox1_ := OwnV.only ox1 ho (by omega)
  have ix1_ := Nat.le_trans ix1 ho.size
  have iG_ := Nat.le_trans iG ho.size
  have ou1_ := OwnV.only ou1 ho (by omega)
  have iu1_ := Nat.le_trans iu1 ho.size
  clear hbel; have hbel := hbel_; clear hbel_
  clear a1; have a1 := a1_; clear a1_
  clear ot1; have ot1 := ot1_; clear ot1_
  clear it1; have it1 := it1_; clear it1_
  clear oW; have oW := oW_; clear oW_
  clear iW; have iW := iW_; clear iW_
  clear ox1; have ox1 := ox1_; clear ox1_
  clear ix1; have ix1 := ix1_; clear ix1_
  clear iG; have iG := iG_; clear iG_
  clear ou1; have ou1 := ou1_; clear ou1_
  clear iu1; have iu1 := iu1_; clear iu1_
  clear hsz
  clear oG; have oG := oG_; clear oG_ ho
  go_wp2_with fail
  refine (heldIntS_yes _ _ _ _ _ _ (OwnI.ri oG) (by omega) (by omega) (by omega)).mono ?_
  rintro e w_ ⟨rfl, rfl⟩
  go_wp2_with fail
  refine (toIntS_any A1 n1 c1 _ xs _ a1 hbel.size (by omega)).mono ?_
  rintro e w11 ⟨rfl, oy1, hb, hs⟩
  have ly1 : w.heap.size ≤ w10.heap.size := hbel.size
  have iy1 : w10.heap.size + 1 ≤ w11.heap.size := by rw [hs]; exact Nat.le_refl _
  clear hs
  have dt1y1 := it1
  have dWy1 := iW
  have dx1y1 := ix1
  have dGy1 := iG
  have du1y1 := iu1
  have hsz := hbel.size
  have hbel_ := hbel.trans (hb.mono hsz)
  have a1_ := RV.below a1 (hb.mono hsz)
  have ot1_ := OwnV.below ot1 hb it1
  have it1_ := Nat.le_trans it1 hb.size
  have oW_ := OwnV.below oW hb iW
  have iW_ := Nat.le_trans iW hb.size
  have ox1_ := OwnV.below ox1 hb ix1
  have ix1_ := Nat.le_trans ix1 hb.size
  have oG_ := OwnV.below oG hb iG
  have iG_ := Nat.le_trans iG hb.size
  have ou1_ := OwnV.below ou1 hb iu1
  have iu1_ := Nat.le_trans iu1 hb.size
  clear hbel; have hbel := hbel_; clear hbel_
  clear a1; have a1 := a1_; clear a1_
  clear ot1; have ot1 := ot1_; clear ot1_
  clear it1; have it1 := it1_; clear it1_
  clear oW; have oW := oW_; clear oW_
  clear iW; have iW := iW_; clear iW_
  clear ox1; have ox1 := ox1_; clear ox1_
  clear ix1; have ix1 := ix1_; clear ix1_
  clear oG; have oG := oG_; clear oG_
  clear iG; have iG := iG_; clear iG_
  clear ou1; have ou1 := ou1_; clear ou1_
  clear iu1; have iu1 := iu1_; clear iu1_
  clear hsz
  clear hb
  go_wp2_with fail
  refine (applyGain_impl g _ _ _ _ xs _ (OwnI.ri oy1) iy1 (by omega)).mono ?_
  rintro e w12 ⟨AH, nH, cH, rfl, oH, hb⟩
  have lH : w.heap.size ≤ w11.heap.size := hbel.size
  have iH : w12.heap.size ≤ w12.heap.size := Nat.le_refl _
  have dt1H := it1
  have dWH := iW
  have dx1H := ix1
  have dGH := iG
  have du1H := iu1
  have dy1H := iy1
  rw [← HV.out] at oH
  have zH : nH ≤ 1000000000 := by have := OwnI.len oH; omega
  have hsz := hbel.size
  have hbel_ := hbel.trans (hb.mono hsz)
  have a1_ := RV.below a1 (hb.mono hsz)
  have ot1_ := OwnV.below ot1 hb it1
  have it1_ := Nat.le_trans it1 hb.size
  have oW_ := OwnV.below oW hb iW
  have iW_ := Nat.le_trans iW hb.size
  have ox1_ := OwnV.below ox1 hb ix1
  have ix1_ := Nat.le_trans ix1 hb.size
  have oG_ := OwnV.below oG hb iG
  have iG_ := Nat.le_trans iG hb.size
  have ou1_ := OwnV.below ou1 hb iu1
  have iu1_ := Nat.le_trans iu1 hb.size
  have oy1_ := OwnV.below oy1 hb iy1
  have iy1_ := Nat.le_trans iy1 hb.size
  clear hbel; have hbel := hbel_; clear hbel_
  clear a1; have a1 := a1_; clear a1_
  clear ot1; have ot1 := ot1_; clear ot1_
  clear it1; have it1 := it1_; clear it1_
  clear oW; have oW := oW_; clear oW_
  clear iW; have iW := iW_; clear iW_
  clear ox1; have ox1 := ox1_; clear ox1_
  clear ix1; have ix1 := ix1_; clear ix1_
  clear oG; have oG := oG_; clear oG_
  clear iG; have iG := iG_; clear iG_
  clear ou1; have ou1 := ou1_; clear ou1_
  clear iu1; have iu1 := iu1_; clear iu1_
  clear oy1; have oy1 := oy1_; clear oy1_
  clear iy1; have iy1 := iy1_; clear iy1_
  clear hsz
  clear hb
  go_wp2_with fail
  refine (eqIntS_same _ _ _ _ _ _ _ _ _ _ (OwnI.ri oH) (OwnI.ri oW) (hlen)).mono ?_
  rintro e w13 ⟨rfl, hb⟩
  have hsz := hbel.size
  have hbel_ := hbel.trans (hb.mono hsz)
  have a1_ := RV.below a1 (hb.mono hsz)
  have ot1_ := OwnV.below ot1 hb it1
  have it1_ := Nat.le_trans it1 hb.size
  have oW_ := OwnV.below oW hb iW
  have iW_ := Nat.le_trans iW hb.size
  have ox1_ := OwnV.below ox1 hb ix1
  have ix1_ := Nat.le_trans ix1 hb.size
  have oG_ := OwnV.below oG hb iG
  have iG_ := Nat.le_trans iG hb.size
  have ou1_ := OwnV.below ou1 hb iu1
  have iu1_ := Nat.le_trans iu1 hb.size
  have oy1_ := OwnV.below oy1 hb iy1
  have iy1_ := Nat.le_trans iy1 hb.size
  have oH_ := OwnV.below oH hb iH
  have iH_ := Nat.le_trans iH hb.size
  clear hbel; have hbel := hbel_; clear hbel_
  clear a1; have a1 := a1_; clear a1_
  clear ot1; have ot1 := ot1_; clear ot1_
  clear it1; have it1 := it1_; clear it1_
  clear oW; have oW := oW_; clear oW_
  clear iW; have iW := iW_; clear iW_
  clear ox1; have ox1 := ox1_; clear ox1_
  clear ix1; have ix1 := ix1_; clear ix1_
  clear oG; have oG := oG_; clear oG_
  clear iG; have iG := iG_; clear iG_
  clear ou1; have ou1 := ou1_; clear ou1_
  clear iu1; have iu1 := iu1_; clear iu1_
  clear oy1; have oy1 := oy1_; clear oy1_
  clear iy1; have iy1 := iy1_; clear iy1_
  clear oH; have oH := oH_; clear oH_
  clear iH; have iH := iH_; clear iH_
  clear hsz
  clear hb
  go_wp2_with fail
  refine (heldIntS_yes _ _ _ _ _ _ (OwnI.ri oG) (by omega) (by omega) (by omega)).mono ?_
  rintro e w_ ⟨rfl, rfl⟩
  go_wp2
  go_ret
  exact ⟨rfl, hbel⟩

theorem fnExactApplyGain_walk (g : Int) (w0 : (Lit.int .i64 g).wf = true) {A1 : Option Addr} {n1 c1 : Nat} {xs : List Int} (w : World) (h1 : RV w w.heap.size A1 n1 (xs.map (Value.int .i64))) (wf1 : ∀ x ∈ xs, (Lit.int .i64 x).wf = true) (hl1 : n1 ≤ c1) (hm1 : c1 ≤ maxLen) :
    Calls Try.prog 5 #[.int .i64 g, .slice A1 n1 c1] w fun e w' => e = .returned (.bool true) ∧ Below w.heap.size w w' := by
  by_cases q1 : n1 ≤ 1048576
  · skip
    exact fnExactApplyGain_core w g w0 A1 n1 c1 xs h1 wf1 hl1 hm1 q1
  · unfold maxLen at *
    go_enter Try.func5, Try.ntmps5
    go_wp2
    go_ret
    exact ⟨rfl, Below.refl _ _⟩
end Go.Proofs.Ytdcljfpgjifijaa
