/-
  FnExactAccessRun, walked: the program's AccessRun returns what the reference's returns; it changes no argument; its result is memory of its own.
-/
import Derived.Test.YtnebmfdjcikegaaExact
import Derived.Test.YtnebmfdjcikegaaAccS
namespace Go.Proofs.Ytnebmfdjcikegaa
open Go.RowKit
set_option linter.unusedVariables false

set_option maxHeartbeats 1600000 in
theorem fnExactAccessRun_core (w : World) (A0 : Option Addr) (n0 c0 : Nat) (xs : List Int) (h0 : RV w w.heap.size A0 n0 (xs.map (Value.int .i64))) (_wf0 : ∀ x ∈ xs, (Lit.int .i64 x).wf = true) (_hl0 : n0 ≤ c0) (_hm0 : c0 ≤ maxLen) (hn : n0 ≤ 1048576) :
    Calls Try.prog 9 #[.slice A0 n0 c0] w fun e w' => e = .returned (.bool true) ∧ Below w.heap.size w w' := by
  have hN0 : n0 ≤ 1048576 := hn
  clear hn
  have hbel : Below w.heap.size w w := Below.refl _ _
  have hlen : (runI xs).length ≤ 1000000000 := Nat.le_trans (runI_len _) (by omega)
  obtain ⟨V, hV⟩ : ∃ V, V = runI xs := ⟨_, rfl⟩
  have HV := hid hV
  rw [← hV] at hlen
  clear hV
  have a0 : RI w w.heap.size A0 n0 xs := h0
  clear h0
  go_enter Try.func9, Try.ntmps9
  go_wp2_with fail
  refine (toIntS_any A0 n0 c0 _ xs _ a0 hbel.size (by omega)).mono ?_
  rintro e w1 ⟨rfl, ot0, hb, hs⟩
  have lt0 : w.heap.size ≤ w.heap.size := hbel.size
  have it0 : w.heap.size + 1 ≤ w1.heap.size := by rw [hs]; exact Nat.le_refl _
  clear hs
  have hsz := hbel.size
  have hbel_ := hbel.trans (hb.mono hsz)
  have a0_ := RV.below a0 (hb.mono hsz)
  clear hbel; have hbel := hbel_; clear hbel_
  clear a0; have a0 := a0_; clear a0_
  clear hsz
  clear hb
  go_wp2_with fail
  refine (accessRun_spec _ _ _ _ xs _ (OwnI.ri ot0) it0 (by omega)).mono ?_
  rintro e w2 ⟨AW, nW, cW, rfl, oW, hb⟩
  have lW : w.heap.size ≤ w1.heap.size := hbel.size
  have iW : w2.heap.size ≤ w2.heap.size := Nat.le_refl _
  have dt0W := it0
  rw [← HV.out] at oW
  have zW : nW ≤ 1000000000 := by have := OwnI.len oW; omega
  have hsz := hbel.size
  have hbel_ := hbel.trans (hb.mono hsz)
  have a0_ := RV.below a0 (hb.mono hsz)
  have ot0_ := OwnV.below ot0 hb it0
  have it0_ := Nat.le_trans it0 hb.size
  clear hbel; have hbel := hbel_; clear hbel_
  clear a0; have a0 := a0_; clear a0_
  clear ot0; have ot0 := ot0_; clear ot0_
  clear it0; have it0 := it0_; clear it0_
  clear hsz
  clear hb
  go_wp2_with fail
  refine (toIntS_any A0 n0 c0 _ xs _ a0 hbel.size (by omega)).mono ?_
  rintro e w3 ⟨rfl, ox0, hb, hs⟩
  have lx0 : w.heap.size ≤ w2.heap.size := hbel.size
  have ix0 : w2.heap.size + 1 ≤ w3.heap.size := by rw [hs]; exact Nat.le_refl _
  clear hs
  have dt0x0 := it0
  have dWx0 := iW
  have hsz := hbel.size
  have hbel_ := hbel.trans (hb.mono hsz)
  have a0_ := RV.below a0 (hb.mono hsz)
  have ot0_ := OwnV.below ot0 hb it0
  have it0_ := Nat.le_trans it0 hb.size
  have oW_ := OwnV.below oW hb iW
  have iW_ := Nat.le_trans iW hb.size
  clear hbel; have hbel := hbel_; clear hbel_
  clear a0; have a0 := a0_; clear a0_
  clear ot0; have ot0 := ot0_; clear ot0_
  clear it0; have it0 := it0_; clear it0_
  clear oW; have oW := oW_; clear oW_
  clear iW; have iW := iW_; clear iW_
  clear hsz
  clear hb
  go_wp2_with fail
  refine (accessRun_impl _ _ _ _ xs _ (OwnI.ri ox0) ix0 (by omega)).mono ?_
  rintro e w4 ⟨AG, nG, cG, rfl, oG, hb⟩
  have lG : w.heap.size ≤ w3.heap.size := hbel.size
  have iG : w4.heap.size ≤ w4.heap.size := Nat.le_refl _
  have dt0G := it0
  have dWG := iW
  have dx0G := ix0
  rw [← HV.out] at oG
  have zG : nG ≤ 1000000000 := by have := OwnI.len oG; omega
  have hsz := hbel.size
  have hbel_ := hbel.trans (hb.mono hsz)
  have a0_ := RV.below a0 (hb.mono hsz)
  have ot0_ := OwnV.below ot0 hb it0
  have it0_ := Nat.le_trans it0 hb.size
  have oW_ := OwnV.below oW hb iW
  have iW_ := Nat.le_trans iW hb.size
  have ox0_ := OwnV.below ox0 hb ix0
  have ix0_ := Nat.le_trans ix0 hb.size
  clear hbel; have hbel := hbel_; clear hbel_
  clear a0; have a0 := a0_; clear a0_
  clear ot0; have ot0 := ot0_; clear ot0_
  clear it0; have it0 := it0_; clear it0_
  clear oW; have oW := oW_; clear oW_
  clear iW; have iW := iW_; clear iW_
  clear ox0; have ox0 := ox0_; clear ox0_
  clear ix0; have ix0 := ix0_; clear ix0_
  clear hsz
  clear hb
  go_wp2_with fail
  refine (eqIntS_same _ _ _ _ _ _ _ _ _ _ (OwnI.ri oG) (OwnI.ri oW) (hlen)).mono ?_
  rintro e w5 ⟨rfl, hb⟩
  have hsz := hbel.size
  have hbel_ := hbel.trans (hb.mono hsz)
  have a0_ := RV.below a0 (hb.mono hsz)
  have ot0_ := OwnV.below ot0 hb it0
  have it0_ := Nat.le_trans it0 hb.size
  have oW_ := OwnV.below oW hb iW
  have iW_ := Nat.le_trans iW hb.size
  have ox0_ := OwnV.below ox0 hb ix0
  have ix0_ := Nat.le_trans ix0 hb.size
  have oG_ := OwnV.below oG hb iG
  have iG_ := Nat.le_trans iG hb.size
  clear hbel; have hbel := hbel_; clear hbel_
  clear a0; have a0 := a0_; clear a0_
  clear ot0; have ot0 := ot0_; clear ot0_
  clear it0; have it0 := it0_; clear it0_
  clear oW; have oW := oW_; clear oW_
  clear iW; have iW := iW_; clear iW_
  clear ox0; have ox0 := ox0_; clear ox0_
  clear ix0; have ix0 := ix0_; clear ix0_
  clear oG; have oG := oG_; clear oG_
  clear iG; have iG := iG_; clear iG_
  clear hsz
  clear hb
  go_wp2_with fail
  refine (toIntS_any A0 n0 c0 _ xs _ a0 hbel.size (by omega)).mono ?_
  rintro e w6 ⟨rfl, ou0, hb, hs⟩
  have lu0 : w.heap.size ≤ w5.heap.size := hbel.size
  have iu0 : w5.heap.size + 1 ≤ w6.heap.size := by rw [hs]; exact Nat.le_refl _
  clear hs
  have dt0u0 := it0
  have dWu0 := iW
  have dx0u0 := ix0
  have dGu0 := iG
  have hsz := hbel.size
  have hbel_ := hbel.trans (hb.mono hsz)
  have a0_ := RV.below a0 (hb.mono hsz)
  have ot0_ := OwnV.below ot0 hb it0
  have it0_ := Nat.le_trans it0 hb.size
  have oW_ := OwnV.below oW hb iW
  have iW_ := Nat.le_trans iW hb.size
  have ox0_ := OwnV.below ox0 hb ix0
  have ix0_ := Nat.le_trans ix0 hb.size
  have oG_ := OwnV.below oG hb iG
  have iG_ := Nat.le_trans iG hb.size
  clear hbel; have hbel := hbel_; clear hbel_
  clear a0; have a0 := a0_; clear a0_
  clear ot0; have ot0 := ot0_; clear ot0_
  clear it0; have it0 := it0_; clear it0_
  clear oW; have oW := oW_; clear oW_
  clear iW; have iW := iW_; clear iW_
  clear ox0; have ox0 := ox0_; clear ox0_
  clear ix0; have ix0 := ix0_; clear ix0_
  clear oG; have oG := oG_; clear oG_
  clear iG; have iG := iG_; clear iG_
  clear hsz
  clear hb
  go_wp2_with fail
  refine (eqIntS_same _ _ _ _ _ _ _ _ _ _ (OwnI.ri ox0) (OwnI.ri ou0) (by have := RI.len a0; omega)).mono ?_
  rintro e w7 ⟨rfl, hb⟩
  have hsz := hbel.size
  have hbel_ := hbel.trans (hb.mono hsz)
  have a0_ := RV.below a0 (hb.mono hsz)
  have ot0_ := OwnV.below ot0 hb it0
  have it0_ := Nat.le_trans it0 hb.size
  have oW_ := OwnV.below oW hb iW
  have iW_ := Nat.le_trans iW hb.size
  have ox0_ := OwnV.below ox0 hb ix0
  have ix0_ := Nat.le_trans ix0 hb.size
  have oG_ := OwnV.below oG hb iG
  have iG_ := Nat.le_trans iG hb.size
  have ou0_ := OwnV.below ou0 hb iu0
  have iu0_ := Nat.le_trans iu0 hb.size
  clear hbel; have hbel := hbel_; clear hbel_
  clear a0; have a0 := a0_; clear a0_
  clear ot0; have ot0 := ot0_; clear ot0_
  clear it0; have it0 := it0_; clear it0_
  clear oW; have oW := oW_; clear oW_
  clear iW; have iW := iW_; clear iW_
  clear ox0; have ox0 := ox0_; clear ox0_
  clear ix0; have ix0 := ix0_; clear ix0_
  clear oG; have oG := oG_; clear oG_
  clear iG; have iG := iG_; clear iG_
  clear ou0; have ou0 := ou0_; clear ou0_
  clear iu0; have iu0 := iu0_; clear iu0_
  clear hsz
  clear hb
  go_wp2_with fail
  refine (markIntS_any _ _ _ _ _ _ _ _ ox0 (by omega) (by omega) (by omega)).mono ?_
  rintro e w8 ⟨rfl, ox0_, ho, hs⟩
  clear hs
  have hsz := hbel.size
  have hbel_ := hbel.trans (ho.below lx0 hsz)
  have a0_ := RV.below a0 (ho.below lx0 hsz)
  have ot0_ := OwnV.only ot0 ho (by omega)
  have it0_ := Nat.le_trans it0 ho.size
  have oW_ := OwnV.only oW ho (by omega)
  have iW_ := Nat.le_trans iW ho.size
  have ix0_ := Nat.le_trans ix0 ho.size
  have oG_ := OwnV.only oG ho (by omega)
  have iG_ := Nat.le_trans iG ho.size
  have ou0_ := OwnV.only ou0 ho (by omega)
  have iu0_ := Nat.le_trans iu0 ho.size
  clear hbel; have hbel := hbel_; clear hbel_
  clear a0; have a0 := a0_; clear a0_
  clear ot0; have ot0 := ot0_; clear ot0_
  clear it0; have it0 := it0_; clear it0_
  clear oW; have oW := oW_; clear oW_
  clear iW; have iW := iW_; clear iW_
  clear ix0; have ix0 := ix0_; clear ix0_
  clear oG; have oG := oG_; clear oG_
  clear iG; have iG := iG_; clear iG_
  clear ou0; have ou0 := ou0_; clear ou0_
  clear iu0; have iu0 := iu0_; clear iu0_
  clear hsz
  clear ox0; have ox0 := ox0_; clear ox0_ ho
  go_wp2_with fail
  refine (eqIntS_same _ _ _ _ _ _ _ _ _ _ (OwnI.ri oG) (OwnI.ri oW) (hlen)).mono ?_
  rintro e w9 ⟨rfl, hb⟩
  have hsz := hbel.size
  have hbel_ := hbel.trans (hb.mono hsz)
  have a0_ := RV.below a0 (hb.mono hsz)
  have ot0_ := OwnV.below ot0 hb it0
  have it0_ := Nat.le_trans it0 hb.size
  have oW_ := OwnV.below oW hb iW
  have iW_ := Nat.le_trans iW hb.size
  have ox0_ := OwnV.below ox0 hb ix0
  have ix0_ := Nat.le_trans ix0 hb.size
  have oG_ := OwnV.below oG hb iG
  have iG_ := Nat.le_trans iG hb.size
  have ou0_ := OwnV.below ou0 hb iu0
  have iu0_ := Nat.le_trans iu0 hb.size
  clear hbel; have hbel := hbel_; clear hbel_
  clear a0; have a0 := a0_; clear a0_
  clear ot0; have ot0 := ot0_; clear ot0_
  clear it0; have it0 := it0_; clear it0_
  clear oW; have oW := oW_; clear oW_
  clear iW; have iW := iW_; clear iW_
  clear ox0; have ox0 := ox0_; clear ox0_
  clear ix0; have ix0 := ix0_; clear ix0_
  clear oG; have oG := oG_; clear oG_
  clear iG; have iG := iG_; clear iG_
  clear ou0; have ou0 := ou0_; clear ou0_
  clear iu0; have iu0 := iu0_; clear iu0_
  clear hsz
  clear hb
  go_wp2_with fail
  refine (markIntS_any _ _ _ _ _ _ _ _ oG (by omega) (by omega) (by omega)).mono ?_
  rintro e w10 ⟨rfl, oG_, ho, hs⟩
  clear hs
  have hsz := hbel.size
  have hbel_ := hbel.trans (ho.below lG hsz)
  have a0_ := RV.below a0 (ho.below lG hsz)
  have ot0_ := OwnV.only ot0 ho (by omega)
  have it0_ := Nat.le_trans it0 ho.size
  have oW_ := OwnV.only oW ho (by omega)
  have iW_ := Nat.le_trans iW ho.size
  have ox0_ := OwnV.only ox0 ho (by omega)
  have ix0_ := Nat.le_trans ix0 ho.size
  have iG_ := Nat.le_trans iG ho.size
  have ou0_ := OwnV.only ou0 ho (by omega)
  have iu0_ := Nat.le_trans iu0 ho.size
  clear hbel; have hbel := hbel_; clear hbel_
  clear a0; have a0 := a0_; clear a0_
  clear ot0; have ot0 := ot0_; clear ot0_
  clear it0; have it0 := it0_; clear it0_
  clear oW; have oW := oW_; clear oW_
  clear iW; have iW := iW_; clear iW_
  clear ox0; have ox0 := ox0_; clear ox0_
  clear ix0; have ix0 := ix0_; clear ix0_
  clear iG; have iG := iG_; clear iG_
  clear ou0; have ou0 := ou0_; clear ou0_
  clear iu0; have iu0 := iu0_; clear iu0_
  clear hsz
  clear oG; have oG := oG_; clear oG_ ho
  go_wp2_with fail
  refine (heldIntS_yes _ _ _ _ _ _ (OwnI.ri oG) (by omega) (by omega) (by omega)).mono ?_
  rintro e w_ ⟨rfl, rfl⟩
  go_wp2_with fail
  refine (toIntS_any A0 n0 c0 _ xs _ a0 hbel.size (by omega)).mono ?_
  rintro e w11 ⟨rfl, oy0, hb, hs⟩
  have ly0 : w.heap.size ≤ w10.heap.size := hbel.size
  have iy0 : w10.heap.size + 1 ≤ w11.heap.size := by rw [hs]; exact Nat.le_refl _
  clear hs
  have dt0y0 := it0
  have dWy0 := iW
  have dx0y0 := ix0
  have dGy0 := iG
  have du0y0 := iu0
  have hsz := hbel.size
  have hbel_ := hbel.trans (hb.mono hsz)
  have a0_ := RV.below a0 (hb.mono hsz)
  have ot0_ := OwnV.below ot0 hb it0
  have it0_ := Nat.le_trans it0 hb.size
  have oW_ := OwnV.below oW hb iW
  have iW_ := Nat.le_trans iW hb.size
  have ox0_ := OwnV.below ox0 hb ix0
  have ix0_ := Nat.le_trans ix0 hb.size
  have oG_ := OwnV.below oG hb iG
  have iG_ := Nat.le_trans iG hb.size
  have ou0_ := OwnV.below ou0 hb iu0
  have iu0_ := Nat.le_trans iu0 hb.size
  clear hbel; have hbel := hbel_; clear hbel_
  clear a0; have a0 := a0_; clear a0_
  clear ot0; have ot0 := ot0_; clear ot0_
  clear it0; have it0 := it0_; clear it0_
  clear oW; have oW := oW_; clear oW_
  clear iW; have iW := iW_; clear iW_
  clear ox0; have ox0 := ox0_; clear ox0_
  clear ix0; have ix0 := ix0_; clear ix0_
  clear oG; have oG := oG_; clear oG_
  clear iG; have iG := iG_; clear iG_
  clear ou0; have ou0 := ou0_; clear ou0_
  clear iu0; have iu0 := iu0_; clear iu0_
  clear hsz
  clear hb
  go_wp2_with fail
  refine (accessRun_impl _ _ _ _ xs _ (OwnI.ri oy0) iy0 (by omega)).mono ?_
  rintro e w12 ⟨AH, nH, cH, rfl, oH, hb⟩
  have lH : w.heap.size ≤ w11.heap.size := hbel.size
  have iH : w12.heap.size ≤ w12.heap.size := Nat.le_refl _
  have dt0H := it0
  have dWH := iW
  have dx0H := ix0
  have dGH := iG
  have du0H := iu0
  have dy0H := iy0
  rw [← HV.out] at oH
  have zH : nH ≤ 1000000000 := by have := OwnI.len oH; omega
  have hsz := hbel.size
  have hbel_ := hbel.trans (hb.mono hsz)
  have a0_ := RV.below a0 (hb.mono hsz)
  have ot0_ := OwnV.below ot0 hb it0
  have it0_ := Nat.le_trans it0 hb.size
  have oW_ := OwnV.below oW hb iW
  have iW_ := Nat.le_trans iW hb.size
  have ox0_ := OwnV.below ox0 hb ix0
  have ix0_ := Nat.le_trans ix0 hb.size
  have oG_ := OwnV.below oG hb iG
  have iG_ := Nat.le_trans iG hb.size
  have ou0_ := OwnV.below ou0 hb iu0
  have iu0_ := Nat.le_trans iu0 hb.size
  have oy0_ := OwnV.below oy0 hb iy0
  have iy0_ := Nat.le_trans iy0 hb.size
  clear hbel; have hbel := hbel_; clear hbel_
  clear a0; have a0 := a0_; clear a0_
  clear ot0; have ot0 := ot0_; clear ot0_
  clear it0; have it0 := it0_; clear it0_
  clear oW; have oW := oW_; clear oW_
  clear iW; have iW := iW_; clear iW_
  clear ox0; have ox0 := ox0_; clear ox0_
  clear ix0; have ix0 := ix0_; clear ix0_
  clear oG; have oG := oG_; clear oG_
  clear iG; have iG := iG_; clear iG_
  clear ou0; have ou0 := ou0_; clear ou0_
  clear iu0; have iu0 := iu0_; clear iu0_
  clear oy0; have oy0 := oy0_; clear oy0_
  clear iy0; have iy0 := iy0_; clear iy0_
  clear hsz
  clear hb
  go_wp2_with fail
  refine (eqIntS_same _ _ _ _ _ _ _ _ _ _ (OwnI.ri oH) (OwnI.ri oW) (hlen)).mono ?_
  rintro e w13 ⟨rfl, hb⟩
  have hsz := hbel.size
  have hbel_ := hbel.trans (hb.mono hsz)
  have a0_ := RV.below a0 (hb.mono hsz)
  have ot0_ := OwnV.below ot0 hb it0
  have it0_ := Nat.le_trans it0 hb.size
  have oW_ := OwnV.below oW hb iW
  have iW_ := Nat.le_trans iW hb.size
  have ox0_ := OwnV.below ox0 hb ix0
  have ix0_ := Nat.le_trans ix0 hb.size
  have oG_ := OwnV.below oG hb iG
  have iG_ := Nat.le_trans iG hb.size
  have ou0_ := OwnV.below ou0 hb iu0
  have iu0_ := Nat.le_trans iu0 hb.size
  have oy0_ := OwnV.below oy0 hb iy0
  have iy0_ := Nat.le_trans iy0 hb.size
  have oH_ := OwnV.below oH hb iH
  have iH_ := Nat.le_trans iH hb.size
  clear hbel; have hbel := hbel_; clear hbel_
  clear a0; have a0 := a0_; clear a0_
  clear ot0; have ot0 := ot0_; clear ot0_
  clear it0; have it0 := it0_; clear it0_
  clear oW; have oW := oW_; clear oW_
  clear iW; have iW := iW_; clear iW_
  clear ox0; have ox0 := ox0_; clear ox0_
  clear ix0; have ix0 := ix0_; clear ix0_
  clear oG; have oG := oG_; clear oG_
  clear iG; have iG := iG_; clear iG_
  clear ou0; have ou0 := ou0_; clear ou0_
  clear iu0; have iu0 := iu0_; clear iu0_
  clear oy0; have oy0 := oy0_; clear oy0_
  clear iy0; have iy0 := iy0_; clear iy0_
  clear oH; have oH := oH_; clear oH_
  clear iH; have iH := iH_; clear iH_
  clear hsz
  clear hb
  go_wp2_with fail
  refine (heldIntS_yes _ _ _ _ _ _ (OwnI.ri oG) (by omega) (by omega) (by omega)).mono ?_
  rintro e w_ ⟨rfl, rfl⟩
  go_wp2
  go_ret
  exact ⟨rfl, hbel⟩

theorem fnExactAccessRun_walk {A0 : Option Addr} {n0 c0 : Nat} {xs : List Int} (w : World) (h0 : RV w w.heap.size A0 n0 (xs.map (Value.int .i64))) (wf0 : ∀ x ∈ xs, (Lit.int .i64 x).wf = true) (hl0 : n0 ≤ c0) (hm0 : c0 ≤ maxLen) :
    Calls Try.prog 9 #[.slice A0 n0 c0] w fun e w' => e = .returned (.bool true) ∧ Below w.heap.size w w' := by
  by_cases q0 : n0 ≤ 1048576
  · skip
    exact fnExactAccessRun_core w A0 n0 c0 xs h0 wf0 hl0 hm0 q0
  · unfold maxLen at *
    go_enter Try.func9, Try.ntmps9
    go_wp2
    go_ret
    exact ⟨rfl, Below.refl _ _⟩
end Go.Proofs.Ytnebmfdjcikegaa
