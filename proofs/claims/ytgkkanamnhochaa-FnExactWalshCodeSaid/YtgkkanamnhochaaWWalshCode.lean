/-
  FnExactWalshCode, walked: the program's WalshCode returns what the reference's returns; it changes no argument; its result is memory of its own.
-/
import Derived.Test.YtgkkanamnhochaaExact
import Derived.Test.YtgkkanamnhochaaWalshI
namespace Go.Proofs.Ytgkkanamnhochaa
open Go.RowKit
set_option linter.unusedVariables false

set_option maxHeartbeats 1600000 in
theorem fnExactWalshCode_core (w : World) (k : Int) (_w0 : (Lit.int .i64 k).wf = true) (hn : True) :
    Calls Try.prog 3 #[.int .i64 k] w fun e w' => e = .returned (.bool true) ∧ Below w.heap.size w w' := by
  clear hn
  have hbel : Below w.heap.size w w := Below.refl _ _
  have hlen : (walshCode k).length ≤ 1000000000 := by unfold walshCode; split <;> simp [walsh]
  obtain ⟨V, hV⟩ : ∃ V, V = walshCode k := ⟨_, rfl⟩
  have HV := hid hV
  rw [← hV] at hlen
  clear hV
  go_enter Try.func3, Try.ntmps3
  go_wp2_with fail
  refine (walshCode_spec k _).mono ?_
  rintro e w1 ⟨AW, nW, cW, rfl, oW, hb⟩
  have lW : w.heap.size ≤ w.heap.size := hbel.size
  have iW : w1.heap.size ≤ w1.heap.size := Nat.le_refl _
  rw [← HV.out] at oW
  have zW : nW ≤ 1000000000 := by have := OwnI.len oW; omega
  have hsz := hbel.size
  have hbel_ := hbel.trans (hb.mono hsz)
  clear hbel; have hbel := hbel_; clear hbel_
  clear hsz
  clear hb
  go_wp2_with fail
  refine (walshCode_impl k _).mono ?_
  rintro e w2 ⟨AG, nG, cG, rfl, oG, hb⟩
  have lG : w.heap.size ≤ w1.heap.size := hbel.size
  have iG : w2.heap.size ≤ w2.heap.size := Nat.le_refl _
  have dWG := iW
  rw [← HV.out] at oG
  have zG : nG ≤ 1000000000 := by have := OwnI.len oG; omega
  have hsz := hbel.size
  have hbel_ := hbel.trans (hb.mono hsz)
  have oW_ := OwnV.below oW hb iW
  have iW_ := Nat.le_trans iW hb.size
  clear hbel; have hbel := hbel_; clear hbel_
  clear oW; have oW := oW_; clear oW_
  clear iW; have iW := iW_; clear iW_
  clear hsz
  clear hb
  go_wp2_with fail
  refine (eqIntS_same _ _ _ _ _ _ _ _ _ _ (OwnI.ri oG) (OwnI.ri oW) (hlen)).mono ?_
  rintro e w3 ⟨rfl, hb⟩
  have hsz := hbel.size
  have hbel_ := hbel.trans (hb.mono hsz)
  have oW_ := OwnV.below oW hb iW
  have iW_ := Nat.le_trans iW hb.size
  have oG_ := OwnV.below oG hb iG
  have iG_ := Nat.le_trans iG hb.size
  clear hbel; have hbel := hbel_; clear hbel_
  clear oW; have oW := oW_; clear oW_
  clear iW; have iW := iW_; clear iW_
  clear oG; have oG := oG_; clear oG_
  clear iG; have iG := iG_; clear iG_
  clear hsz
  clear hb
  go_wp2_with fail
  refine (markIntS_any _ _ _ _ _ _ _ _ oG (by omega) (by omega) (by omega)).mono ?_
  rintro e w4 ⟨rfl, oG_, ho, hs⟩
  clear hs
  have hsz := hbel.size
  have hbel_ := hbel.trans (ho.below lG hsz)
  have oW_ := OwnV.only oW ho (by omega)
  have iW_ := Nat.le_trans iW ho.size
  have iG_ := Nat.le_trans iG ho.size
  clear hbel; have hbel := hbel_; clear hbel_
  clear oW; have oW := oW_; clear oW_
  clear iW; have iW := iW_; clear iW_
  clear iG; have iG := iG_; clear iG_
  clear hsz
  clear oG; have oG := oG_; clear oG_ ho
  go_wp2_with fail
  refine (heldIntS_yes _ _ _ _ _ _ (OwnI.ri oG) (by omega) (by omega) (by omega)).mono ?_
  rintro e w_ ⟨rfl, rfl⟩
  go_wp2_with fail
  refine (walshCode_impl k _).mono ?_
  rintro e w5 ⟨AH, nH, cH, rfl, oH, hb⟩
  have lH : w.heap.size ≤ w4.heap.size := hbel.size
  have iH : w5.heap.size ≤ w5.heap.size := Nat.le_refl _
  have dWH := iW
  have dGH := iG
  rw [← HV.out] at oH
  have zH : nH ≤ 1000000000 := by have := OwnI.len oH; omega
  have hsz := hbel.size
  have hbel_ := hbel.trans (hb.mono hsz)
  have oW_ := OwnV.below oW hb iW
  have iW_ := Nat.le_trans iW hb.size
  have oG_ := OwnV.below oG hb iG
  have iG_ := Nat.le_trans iG hb.size
  clear hbel; have hbel := hbel_; clear hbel_
  clear oW; have oW := oW_; clear oW_
  clear iW; have iW := iW_; clear iW_
  clear oG; have oG := oG_; clear oG_
  clear iG; have iG := iG_; clear iG_
  clear hsz
  clear hb
  go_wp2_with fail
  refine (eqIntS_same _ _ _ _ _ _ _ _ _ _ (OwnI.ri oH) (OwnI.ri oW) (hlen)).mono ?_
  rintro e w6 ⟨rfl, hb⟩
  have hsz := hbel.size
  have hbel_ := hbel.trans (hb.mono hsz)
  have oW_ := OwnV.below oW hb iW
  have iW_ := Nat.le_trans iW hb.size
  have oG_ := OwnV.below oG hb iG
  have iG_ := Nat.le_trans iG hb.size
  have oH_ := OwnV.below oH hb iH
  have iH_ := Nat.le_trans iH hb.size
  clear hbel; have hbel := hbel_; clear hbel_
  clear oW; have oW := oW_; clear oW_
  clear iW; have iW := iW_; clear iW_
  clear oG; have oG := oG_; clear oG_
  clear iG; have iG := iG_; clear iG_
  clear oH; have oH := oH_; clear oH_
  clear iH; have iH := iH_; clear iH_
  clear hsz
  clear hb
  go_wp2_with fail
  refine (heldIntS_yes _ _ _ _ _ _ (OwnI.ri oG) (by omega) (by omega) (by omega)).mono ?_
  rintro e w_ ⟨rfl, rfl⟩
  go_wp2
  go_ret
  exact ⟨rfl, hbel⟩

theorem fnExactWalshCode_walk (k : Int) (w0 : (Lit.int .i64 k).wf = true) (w : World)  :
    Calls Try.prog 3 #[.int .i64 k] w fun e w' => e = .returned (.bool true) ∧ Below w.heap.size w w' := by
  exact fnExactWalshCode_core w k w0 trivial
end Go.Proofs.Ytgkkanamnhochaa
