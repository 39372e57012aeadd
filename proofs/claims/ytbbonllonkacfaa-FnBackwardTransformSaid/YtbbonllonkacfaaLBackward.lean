/-
  FnBackwardTransform, walked: every list is a transform.
-/
import Derived.Test.YtbbonllonkacfaaDTra
import Derived.Test.YtbbonllonkacfaaAlive
import Derived.Test.YtbbonllonkacfaaTraD
import Derived.Test.YtbbonllonkacfaaLTra
namespace Go.Proofs.Ytbbonllonkacfaa
open Go.RowKit
set_option linter.unusedVariables false

set_option maxHeartbeats 1600000 in
theorem fnBackwardTransform_walk {A : Option Addr} {n c : Nat} {bs : List Int} (w : World) (h : RV w w.heap.size A n (bs.map (Value.int .u8))) (wf : ∀ x ∈ bs, (Lit.int .u8 x).wf = true) (hl : n ≤ c) (hm : c ≤ maxLen) :
    Calls Try.prog 8 #[.slice A n c] w fun e w' => e = .returned (.bool true) ∧ Below w.heap.size w w' := by
  unfold maxLen at hm
  by_cases hn : n ≤ 1048576
  · have hd := drawBackwardTransform_any A n c w.heap.size bs w h (Nat.le_refl _) hl hn (fun x hx => bounds_u8 (wf x hx))
    clear wf h
    have hbel : Below w.heap.size w w := Below.refl _ _
    go_enter Try.func8, Try.ntmps8
    go_wp2_with fail
    refine (hd).mono ?_
    rintro e w1 ⟨A1, n1, c1, xs, rfl, hr, hz1, hb⟩
    have nX := hr
    have hbel_ := Below.next hbel hb; clear hbel; have hbel := hbel_; clear hbel_
    clear hb
    have rX := nX; clear nX
    clear hd hr
    have LX := hid (RI.len rX)
    obtain ⟨V, HV⟩ : ∃ V, Hid (V = backward xs) := ⟨_, hid rfl⟩
    have hVl : V.length ≤ 16 := by rw [HV.out]; exact backward_len _
    go_wp2_with fail
    refine (backward_impl _ _ _ _ xs _ rX (Nat.le_refl _) (by omega)).mono ?_
    rintro e w2 ⟨A2, n2, c2, rfl, ho, hb⟩
    have nV := OwnI.ri (by rw [← HV.out] at ho; exact ho)
    have hbel_ := Below.next hbel hb; clear hbel; have hbel := hbel_; clear hbel_
    have rX_ := RV.next rX hb; clear rX; have rX := rX_; clear rX_
    clear hb
    have rV := nV; clear nV
    clear ho
    have LV := hid (RI.len rV)
    have hn2 : n2 ≤ 16 := by have := LV.out; omega
    go_wp2_with fail
    refine (backward_spec _ _ _ _ xs _ rX (by omega) (Nat.le_refl _)).mono ?_
    rintro e w3 ⟨A3, n3, c3, rfl, ho, hb⟩
    have nW := OwnI.ri (by rw [← HV.out] at ho; exact ho)
    have hbel_ := Below.next hbel hb; clear hbel; have hbel := hbel_; clear hbel_
    have rX_ := RV.next rX hb; clear rX; have rX := rX_; clear rX_
    have rV_ := RV.next rV hb; clear rV; have rV := rV_; clear rV_
    clear hb
    have rW := nW; clear nW
    clear ho
    go_wp2_with fail
    refine (sameInts_same _ _ _ _ _ _ _ _ _ _ rV rW (by omega)).mono ?_
    rintro e w4 ⟨rfl, hb⟩
    have hbel_ := Below.next hbel hb; clear hbel; have hbel := hbel_; clear hbel_
    have rX_ := RV.next rX hb; clear rX; have rX := rX_; clear rX_
    have rV_ := RV.next rV hb; clear rV; have rV := rV_; clear rV_
    have rW_ := RV.next rW hb; clear rW; have rW := rW_; clear rW_
    clear hb
    clear rW
    rcases Nat.eq_zero_or_pos n2 with hz | hpos
    · subst hz
      go_wp2_with fail
      refine (alive_any _).mono ?_
      rintro e w5 ⟨rfl, hb⟩
      have hbel_ := Below.next hbel hb; clear hbel; have hbel := hbel_; clear hbel_
      have rX_ := RV.next rX hb; clear rX; have rX := rX_; clear rX_
      have rV_ := RV.next rV hb; clear rV; have rV := rV_; clear rV_
      clear hb
      go_wp2
      go_ret
      exact ⟨rfl, hbel⟩
    · have hb0 : ((n2 : Int) == 0) = false := by simp; omega
      have hok := backward_ok (ne_nil HV.out LV.out hpos)
      have HF : Hid (forward V = xs) := hid (by rw [HV.out]; exact forth_back hok)
      clear hok
      go_wp2_with fail
      refine (forward_impl _ _ _ _ V _ rV (Nat.le_refl _) (by omega)).mono ?_
      rintro e w5 ⟨A4, n4, c4, rfl, ho, hb⟩
      have nF := OwnI.ri (by rw [HF.out] at ho; exact ho)
      have hbel_ := Below.next hbel hb; clear hbel; have hbel := hbel_; clear hbel_
      have rX_ := RV.next rX hb; clear rX; have rX := rX_; clear rX_
      have rV_ := RV.next rV hb; clear rV; have rV := rV_; clear rV_
      clear hb
      have rF := nF; clear nF
      clear ho
      go_wp2_with fail
      refine (sameInts_same _ _ _ _ _ _ _ _ _ _ rF rX (by have := LX.out; omega)).mono ?_
      rintro e w6 ⟨rfl, hb⟩
      have hbel_ := Below.next hbel hb; clear hbel; have hbel := hbel_; clear hbel_
      have rX_ := RV.next rX hb; clear rX; have rX := rX_; clear rX_
      have rV_ := RV.next rV hb; clear rV; have rV := rV_; clear rV_
      have rF_ := RV.next rF hb; clear rF; have rF := rF_; clear rF_
      clear hb
      go_wp2
      go_ret
      exact ⟨rfl, hbel⟩
  · go_enter Try.func8, Try.ntmps8
    go_wp2
    go_ret
    exact ⟨rfl, Below.refl _ _⟩
end Go.Proofs.Ytbbonllonkacfaa
