/-
  FnTransformTwice, walked: the transform of the transform has, at place k, Points times the number at place -k modulo Points.
-/
import Derived.Test.YtbbonllonkacfaaDTra
import Derived.Test.YtbbonllonkacfaaAlive
import Derived.Test.YtbbonllonkacfaaTraD
import Derived.Test.YtbbonllonkacfaaLTra
namespace Go.Proofs.Ytbbonllonkacfaa
open Go.RowKit
set_option linter.unusedVariables false

set_option maxHeartbeats 1600000 in
theorem fnTransformTwice_walk {A : Option Addr} {n c : Nat} {bs : List Int} (w : World) (h : RV w w.heap.size A n (bs.map (Value.int .u8))) (wf : ∀ x ∈ bs, (Lit.int .u8 x).wf = true) (hl : n ≤ c) (hm : c ≤ maxLen) :
    Calls Try.prog 3 #[.slice A n c] w fun e w' => e = .returned (.bool true) ∧ Below w.heap.size w w' := by
  unfold maxLen at hm
  by_cases hn : n ≤ 1048576
  · have hd := drawForwardTransform_any A n c w.heap.size bs w h (Nat.le_refl _) hl hn (fun x hx => bounds_u8 (wf x hx))
    clear wf h
    have hbel : Below w.heap.size w w := Below.refl _ _
    go_enter Try.func3, Try.ntmps3
    go_wp2_with fail
    refine (hd).mono ?_
    rintro e w1 ⟨A1, n1, c1, xs, rfl, hr, hz1, hb⟩
    have nX := hr
    have hbel_ := Below.next hbel hb; clear hbel; have hbel := hbel_; clear hbel_
    clear hb
    have rX := nX; clear nX
    clear hd hr
    have LX := hid (RI.len rX)
    obtain ⟨V, HV⟩ : ∃ V, Hid (V = forward xs) := ⟨_, hid rfl⟩
    have hVl : V.length ≤ 16 := by rw [HV.out]; exact forward_len _
    go_wp2_with fail
    refine (forward_impl _ _ _ _ xs _ rX (Nat.le_refl _) (by omega)).mono ?_
    rintro e w2 ⟨A2, n2, c2, rfl, ho, hb⟩
    have nV := OwnI.ri (by rw [← HV.out] at ho; exact ho)
    have hbel_ := Below.next hbel hb; clear hbel; have hbel := hbel_; clear hbel_
    have rX_ := RV.next rX hb; clear rX; have rX := rX_; clear rX_
    clear hb
    have rV := nV; clear nV
    clear ho
    have LV := hid (RI.len rV)
    have hn2 : n2 ≤ 16 := by have := LV.out; omega
    go_wp2_with fail
    refine (forward_spec _ _ _ _ xs _ rX (by omega) (Nat.le_refl _)).mono ?_
    rintro e w3 ⟨A3, n3, c3, rfl, ho, hb⟩
    have nW := OwnI.ri (by rw [← HV.out] at ho; exact ho)
    have hbel_ := Below.next hbel hb; clear hbel; have hbel := hbel_; clear hbel_
    have rX_ := RV.next rX hb; clear rX; have rX := rX_; clear rX_
    have rV_ := RV.next rV hb; clear rV; have rV := rV_; clear rV_
    clear hb
    have rW := nW; clear nW
    clear ho
    go_wp2_with fail
    refine (sameInts_same _ _ _ _ _ _ _ _ _ _ rV rW (by omega)).mono ?_
    rintro e w4 ⟨rfl, hb⟩
    have hbel_ := Below.next hbel hb; clear hbel; have hbel := hbel_; clear hbel_
    have rX_ := RV.next rX hb; clear rX; have rX := rX_; clear rX_
    have rV_ := RV.next rV hb; clear rV; have rV := rV_; clear rV_
    have rW_ := RV.next rW hb; clear rW; have rW := rW_; clear rW_
    clear hb
    clear rW
    rcases Nat.eq_zero_or_pos n2 with hz | hpos
    · subst hz
      go_wp2_with fail
      refine (alive_any _).mono ?_
      rintro e w5 ⟨rfl, hb⟩
      have hbel_ := Below.next hbel hb; clear hbel; have hbel := hbel_; clear hbel_
      have rX_ := RV.next rX hb; clear rX; have rX := rX_; clear rX_
      have rV_ := RV.next rV hb; clear rV; have rV := rV_; clear rV_
      clear hb
      go_wp2
      go_ret
      exact ⟨rfl, hbel⟩
    · have hb0 : ((n2 : Int) == 0) = false := by simp; omega
      have hok := forward_ok (ne_nil HV.out LV.out hpos)
      have HT : Hid (∀ k, k < 16 → Fk V 2 k = 16 * xs.getD ((16 - k) % 16) 0 % 257) := hid (fun k hk => by rw [HV.out]; exact forth_twice hok hk)
      have HX := hid (ptsOk_iff.1 hok).2
      have hn1 : n1 = 16 := by rw [← LX.out]; exact (ptsOk_iff.1 hok).1
      subst hn1
      have HVV : Hid (forward V = dft V 2) := hid (by
        have hv : V = dft xs 2 := by rw [HV.out, forward, if_pos hok]
        rw [forward, if_pos (by rw [hv]; exact dft_ok _ _)])
      clear hok
      go_wp2_with fail
      refine (forward_impl _ _ _ _ V _ rV (Nat.le_refl _) (by omega)).mono ?_
      rintro e w5 ⟨A4, n4, c4, rfl, ho, hb⟩
      have nY := OwnI.ri (by rw [HVV.out] at ho; exact ho)
      have hbel_ := Below.next hbel hb; clear hbel; have hbel := hbel_; clear hbel_
      have rX_ := RV.next rX hb; clear rX; have rX := rX_; clear rX_
      have rV_ := RV.next rV hb; clear rV; have rV := rV_; clear rV_
      clear hb
      have rY := nY; clear nY
      clear ho
      have hn4 : n4 = 16 := by rw [← RI.len rY, dft_len]
      subst hn4
      go_wp2
      go_loopw [6] (fun iv wr => ∃ (j m : Nat), j ≤ 16 ∧ iv = .int .i64 j ∧ wr = w5.drewN m) (fun iv _ => 16 - (intOf iv).toNat)
      case atStart => exact ⟨0, 0, Nat.zero_le _, rfl, rfl⟩
      case round =>
        obtain ⟨j, m, hj, rfl, rfl⟩ := hrel
        by_cases hlj : j < 16
        · obtain ⟨I, hI⟩ : ∃ I, I = (16 - j) % 16 := ⟨_, rfl⟩
          have hI16 : I < 16 := by omega
          obtain ⟨pb, po, y, rfl, hpb, hy, hcy⟩ := RI.at_ (w := w5) rY hlj
          obtain ⟨pb', po', x, rfl, hpb', hx, hcx⟩ := RI.at_ (w := w5) rX hI16
          obtain ⟨x0, x1⟩ := in257_get HX.out hx
          have hyx : 16 * x % 257 = y := by
            have h1 := HT.out j hlj
            rw [← hI, show xs.getD I 0 = x by rw [List.getD_eq_getElem?_getD, hx]; rfl] at h1
            rw [dft_get V 2 hlj] at hy
            injection hy with hy
            rw [← hy, h1]
          have hw1 : IntKind.i64.wrap (16 - (j : Int)) = 16 - (j : Int) := IntWalk.i64_in _ (by omega)
          have ht1 : (16 - (j : Int)).tmod 16 = (I : Int) := by rw [Int.tmod_eq_emod_of_nonneg (by omega)]; omega
          have hw2 : IntKind.i64.wrap (16 * x) = 16 * x := IntWalk.i64_in _ (by omega)
          have ht2 : (16 * x).tmod 257 = y := by rw [Int.tmod_eq_emod_of_nonneg (by omega)]; exact hyx
          have hyy : (y != y) = false := by simp
          have hj0 : (0 : Int) ≤ (j : Int) := by omega
          have hj1 : (j : Int) < 16 := by omega
          have hi0' : (0 : Int) ≤ (I : Int) := by omega
          have hi1' : (I : Int) < 16 := by omega
          clear hx hy hI hyx
          go_wp2
          go_quiet (fail)
          go_wp2
          go_roundw
          case rel => exact ⟨j + 1, _, by omega, by go_num, rfl⟩
          case measure => simp [intOf]; omega
        · go_wp2
          go_ret
          exact ⟨rfl, hbel.trans ((Same.drewN _ _).bel _)⟩
  · go_enter Try.func3, Try.ntmps3
    go_wp2
    go_ret
    exact ⟨rfl, Below.refl _ _⟩
end Go.Proofs.Ytbbonllonkacfaa
