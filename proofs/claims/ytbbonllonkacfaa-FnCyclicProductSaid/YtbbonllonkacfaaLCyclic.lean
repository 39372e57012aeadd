/-
  FnCyclicProduct, walked: the transform of the cyclic convolution is the product, place by place, of both transforms; the order does not matter.
-/
import Derived.Test.YtbbonllonkacfaaDTra
import Derived.Test.YtbbonllonkacfaaAlive
import Derived.Test.YtbbonllonkacfaaTraD
import Derived.Test.YtbbonllonkacfaaLTra
namespace Go.Proofs.Ytbbonllonkacfaa
open Go.RowKit
set_option linter.unusedVariables false

theorem cyc_ok {a b : List Int} (h : cyc a b ≠ []) : ptsOk a = true ∧ ptsOk b = true := by
  unfold cyc at h
  split at h
  · assumption
  · exact absurd rfl h
theorem cyc_len (a b : List Int) : (cyc a b).length ≤ 16 := by unfold cyc; split <;> simp [conv]
theorem cyc_comm (a b : List Int) : cyc a b = cyc b a := by
  unfold cyc
  by_cases h : ptsOk a = true ∧ ptsOk b = true
  · rw [if_pos h, if_pos ⟨h.2, h.1⟩, conv_comm h.1 h.2]
  · rw [if_neg h, if_neg (fun h' => h ⟨h'.2, h'.1⟩)]
theorem conv_fk {a b : List Int} (ha : ptsOk a = true) (hb : ptsOk b = true) {k : Nat} (hk : k < 16) : Fk (conv a b) 2 k = Fk a 2 k * Fk b 2 k % 257 := by
  have h1 := forward_conv ha hb
  rw [forward, if_pos (conv_ok a b), forward, if_pos ha, forward, if_pos hb] at h1
  have h2 : (dft (conv a b) 2)[k]? = (mulL (dft a 2) (dft b 2))[k]? := by rw [h1]
  rw [dft_get _ _ hk, mulL, List.getElem?_map, List.getElem?_range hk] at h2
  simp only [Option.map_some, Option.some.injEq, dft_getD _ _ hk] at h2
  exact h2

set_option maxHeartbeats 1600000 in
theorem fnCyclicProduct_walk {A : Option Addr} {n c : Nat} {bs : List Int} (w : World) (h : RV w w.heap.size A n (bs.map (Value.int .u8))) (wf : ∀ x ∈ bs, (Lit.int .u8 x).wf = true) (hl : n ≤ c) (hm : c ≤ maxLen) :
    Calls Try.prog 5 #[.slice A n c] w fun e w' => e = .returned (.bool true) ∧ Below w.heap.size w w' := by
  unfold maxLen at hm
  by_cases hn : n ≤ 1048576
  · have hd := drawCyclicProduct_any A n c w.heap.size bs w h (Nat.le_refl _) hl hn (fun x hx => bounds_u8 (wf x hx))
    clear wf h
    have hbel : Below w.heap.size w w := Below.refl _ _
    go_enter Try.func5, Try.ntmps5
    go_wp2_with fail
    refine (hd).mono ?_
    rintro e w1 ⟨A1, n1, c1, A2, n2, c2, xs, ys, rfl, hr1, hr2, hz1, hz2, hb⟩
    have nX := hr1
    have nY := hr2
    have hbel_ := Below.next hbel hb; clear hbel; have hbel := hbel_; clear hbel_
    clear hb
    have rX := nX; clear nX
    have rY := nY; clear nY
    clear hd hr1 hr2
    have LX := hid (RI.len rX)
    have LY := hid (RI.len rY)
    obtain ⟨V, HV⟩ : ∃ V, Hid (V = cyc xs ys) := ⟨_, hid rfl⟩
    have hVl : V.length ≤ 16 := by rw [HV.out]; exact cyc_len _ _
    go_wp2_with fail
    refine (cyclic_impl _ _ _ _ _ _ _ _ _ _ rX rY (Nat.le_refl _) (by omega) (by omega)).mono ?_
    rintro e w2 ⟨A3, n3, c3, rfl, ho, hb⟩
    have nC := OwnI.ri (by rw [← HV.out] at ho; exact ho)
    have hbel_ := Below.next hbel hb; clear hbel; have hbel := hbel_; clear hbel_
    have rX_ := RV.next rX hb; clear rX; have rX := rX_; clear rX_
    have rY_ := RV.next rY hb; clear rY; have rY := rY_; clear rY_
    clear hb
    have rC := nC; clear nC
    clear ho
    have LC := hid (RI.len rC)
    have hn3 : n3 ≤ 16 := by have := LC.out; omega
    go_wp2_with fail
    refine (cyclic_spec _ _ _ _ _ _ _ _ _ _ rX rY (Nat.le_refl _) (by omega) (by omega)).mono ?_
    rintro e w3 ⟨A4, n4, c4, rfl, ho, hb⟩
    have nD := OwnI.ri (by rw [← HV.out] at ho; exact ho)
    have hbel_ := Below.next hbel hb; clear hbel; have hbel := hbel_; clear hbel_
    have rX_ := RV.next rX hb; clear rX; have rX := rX_; clear rX_
    have rY_ := RV.next rY hb; clear rY; have rY := rY_; clear rY_
    have rC_ := RV.next rC hb; clear rC; have rC := rC_; clear rC_
    clear hb
    have rD := nD; clear nD
    clear ho
    go_wp2_with fail
    refine (sameInts_same _ _ _ _ _ _ _ _ _ _ rC rD (by omega)).mono ?_
    rintro e w4 ⟨rfl, hb⟩
    have hbel_ := Below.next hbel hb; clear hbel; have hbel := hbel_; clear hbel_
    have rX_ := RV.next rX hb; clear rX; have rX := rX_; clear rX_
    have rY_ := RV.next rY hb; clear rY; have rY := rY_; clear rY_
    have rC_ := RV.next rC hb; clear rC; have rC := rC_; clear rC_
    have rD_ := RV.next rD hb; clear rD; have rD := rD_; clear rD_
    clear hb
    clear rD
    go_wp2_with fail
    refine (cyclic_impl _ _ _ _ _ _ _ _ _ _ rY rX (Nat.le_refl _) (by omega) (by omega)).mono ?_
    rintro e w5 ⟨A5, n5, c5, rfl, ho, hb⟩
    have nE := OwnI.ri (by rw [cyc_comm, ← HV.out] at ho; exact ho)
    have hbel_ := Below.next hbel hb; clear hbel; have hbel := hbel_; clear hbel_
    have rX_ := RV.next rX hb; clear rX; have rX := rX_; clear rX_
    have rY_ := RV.next rY hb; clear rY; have rY := rY_; clear rY_
    have rC_ := RV.next rC hb; clear rC; have rC := rC_; clear rC_
    clear hb
    have rE := nE; clear nE
    clear ho
    go_wp2_with fail
    refine (sameInts_same _ _ _ _ _ _ _ _ _ _ rC rE (by omega)).mono ?_
    rintro e w6 ⟨rfl, hb⟩
    have hbel_ := Below.next hbel hb; clear hbel; have hbel := hbel_; clear hbel_
    have rX_ := RV.next rX hb; clear rX; have rX := rX_; clear rX_
    have rY_ := RV.next rY hb; clear rY; have rY := rY_; clear rY_
    have rC_ := RV.next rC hb; clear rC; have rC := rC_; clear rC_
    have rE_ := RV.next rE hb; clear rE; have rE := rE_; clear rE_
    clear hb
    clear rE
    rcases Nat.eq_zero_or_pos n3 with hz | hpos
    · subst hz
      go_wp2_with fail
      refine (alive_any _).mono ?_
      rintro e w7 ⟨rfl, hb⟩
      have hbel_ := Below.next hbel hb; clear hbel; have hbel := hbel_; clear hbel_
      have rX_ := RV.next rX hb; clear rX; have rX := rX_; clear rX_
      have rY_ := RV.next rY hb; clear rY; have rY := rY_; clear rY_
      have rC_ := RV.next rC hb; clear rC; have rC := rC_; clear rC_
      clear hb
      go_wp2
      go_ret
      exact ⟨rfl, hbel⟩
    · have hb0 : ((n3 : Int) == 0) = false := by simp; omega
      obtain ⟨ok1, ok2⟩ := cyc_ok (ne_nil HV.out LC.out hpos)
      have HVC : Hid (V = conv xs ys) := hid (by rw [HV.out, cyc, if_pos ⟨ok1, ok2⟩])
      have HF1 : Hid (forward xs = dft xs 2) := hid (by rw [forward, if_pos ok1])
      have HF2 : Hid (forward ys = dft ys 2) := hid (by rw [forward, if_pos ok2])
      have HF3 : Hid (forward V = dft V 2) := hid (by rw [HVC.out, forward, if_pos (conv_ok _ _)])
      have HK : Hid (∀ k, k < 16 → Fk V 2 k = Fk xs 2 k * Fk ys 2 k % 257) := hid (fun k hk => by rw [HVC.out]; exact conv_fk ok1 ok2 hk)
      clear ok1 ok2
      go_wp2_with fail
      refine (forward_impl _ _ _ _ _ _ rX (Nat.le_refl _) (by omega)).mono ?_
      rintro e w7 ⟨A6, n6, c6, rfl, ho, hb⟩
      have nP := OwnI.ri (by rw [HF1.out] at ho; exact ho)
      have hbel_ := Below.next hbel hb; clear hbel; have hbel := hbel_; clear hbel_
      have rX_ := RV.next rX hb; clear rX; have rX := rX_; clear rX_
      have rY_ := RV.next rY hb; clear rY; have rY := rY_; clear rY_
      have rC_ := RV.next rC hb; clear rC; have rC := rC_; clear rC_
      clear hb
      have rP := nP; clear nP
      clear ho
      have hn6 : n6 = 16 := by rw [← RI.len rP, dft_len]
      subst hn6
      go_wp2_with fail
      refine (forward_impl _ _ _ _ _ _ rY (Nat.le_refl _) (by omega)).mono ?_
      rintro e w8 ⟨A7, n7, c7, rfl, ho, hb⟩
      have nQ := OwnI.ri (by rw [HF2.out] at ho; exact ho)
      have hbel_ := Below.next hbel hb; clear hbel; have hbel := hbel_; clear hbel_
      have rX_ := RV.next rX hb; clear rX; have rX := rX_; clear rX_
      have rY_ := RV.next rY hb; clear rY; have rY := rY_; clear rY_
      have rC_ := RV.next rC hb; clear rC; have rC := rC_; clear rC_
      have rP_ := RV.next rP hb; clear rP; have rP := rP_; clear rP_
      clear hb
      have rQ := nQ; clear nQ
      clear ho
      have hn7 : n7 = 16 := by rw [← RI.len rQ, dft_len]
      subst hn7
      go_wp2_with fail
      refine (forward_impl _ _ _ _ _ _ rC (Nat.le_refl _) (by omega)).mono ?_
      rintro e w9 ⟨A8, n8, c8, rfl, ho, hb⟩
      have nR := OwnI.ri (by rw [HF3.out] at ho; exact ho)
      have hbel_ := Below.next hbel hb; clear hbel; have hbel := hbel_; clear hbel_
      have rX_ := RV.next rX hb; clear rX; have rX := rX_; clear rX_
      have rY_ := RV.next rY hb; clear rY; have rY := rY_; clear rY_
      have rC_ := RV.next rC hb; clear rC; have rC := rC_; clear rC_
      have rP_ := RV.next rP hb; clear rP; have rP := rP_; clear rP_
      have rQ_ := RV.next rQ hb; clear rQ; have rQ := rQ_; clear rQ_
      clear hb
      have rR := nR; clear nR
      clear ho
      have hn8 : n8 = 16 := by rw [← RI.len rR, dft_len]
      subst hn8
      go_wp2
      go_loopw [9] (fun iv wr => ∃ (j m : Nat), j ≤ 16 ∧ iv = .int .i64 j ∧ wr = w9.drewN m) (fun iv _ => 16 - (intOf iv).toNat)
      case atStart => exact ⟨0, 0, Nat.zero_le _, rfl, rfl⟩
      case round =>
        obtain ⟨j, m, hj, rfl, rfl⟩ := hrel
        by_cases hlj : j < 16
        · obtain ⟨p1, q1, y1, rfl, hp1, hy1, hcy1⟩ := RI.at_ (w := w9) rP hlj
          obtain ⟨p2, q2, y2, rfl, hp2, hy2, hcy2⟩ := RI.at_ (w := w9) rQ hlj
          obtain ⟨p3, q3, y3, rfl, hp3, hy3, hcy3⟩ := RI.at_ (w := w9) rR hlj
          rw [dft_get _ _ hlj] at hy1 hy2 hy3
          injection hy1 with hy1
          injection hy2 with hy2
          injection hy3 with hy3
          have hk := HK.out j hlj
          have b1 := Fk_bd xs 2 j
          have b2 := Fk_bd ys 2 j
          rw [hy1, hy2, hy3] at hk
          rw [hy1] at b1
          rw [hy2] at b2
          obtain ⟨m0, m1⟩ := mul_bd257 b1.1 b1.2 b2.1 b2.2
          have hw1 : IntKind.i64.wrap (y1 * y2) = y1 * y2 := IntWalk.i64_in _ (by omega)
          have ht1 : (y1 * y2).tmod 257 = y3 := by rw [Int.tmod_eq_emod_of_nonneg m0]; exact hk.symm
          have hyy : (y3 != y3) = false := by simp
          have hj0 : (0 : Int) ≤ (j : Int) := by omega
          have hj1 : (j : Int) < 16 := by omega
          clear hy1 hy2 hy3 hk
          go_wp2
          go_quiet (fail)
          go_wp2
          go_roundw
          case rel => exact ⟨j + 1, _, by omega, by go_num, rfl⟩
          case measure => simp [intOf]; omega
        · go_wp2
          go_ret
          exact ⟨rfl, hbel.trans ((Same.drewN _ _).bel _)⟩
  · go_enter Try.func5, Try.ntmps5
    go_wp2
    go_ret
    exact ⟨rfl, Below.refl _ _⟩
end Go.Proofs.Ytbbonllonkacfaa
