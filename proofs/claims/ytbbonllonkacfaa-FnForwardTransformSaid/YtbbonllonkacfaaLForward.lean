/-
  FnForwardTransform, walked: transforms are invertible; the first number is the sum of all; a list with only a first number has this number everywhere.
-/
import Derived.Test.YtbbonllonkacfaaDTra
import Derived.Test.YtbbonllonkacfaaAlive
import Derived.Test.YtbbonllonkacfaaTraD
import Derived.Test.YtbbonllonkacfaaLTra
namespace Go.Proofs.Ytbbonllonkacfaa
open Go.RowKit
set_option linter.unusedVariables false

theorem ev_zeros (n : Nat) (v : Int) : ev (List.replicate n 0) v = 0 := by
  induction n with
  | zero => rfl
  | succ n ih => rw [List.replicate_succ, ev, ih]; simp
def delta (x : Int) : List Int := x :: List.replicate 15 0
theorem delta_ok {x : Int} (h0 : 0 ≤ x) (h1 : x < 257) : ptsOk (delta x) = true := by
  refine ptsOk_iff.2 ⟨by simp [delta], fun y hy => ?_⟩
  rcases List.mem_cons.1 hy with rfl | hy
  · exact ⟨h0, h1⟩
  · rw [List.mem_replicate] at hy; omega
theorem delta_fk {x : Int} (h0 : 0 ≤ x) (h1 : x < 257) (k : Nat) : Fk (delta x) 2 k = x := by
  rw [Fk, delta, ev, ev_zeros, Int.mul_zero, Int.add_zero, Int.emod_eq_of_lt h0 h1]
theorem ev_one : ∀ xs : List Int, ev xs 1 = Sm xs.length (fun j => xs.getD j 0) := by
  intro xs
  rw [ev_sm]
  apply Sm_congr
  intro i _
  rw [Int.one_pow, Int.mul_one]

set_option maxHeartbeats 1600000 in
theorem fnForwardTransform_walk {A : Option Addr} {n c : Nat} {bs : List Int} (w : World) (h : RV w w.heap.size A n (bs.map (Value.int .u8))) (wf : ∀ x ∈ bs, (Lit.int .u8 x).wf = true) (hl : n ≤ c) (hm : c ≤ maxLen) :
    Calls Try.prog 7 #[.slice A n c] w fun e w' => e = .returned (.bool true) ∧ Below w.heap.size w w' := by
  unfold maxLen at hm
  by_cases hn : n ≤ 1048576
  · have hd := drawForwardTransform_any A n c w.heap.size bs w h (Nat.le_refl _) hl hn (fun x hx => bounds_u8 (wf x hx))
    clear wf h
    have hbel : Below w.heap.size w w := Below.refl _ _
    go_enter Try.func7, Try.ntmps7
    go_wp2_with fail
    refine (hd).mono ?_
    rintro e w1 ⟨A1, n1, c1, xs, rfl, hr, hz1, hb⟩
    have nX := hr
    have hbel_ := Below.next hbel hb; clear hbel; have hbel := hbel_; clear hbel_
    clear hb
    have rX := nX; clear nX
    clear hd hr
    have LX := hid (RI.len rX)
    obtain ⟨V, HV⟩ : ∃ V, Hid (V = forward xs) := ⟨_, hid rfl⟩
    have hVl : V.length ≤ 16 := by rw [HV.out]; exact forward_len _
    go_wp2_with fail
    refine (forward_impl _ _ _ _ xs _ rX (Nat.le_refl _) (by omega)).mono ?_
    rintro e w2 ⟨A2, n2, c2, rfl, ho, hb⟩
    have nV := OwnI.ri (by rw [← HV.out] at ho; exact ho)
    have hbel_ := Below.next hbel hb; clear hbel; have hbel := hbel_; clear hbel_
    have rX_ := RV.next rX hb; clear rX; have rX := rX_; clear rX_
    clear hb
    have rV := nV; clear nV
    clear ho
    have LV := hid (RI.len rV)
    have hn2 : n2 ≤ 16 := by have := LV.out; omega
    go_wp2_with fail
    refine (forward_spec _ _ _ _ xs _ rX (by omega) (Nat.le_refl _)).mono ?_
    rintro e w3 ⟨A3, n3, c3, rfl, ho, hb⟩
    have nW := OwnI.ri (by rw [← HV.out] at ho; exact ho)
    have hbel_ := Below.next hbel hb; clear hbel; have hbel := hbel_; clear hbel_
    have rX_ := RV.next rX hb; clear rX; have rX := rX_; clear rX_
    have rV_ := RV.next rV hb; clear rV; have rV := rV_; clear rV_
    clear hb
    have rW := nW; clear nW
    clear ho
    go_wp2_with fail
    refine (sameInts_same _ _ _ _ _ _ _ _ _ _ rV rW (by omega)).mono ?_
    rintro e w4 ⟨rfl, hb⟩
    have hbel_ := Below.next hbel hb; clear hbel; have hbel := hbel_; clear hbel_
    have rX_ := RV.next rX hb; clear rX; have rX := rX_; clear rX_
    have rV_ := RV.next rV hb; clear rV; have rV := rV_; clear rV_
    have rW_ := RV.next rW hb; clear rW; have rW := rW_; clear rW_
    clear hb
    clear rW
    rcases Nat.eq_zero_or_pos n2 with hz | hpos
    · subst hz
      go_wp2_with fail
      refine (alive_any _).mono ?_
      rintro e w5 ⟨rfl, hb⟩
      have hbel_ := Below.next hbel hb; clear hbel; have hbel := hbel_; clear hbel_
      have rX_ := RV.next rX hb; clear rX; have rX := rX_; clear rX_
      have rV_ := RV.next rV hb; clear rV; have rV := rV_; clear rV_
      clear hb
      go_wp2
      go_ret
      exact ⟨rfl, hbel⟩
    · have hb0 : ((n2 : Int) == 0) = false := by simp; omega
      have hok := forward_ok (ne_nil HV.out LV.out hpos)
      have HX := hid (ptsOk_iff.1 hok).2
      have hn1 : n1 = 16 := by rw [← LX.out]; exact (ptsOk_iff.1 hok).1
      subst hn1
      have HB : Hid (backward V = xs) := hid (by rw [HV.out]; exact back_forth hok)
      have HVF : Hid (V = dft xs 2) := hid (by rw [HV.out, forward, if_pos hok])
      have hn2' : n2 = 16 := by rw [← LV.out, HVF.out]; exact dft_len _ _
      subst hn2'
      obtain ⟨px, qx, a, rfl, hpx, ha, hca⟩ := RI.at_ rX (k := 0) (by omega)
      obtain ⟨a0, a1⟩ := in257_get HX.out ha
      have HAA : Hid (xs[0]? = some a) := hid ha
      have hca0 : w4.cell? ⟨px, qx, none⟩ = some (.int .i64 a) := by simpa using hca
      have hmk := run_make_row' (P := Try.prog) 23 3 (.int .i64 0) 8 Try.underlying23 infoI rfl .i64 .i64 16 (by omega) (by omega)
      have HMK : Hid (∀ w, (Instr.makeSlice 23 (.int .i64 16) (.int .i64 16)).run Try.prog w = .ok (.slice (some ⟨w.heap.size, 0, none⟩) 16 16) (w.alloc (.cells (madeCells #[.int .i64 0] 16) 3))) := hid hmk
      have hcs : (madeCells #[Value.int .i64 0] 16).setIfInBounds 0 (.int .i64 a) = ((delta a).map (Value.int .i64)).toArray := by
        apply Array.toList_inj.1
        rw [Array.toList_setIfInBounds, toList_madeCells_one]
        rfl
      obtain ⟨wD, hwD⟩ : ∃ wD, wD = w4.alloc (.cells ((madeCells #[Value.int .i64 0] 16).setIfInBounds 0 (.int .i64 a)) 3) := ⟨_, rfl⟩
      have hblk : Blk wD w4.heap.size 3 ((delta a).map (Value.int .i64)).toArray := by rw [hwD, hcs]; exact Blk.new _ _ _
      have hwk : Below w4.heap.size w4 wD := by rw [hwD]; exact (Below.refl _ _).alloc (Nat.le_refl _) _
      have rD : RI wD wD.heap.size (some ⟨w4.heap.size, 0, none⟩) 16 (delta a) := OwnI.ri (ownV_blk hblk (Nat.zero_le _) hblk.lt (by simp [delta]) (by unfold maxLen; omega))
      have hcaA : (w4.alloc (.cells (madeCells #[.int .i64 0] 16) 3)).cell? ⟨px, qx, none⟩ = some (.int .i64 a) := (((Below.refl _ _).alloc (Nat.le_refl _) _ : Below w4.heap.size w4 _).cell (p := ⟨px, qx, none⟩) hpx).trans hca0
      have HF : Hid (forward (delta a) = dft (delta a) 2) := hid (by rw [forward, if_pos (delta_ok a0 a1)])
      have hfw := forward_impl _ 16 16 _ (delta a) wD rD (Nat.le_refl _) (by omega)
      rw [HF.out] at hfw
      have hbelD := Below.next hbel hwk
      have rXD := RV.next rX hwk
      have rVD := RV.next rV hwk
      have HH := hid (And.intro hbelD (And.intro rXD (And.intro rVD hwD)))
      clear hok hcs hblk ha hca hwk rD hbelD rXD rVD hbel rX rV hmk
      have hmk := HMK.out
      have hmc : (madeCells #[Value.int .i64 0] 16)[0]? = some (.int .i64 0) := by rw [← Array.getElem?_toList, toList_madeCells_one]; rfl
      go_wp2_with fail
      clear hmc
      rw [← HH.out.2.2.2]
      refine hfw.mono ?_
      rintro e wF ⟨AF, nF, cF, rfl, ho, hbF⟩
      have hnF : nF = 16 := by rw [← OwnI.len ho, dft_len]
      subst hnF
      have rF := OwnI.ri ho
      have rX2 := RV.next HH.out.2.1 hbF
      have rV2 := RV.next HH.out.2.2.1 hbF
      have hbelF := Below.next HH.out.1 hbF
      clear ho hbF hfw hcaA hca0 hmk
      obtain ⟨px2, qx2, a2, he2, hpx2, ha2, hca2⟩ := RI.at_ (w := wF) rX2 (k := 0) (by omega)
      injection he2 with he2
      injection he2 with e1 e2
      subst e1 e2
      rw [HAA.out] at ha2
      injection ha2 with ha2
      subst ha2
      have hca0 : ∀ m, (wF.drewN m).cell? ⟨px, qx, none⟩ = some (.int .i64 a) := fun m => by simpa using hca2
      have HC := hid hca0
      clear hca0 hca2
      go_wp2
      go_loopw [5, 8] (fun sv iv wr => ∃ (j m : Nat) (U : Int), j ≤ 16 ∧ iv = .int .i64 j ∧ sv = .int .i64 U ∧ 0 ≤ U ∧ U ≤ 257 * j ∧ Hid (U = Sm j (fun j => xs.getD j 0)) ∧ wr = wF.drewN m) (fun _ iv _ => 16 - (intOf iv).toNat)
      case atStart => exact ⟨0, 0, 0, Nat.zero_le _, rfl, rfl, by omega, by omega, hid rfl, rfl⟩
      case round =>
        obtain ⟨j, m, U, hj, rfl, rfl, U0, U1, HU, rfl⟩ := hrel
        by_cases hlj : j < 16
        · obtain ⟨pb, po, y, rfl, hpb, hy, hcy⟩ := RI.at_ (w := wF) rF hlj
          obtain ⟨pb', po', x, hex, hpb', hx, hcx⟩ := RI.at_ (w := wF) rX2 hlj
          injection hex with hex
          injection hex with e1 e2
          subst e1 e2
          obtain ⟨x0, x1⟩ := in257_get HX.out hx
          rw [dft_get _ _ hlj, delta_fk a0 a1] at hy
          injection hy with hy
          subst hy
          have HU' : Hid (U + x = Sm (j + 1) (fun j => xs.getD j 0)) := hid (by rw [Sm, ← HU.out, show xs.getD j 0 = x by rw [List.getD_eq_getElem?_getD, hx]; rfl])
          have hca0 : (wF.drewN m).cell? ⟨px, qx, none⟩ = some (.int .i64 a) := HC.out m
          have hca1 : wF.cell? ⟨px, qx, none⟩ = some (.int .i64 a) := HC.out 0
          have hyy : (a != a) = false := by simp
          have hj0 : (0 : Int) ≤ (j : Int) := by omega
          have hj1 : (j : Int) < 16 := by omega
          clear hx
          go_wp2
          go_quiet (fail)
          go_wp2
          go_roundw
          case rel => exact ⟨j + 1, _, U + x, by omega, by go_num, rfl, by omega, by omega, HU', rfl⟩
          case measure => simp [intOf]; omega
        · have e : j = 16 := by omega
          subst e
          clear hlj
          obtain ⟨pv, qv, v, rfl, hpv, hv0, hcv⟩ := RI.at_ (w := wF) rV2 (k := 0) (by omega)
          have hvU : v = U % 257 := by
            rw [HVF.out, dft_get _ _ (by omega)] at hv0
            injection hv0 with hv0
            rw [← hv0, Fk, Int.pow_zero, ev_one, LX.out, HU.out]
          subst hvU
          have hbelM : Below w.heap.size w (wF.drewN m) := hbelF.trans ((Same.drewN _ _).bel _)
          go_wp2_with fail
          refine (backward_impl _ _ _ _ V (wF.drewN m) (rV2 : RI (wF.drewN m) _ _ _ _) (Nat.le_refl _) (by omega)).mono ?_
          rintro e wG ⟨AG, nG, cG, rfl, ho, hbG⟩
          rw [HB.out] at ho
          have rG := OwnI.ri ho
          have rXG : RI wG wG.heap.size _ _ xs := RV.next (w := wF.drewN m) rX2 hbG
          have hcvG : wG.cell? ⟨pv, qv, none⟩ = some (.int .i64 (U % 257)) := (hbG.cell (p := ⟨pv, qv, none⟩) hpv).trans (by simpa using hcv)
          have hbelG := Below.next hbelM hbG
          clear ho
          go_wp2_with fail
          refine (sameInts_same _ _ _ _ _ _ _ _ _ _ rG rXG (by have := LX.out; omega)).mono ?_
          rintro e wH ⟨rfl, hbH⟩
          have hcvH : wH.cell? ⟨pv, qv, none⟩ = some (.int .i64 (U % 257)) := (hbH.cell (p := ⟨pv, qv, none⟩) (Nat.lt_of_lt_of_le hpv hbG.size)).trans hcvG
          have hbelH := Below.next hbelG hbH
          clear hbH hbG
          go_wp2
          go_ret
          exact ⟨rfl, hbelH⟩
  · go_enter Try.func7, Try.ntmps7
    go_wp2
    go_ret
    exact ⟨rfl, Below.refl _ _⟩
end Go.Proofs.Ytbbonllonkacfaa
