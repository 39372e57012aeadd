/-
  FnApplyGain, walked: gains preserve signs.
-/
import Derived.Test.YtdcljfpgjifijaaDraws
import Derived.IntWalk
import Derived.Deep.QuietTactic
import Derived.BigQuiet
import Derived.Test.YtdcljfpgjifijaaAlive
import Derived.Test.YtdcljfpgjifijaaGain
import Derived.Test.YtdcljfpgjifijaaSeq
namespace Go.Proofs.Ytdcljfpgjifijaa
open Go.RowKit
set_option linter.unusedVariables false

theorem clip_neg (x : Int) : clip (-x) (-1000) 1000 = - clip x (-1000) 1000 := by unfold clip; omega
theorem gain1_neg (g n : Int) : gain1 g (-n) = - gain1 g n := by
  unfold gain1
  rw [Int.neg_mul, Int.neg_tdiv, clip_neg]
theorem gain1_bd (g n : Int) : -1000 ≤ gain1 g n ∧ gain1 g n ≤ 1000 := by unfold gain1 clip; omega
theorem gain1_sign {g n : Int} (hg : 1 ≤ g) : (0 ≤ n → 0 ≤ gain1 g n) ∧ (n ≤ 0 → gain1 g n ≤ 0) := by
  constructor
  · intro h
    have h1 : 0 ≤ (n * g).tdiv 256 := Int.tdiv_nonneg (Int.mul_nonneg h (by omega)) (by omega)
    unfold gain1 clip; omega
  · intro h
    have h1 : 0 ≤ ((-n) * g).tdiv 256 := Int.tdiv_nonneg (Int.mul_nonneg (by omega) (by omega)) (by omega)
    rw [Int.neg_mul, Int.neg_tdiv] at h1
    unfold gain1 clip; omega
theorem gain1_mul {g n : Int} (hg : 1 ≤ g) (h1 : -1000 ≤ n) (h2 : n ≤ 1000) : 0 ≤ gain1 g n * n ∧ gain1 g n * n ≤ 1000000 := by
  obtain ⟨b1, b2⟩ := gain1_bd g n
  obtain ⟨s1, s2⟩ := gain1_sign (g := g) (n := n) hg
  rcases Int.le_total 0 n with h | h
  · exact ⟨Int.mul_nonneg (s1 h) h, Int.le_trans (Int.mul_le_mul b2 h2 h (by omega)) (by omega)⟩
  · have e : gain1 g n * n = (-gain1 g n) * (-n) := by rw [Int.neg_mul_neg]
    rw [e]
    have := s2 h
    exact ⟨Int.mul_nonneg (by omega) (by omega), Int.le_trans (Int.mul_le_mul (show -gain1 g n ≤ 1000 by omega) (show -n ≤ 1000 by omega) (by omega) (by omega)) (by omega)⟩
theorem gain1_one {n : Int} (h1 : -1000 ≤ n) (h2 : n ≤ 1000) : gain1 256 n = n := by
  unfold gain1 clip
  rw [Int.mul_tdiv_cancel _ (by omega)]
  omega
theorem seqValid_neg {xs : List Int} (h : seqValid xs = true) : seqValid (xs.map fun x => -x) = true := by
  obtain ⟨h1, h2⟩ := withinB_iff.1 h
  refine withinB_iff.2 ⟨by rw [List.length_map]; exact h1, fun y hy => ?_⟩
  obtain ⟨x, hx, rfl⟩ := List.mem_map.1 hy
  have := h2 x hx; omega
theorem applyGain_not_nil {g : Int} {xs : List Int} (h : applyGain g xs ≠ []) : 1 ≤ g ∧ g ≤ 4096 ∧ seqValid xs = true := by
  unfold applyGain at h
  split at h
  · assumption
  · exact absurd rfl h
theorem applyGain_len (g : Int) (xs : List Int) : (applyGain g xs).length ≤ 64 := by
  unfold applyGain
  split
  · rename_i h
    rw [List.length_map]; have := (withinB_iff.1 h.2.2).1; omega
  · simp
theorem applyGain_valid (g : Int) (xs : List Int) : seqValid (applyGain g xs) = true := by
  refine withinB_iff.2 ⟨by have := applyGain_len g xs; omega, fun y hy => ?_⟩
  unfold applyGain at hy
  split at hy
  · obtain ⟨x, _, rfl⟩ := List.mem_map.1 hy
    exact gain1_bd _ _
  · cases hy
theorem applyGain_one {xs : List Int} (h : seqValid xs = true) : applyGain 256 xs = xs := by
  rw [applyGain, if_pos ⟨by omega, by omega, h⟩]
  have : ∀ x ∈ xs, gain1 256 x = x := fun x hx => by have := (withinB_iff.1 h).2 x hx; exact gain1_one this.1 this.2
  exact (List.map_congr_left this).trans (List.map_id' _)
theorem seqValid_true (A : Option Addr) (n c B : Nat) (xs : List Int) (w : World) (h : RI w B A n xs) (hn : n ≤ 1000000000) (hv : seqValid xs = true) :
    Calls Try.prog 25 #[.slice A n c] w fun e w' => e = .returned (.bool true) ∧ w = w' := by
  have := seqValid_impl A n c B xs w h hn
  rw [hv] at this
  exact this

set_option maxHeartbeats 1600000 in
theorem fnApplyGain_walk {A : Option Addr} {n c : Nat} {bs : List Int} (w : World) (h : RV w w.heap.size A n (bs.map (Value.int .u8))) (wf : ∀ x ∈ bs, (Lit.int .u8 x).wf = true) (hl : n ≤ c) (hm : c ≤ maxLen) :
    Calls Try.prog 6 #[.slice A n c] w fun e w' => e = .returned (.bool true) ∧ Below w.heap.size w w' := by
  unfold maxLen at hm
  by_cases hn : n ≤ 1048576
  · have hd := drawApplyGain_any A n c w.heap.size bs w h (Nat.le_refl _) hl hn (fun x hx => bounds_u8 (wf x hx))
    clear wf h
    obtain ⟨i0, hi0, hz0, hz1_, hz2⟩ := info_parts infoI
    have hbel : Below w.heap.size w w := Below.refl _ _
    go_enter Try.func6, Try.ntmps6
    go_wp2_with fail
    refine (hd).mono ?_
    rintro e w1 ⟨g, A1, n1, c1, xs, rfl, g0, g1, ho, hz1, hb⟩
    have nX := OwnI.ri ho
    have hbel_ := Below.next hbel hb; clear hbel; have hbel := hbel_; clear hbel_
    clear hb
    have rX := nX; clear nX
    clear hd ho
    have LX := hid (RI.len rX)
    obtain ⟨V, HV⟩ : ∃ V, Hid (V = applyGain g xs) := ⟨_, hid rfl⟩
    have hVl : V.length ≤ 64 := by rw [HV.out]; exact applyGain_len _ _
    go_wp2_with fail
    refine (applyGain_impl g _ _ _ _ xs _ rX (Nat.le_refl _) (by omega)).mono ?_
    rintro e w2 ⟨A2, n2, c2, rfl, ho, hb⟩
    have nV := OwnI.ri (by rw [← HV.out] at ho; exact ho)
    have hbel_ := Below.next hbel hb; clear hbel; have hbel := hbel_; clear hbel_
    have rX_ := RV.next rX hb; clear rX; have rX := rX_; clear rX_
    clear hb
    have rV := nV; clear nV
    clear ho
    have LV := hid (RI.len rV)
    go_wp2_with fail
    refine (applyGain_spec g _ _ _ _ xs _ rX (Nat.le_refl _) (by omega)).mono ?_
    rintro e w3 ⟨A3, n3, c3, rfl, ho, hb⟩
    have nW := OwnI.ri (by rw [← HV.out] at ho; exact ho)
    have hbel_ := Below.next hbel hb; clear hbel; have hbel := hbel_; clear hbel_
    have rX_ := RV.next rX hb; clear rX; have rX := rX_; clear rX_
    have rV_ := RV.next rV hb; clear rV; have rV := rV_; clear rV_
    clear hb
    have rW := nW; clear nW
    clear ho
    go_wp2_with fail
    refine (sameInts_same _ _ _ _ _ _ _ _ _ _ rV rW (by omega)).mono ?_
    rintro e w4 ⟨rfl, hb⟩
    have hbel_ := Below.next hbel hb; clear hbel; have hbel := hbel_; clear hbel_
    have rX_ := RV.next rX hb; clear rX; have rX := rX_; clear rX_
    have rV_ := RV.next rV hb; clear rV; have rV := rV_; clear rV_
    have rW_ := RV.next rW hb; clear rW; have rW := rW_; clear rW_
    clear hb
    clear rW
    rcases Nat.eq_zero_or_pos n2 with hz | hpos
    · subst hz
      go_wp2_with fail
      refine (alive_any _).mono ?_
      rintro e w5 ⟨rfl, hb⟩
      have hbel_ := Below.next hbel hb; clear hbel; have hbel := hbel_; clear hbel_
      have rX_ := RV.next rX hb; clear rX; have rX := rX_; clear rX_
      have rV_ := RV.next rV hb; clear rV; have rV := rV_; clear rV_
      clear hb
      go_wp2
      go_ret
      exact ⟨rfl, hbel⟩
    · have hb0 : ((n2 : Int) == 0) = false := by simp; omega
      have hne : applyGain g xs ≠ [] := fun e => by have h1 := LV.out; have h2 := HV.out; rw [e] at h2; subst h2; simp at h1; omega
      obtain ⟨v1, v2, v3⟩ := applyGain_not_nil hne
      have hVe : V = xs.map (gain1 g) := by rw [HV.out, applyGain, if_pos ⟨v1, v2, v3⟩]
      have hn21 : n2 = n1 := by rw [← LV.out, hVe, List.length_map, LX.out]
      subst hn21
      have hVN : applyGain g (xs.map fun x => -x) = V.map fun x => -x := by
        rw [applyGain, if_pos ⟨v1, v2, seqValid_neg v3⟩, hVe, List.map_map, List.map_map]
        exact List.map_congr_left fun x _ => gain1_neg g x
      have HVN := hid hVN
      have HVE := hid hVe
      have HA := hid (withinB_iff.1 v3).2
      have HVV : Hid (seqValid V = true) := hid (by rw [HV.out]; exact applyGain_valid _ _)
      have HV1 := hid (applyGain_one v3)
      have hn64 : n2 ≤ 64 := by have := LV.out; omega
      clear hne hVe hVN v3
      go_wp2
      go_loopw [6, 7] (fun v iv wr => ∃ (i cc : Nat) (AA : Option Addr), i ≤ n2 ∧ iv = .int .i64 i ∧ v = .slice AA i cc ∧ wr.ownsRow w4.heap.size 3 1 (.slice AA i cc) i (((xs.take i).map fun x => -x).map (Value.int .i64)) ∧ Below w4.heap.size w4 wr) (fun _ iv _ => n2 - (intOf iv).toNat)
      case atStart => exact ⟨0, 0, _, Nat.zero_le _, rfl, rfl, own_lit0 _ (Nat.le_refl _), (Below.refl _ _).alloc (Nat.le_refl _) _⟩
      case round =>
        obtain ⟨i, cc, AA, hi, rfl, rfl, hown, hbr⟩ := hrel
        obtain ⟨wo, rfl⟩ : ∃ wo : World, wo = wr := ⟨_, rfl⟩
        have hszo := hbr.size
        have rXo := RV.next rX hbr
        by_cases hli : i < n2
        · obtain ⟨b, o, y, rfl, hbb, hy, hcy⟩ := RI.at_ (w := wo) rXo hli
          obtain ⟨y0, y1⟩ := allIn_get HA.out hy
          have HY := hid hy
          clear hy
          go_wp2_with (at_builtin; refine wpList_push rfl _ _ _ rfl w4.heap.size 3 i0 _ 8 Try.underlying22 hi0 hz0 hz1_ hz2 rfl (by omega) _ _ AA i cc _ rfl hown rfl rfl (by omega) (by omega) ?_; intro g' cap w6 hown6 hgrow6 hlies6 hlt6)
          have hb6 := below_push hbr hown (Nat.le_refl _) (by omega) hgrow6
          go_roundw
          case rel => exact ⟨i + 1, cap, _, by omega, by go_num, rfl, by rw [take_snoc _ _ _ HY.out, List.map_append, List.map_append]; exact hown6, hb6⟩
          case measure => simp [intOf]; omega
        · have e : i = n2 := by omega
          subst e
          clear hli
          rw [List.take_of_length_le (by rw [LX.out]; omega)] at hown
          obtain ⟨A5, c5, hv5, o5⟩ := ownV_of hown
          injection hv5 with e1 e2 e3
          subst e1 e3
          have rN : RI wo wo.heap.size AA i (xs.map fun x => -x) := OwnV.rv o5
          have rVo := RV.next rV hbr
          have hbo := Below.next hbel hbr
          clear hown o5 hbr rX rV hbel
          have hbel := hbo; clear hbo
          have rV := rVo; clear rVo
          have rX := rXo; clear rXo
          go_wp2_with fail
          refine (applyGain_impl g _ _ _ _ (xs.map fun x => -x) _ rN (Nat.le_refl _) (by omega)).mono ?_
          rintro e w5 ⟨A7, n7, c7, rfl, ho, hb⟩
          have nY := OwnI.ri (by rw [HVN.out] at ho; exact ho)
          have hbel_ := Below.next hbel hb; clear hbel; have hbel := hbel_; clear hbel_
          have rX_ := RV.next rX hb; clear rX; have rX := rX_; clear rX_
          have rV_ := RV.next rV hb; clear rV; have rV := rV_; clear rV_
          have rN_ := RV.next rN hb; clear rN; have rN := rN_; clear rN_
          clear hb
          have rY := nY; clear nY
          clear ho
          have hn7 : n7 = i := by have := RI.len rY; simp at this; rw [← this, LV.out]
          subst hn7
          clear rN
          go_wp2
          go_loopw [9] (fun iv wr => ∃ (j m : Nat), j ≤ n7 ∧ iv = .int .i64 j ∧ wr = w5.drewN m) (fun iv _ => n7 - (intOf iv).toNat)
          case atStart => exact ⟨0, 0, Nat.zero_le _, rfl, rfl⟩
          case round =>
            obtain ⟨j, m, hj, rfl, rfl⟩ := hrel
            by_cases hlj : j < n7
            · obtain ⟨bs_, os_, sv, rfl, hbs, hs, hcs⟩ := RI.at_ (w := w5) rX hlj
              obtain ⟨bx_, ox_, xv, rfl, hbx, hx, hcx⟩ := RI.at_ (w := w5) rV hlj
              obtain ⟨by_, oy_, yv, rfl, hby, hy, hcy⟩ := RI.at_ (w := w5) rY hlj
              obtain ⟨s0, s1⟩ := allIn_get HA.out hs
              rw [List.getElem?_map, hx] at hy
              rw [HVE.out, List.getElem?_map, hs] at hx
              injection hx with hx
              injection hy with hy
              subst hy
              have hmul := gain1_mul (g := g) v1 s0 s1
              have hgb := gain1_bd g sv
              rw [hx] at hmul hgb
              obtain ⟨p0, p1⟩ := hmul
              obtain ⟨b0, b1⟩ := hgb
              clear hs hx
              have hj0 : (0 : Int) ≤ (j : Int) := by omega
              have hj1 : (j : Int) < (n7 : Int) := by omega
              have t1 : (xv != xv) = false := by simp
              have t2 : decide (xv * sv < 0) = false := by simp; omega
              have t3 : IntKind.i64.wrap (- -xv) = xv := by rw [Int.neg_neg]; exact IntWalk.i64_in _ (by omega)
              have t4 : IntKind.i64.wrap (xv * sv) = xv * sv := IntWalk.i64_in _ (by omega)
              go_wp2
              go_quiet (fail)
              go_wp2
              go_roundw
              case rel => exact ⟨j + 1, _, by omega, by go_num, rfl⟩
              case measure => simp [intOf]; omega
            · go_wp2_with fail
              refine (seqValid_true _ _ _ _ V (w5.drewN m) (rV : RI (w5.drewN m) _ _ _ _) (by omega) HVV.out).mono ?_
              rintro e w9 ⟨rfl, rfl⟩
              go_wp2_with fail
              refine (applyGain_impl 256 _ _ _ _ xs (w5.drewN m) (rX : RI (w5.drewN m) _ _ _ _) (Nat.le_refl _) (by omega)).mono ?_
              rintro e w9 ⟨A9, n9, c9, rfl, ho, hb9⟩
              rw [HV1.out] at ho
              have r9 := OwnI.ri ho
              have rX9 : RI w9 w9.heap.size _ _ xs := RV.next (w := w5.drewN m) rX hb9
              have hb9' := Below.next (hbel.trans ((Same.drewN _ m).bel _)) hb9
              clear ho hb9
              go_wp2_with fail
              refine (sameInts_same _ _ _ _ _ _ _ _ _ _ r9 rX9 (by have := LX.out; omega)).mono ?_
              rintro e w10 ⟨rfl, hb10⟩
              have hbx := Below.next hb9' hb10
              clear hb10
              go_wp2
              go_ret
              exact ⟨rfl, hbx⟩
  · go_enter Try.func6, Try.ntmps6
    go_wp2
    go_ret
    exact ⟨rfl, Below.refl _ _⟩
end Go.Proofs.Ytdcljfpgjifijaa
