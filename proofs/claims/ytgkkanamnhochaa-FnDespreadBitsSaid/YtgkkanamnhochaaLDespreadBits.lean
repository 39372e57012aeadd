/-
  FnDespreadBits, walked: a bit is 1 exactly if its sum is greater than 0; negated chips have the opposite bits where the sum is not 0.
-/
import Derived.Test.YtgkkanamnhochaaDSpr2
import Derived.Test.YtgkkanamnhochaaAlive
import Derived.Test.YtgkkanamnhochaaSprLaw2
import Derived.Test.YtgkkanamnhochaaDespreadS
import Derived.Test.YtgkkanamnhochaaDesBits
namespace Go.Proofs.Ytgkkanamnhochaa
open Go.RowKit
set_option linter.unusedVariables false

theorem isBits_yes (A : Option Addr) (n c B : Nat) (xs : List Int) (w : World) (h : RI w B A n xs) (hn : n ≤ 1024) (hb : AllBit xs) :
    Calls Try.prog 35 #[.slice A n c] w fun e w' => e = .returned (.bool true) ∧ w = w' := by
  have HB := hid hb
  clear hb
  go_enter Try.func35, Try.ntmps35
  go_wp2
  go_loop [3] (fun i => ∃ k : Nat, k ≤ n ∧ i = .int .i64 k) (fun i => n - (intOf i).toNat)
  case atStart => exact ⟨0, Nat.zero_le _, rfl⟩
  case round =>
    obtain ⟨k, hk, rfl⟩ := hrel
    by_cases hlt : k < n
    · obtain ⟨p, o, x, rfl, hb, hx, hc⟩ := RI.at_ h hlt
      have h01 := allBit_get HB.out hx
      clear hx
      rcases h01 with rfl | rfl
      · go_wp2
        go_round
        case rel => exact ⟨k + 1, by omega, by go_num⟩
        case measure => simp [intOf]; omega
      · go_wp2
        go_round
        case rel => exact ⟨k + 1, by omega, by go_num⟩
        case measure => simp [intOf]; omega
    · go_wp2
      go_ret
      exact ⟨ret_bool (by simp; omega), rfl⟩
theorem sbits_bit (xs : List Int) : AllBit (xs.map sbit) := by
  intro y hy
  obtain ⟨x, _, rfl⟩ := List.mem_map.1 hy
  unfold sbit; split <;> omega

set_option maxHeartbeats 1600000 in
theorem fnDespreadBits_walk {A : Option Addr} {n c : Nat} {bs : List Int} (w : World) (h : RV w w.heap.size A n (bs.map (Value.int .u8))) (wf : ∀ x ∈ bs, (Lit.int .u8 x).wf = true) (hl : n ≤ c) (hm : c ≤ maxLen) :
    Calls Try.prog 13 #[.slice A n c] w fun e w' => e = .returned (.bool true) ∧ Below w.heap.size w w' := by
  unfold maxLen at hm
  by_cases hn : n ≤ 1048576
  · have hd := drawDespreadBits_any A n c w.heap.size bs w h (Nat.le_refl _) hl hn (fun x hx => bounds_u8 (wf x hx))
    clear wf h
    obtain ⟨i0, hi0, hz0, hz1, hz2⟩ := info_parts infoI
    have hbel : Below w.heap.size w w := Below.refl _ _
    go_enter Try.func13, Try.ntmps13
    go_wp2_with fail
    refine (hd).mono ?_
    rintro e w1 ⟨A1, n1, c1, xs, k, rfl, ho1, hz1, ⟨k0, k1⟩, hb⟩
    have nX := OwnI.ri ho1
    have hbel_ := Below.next hbel hb; clear hbel; have hbel := hbel_; clear hbel_
    clear hb
    have rX := nX; clear nX
    have hcap := hid (And.intro ho1.2.1 ho1.2.2.1)
    have LX := hid (RI.len rX)
    have hn1 : n1 ≤ 2000 := by have := LX.out; omega
    clear hd ho1 hz1
    obtain ⟨V, HV⟩ : ∃ V, Hid (V = despread xs k) := ⟨_, hid rfl⟩
    have hVl : V.length ≤ 32 := by rw [HV.out]; exact despread_len _ _
    go_wp2_with fail
    refine (despBits_impl _ _ _ _ xs k _ rX (Nat.le_refl _) (by omega) hcap.out.1 hcap.out.2).mono ?_
    rintro e w2 ⟨A2, n2, c2, rfl, ho, hb⟩
    have nV := OwnI.ri (by rw [despBits, ← HV.out] at ho; exact ho)
    have hbel_ := Below.next hbel hb; clear hbel; have hbel := hbel_; clear hbel_
    have rX_ := RV.next rX hb; clear rX; have rX := rX_; clear rX_
    clear hb
    have rV := nV; clear nV
    clear ho
    have LV : Hid (V.length = n2) := hid (by have := RI.len rV; simpa using this)
    go_wp2_with fail
    refine (despBits_spec _ _ _ _ xs k _ rX (Nat.le_refl _) (by omega)).mono ?_
    rintro e w3 ⟨A3, n3, c3, rfl, ho, hb⟩
    have nW := OwnI.ri (by rw [despBits, ← HV.out] at ho; exact ho)
    have hbel_ := Below.next hbel hb; clear hbel; have hbel := hbel_; clear hbel_
    have rX_ := RV.next rX hb; clear rX; have rX := rX_; clear rX_
    have rV_ := RV.next rV hb; clear rV; have rV := rV_; clear rV_
    clear hb
    have rW := nW; clear nW
    clear ho
    go_wp2_with fail
    refine (sameInts_same _ _ _ _ _ _ _ _ _ _ rV rW (by rw [List.length_map]; omega)).mono ?_
    rintro e w4 ⟨rfl, hb⟩
    have hbel_ := Below.next hbel hb; clear hbel; have hbel := hbel_; clear hbel_
    have rX_ := RV.next rX hb; clear rX; have rX := rX_; clear rX_
    have rV_ := RV.next rV hb; clear rV; have rV := rV_; clear rV_
    have rW_ := RV.next rW hb; clear rW; have rW := rW_; clear rW_
    clear hb
    clear rW
    rcases Nat.eq_zero_or_pos n2 with hz | hpos
    · subst hz
      go_wp2_with fail
      refine (alive_any _).mono ?_
      rintro e w5 ⟨rfl, hb⟩
      have hbel_ := Below.next hbel hb; clear hbel; have hbel := hbel_; clear hbel_
      have rX_ := RV.next rX hb; clear rX; have rX := rX_; clear rX_
      have rV_ := RV.next rV hb; clear rV; have rV := rV_; clear rV_
      clear hb
      go_wp2
      go_ret
      exact ⟨rfl, hbel⟩
    · have hb0 : ((n2 : Int) == 0) = false := by simp; omega
      have hn2 : n2 ≤ 32 := by have := LV.out; omega
      have hne : despread xs k ≠ [] := fun e => by have h1 := LV.out; have h2 := HV.out; rw [e] at h2; subst h2; simp at h1; omega
      have HA := hid (withinB_iff.1 (despread_not_nil hne).2.2.2).2
      clear hne
      go_wp2
      go_loopw [6, 7] (fun v iv wr => ∃ (i cc : Nat) (AA : Option Addr), i ≤ n1 ∧ iv = .int .i64 i ∧ v = .slice AA i cc ∧ wr.ownsRow w4.heap.size 3 1 (.slice AA i cc) i (((xs.take i).map fun x => -x).map (Value.int .i64)) ∧ Below w4.heap.size w4 wr) (fun _ iv _ => n1 - (intOf iv).toNat)
      case atStart => exact ⟨0, 0, _, Nat.zero_le _, rfl, rfl, own_lit0 _ (Nat.le_refl _), (Below.refl _ _).alloc (Nat.le_refl _) _⟩
      case round =>
        obtain ⟨i, cc, AA, hi, rfl, rfl, hown, hbr⟩ := hrel
        obtain ⟨wo, rfl⟩ : ∃ wo : World, wo = wr := ⟨_, rfl⟩
        have hszo := hbr.size
        have rXo := RV.next rX hbr
        by_cases hli : i < n1
        · obtain ⟨b, o, y, rfl, hbb, hy, hcy⟩ := RI.at_ (w := wo) rXo hli
          obtain ⟨y0, y1⟩ := allIn_get HA.out hy
          have HY := hid hy
          clear hy
          go_wp2_with (at_builtin; refine wpList_push rfl _ _ _ rfl w4.heap.size 3 i0 _ 8 Try.underlying22 hi0 hz0 hz1 hz2 rfl (by omega) _ _ AA i cc _ rfl hown rfl rfl (by omega) (by omega) ?_; intro g' cap w6 hown6 hgrow6 hlies6 hlt6)
          have hb6 := below_push hbr hown (Nat.le_refl _) (by omega) hgrow6
          go_roundw
          case rel => exact ⟨i + 1, cap, _, by omega, by go_num, rfl, by rw [take_snoc _ _ _ HY.out, List.map_append, List.map_append]; exact hown6, hb6⟩
          case measure => simp [intOf]; omega
        · have e : i = n1 := by omega
          subst e
          clear hli
          rw [List.take_of_length_le (by rw [LX.out]; omega)] at hown
          obtain ⟨A5, c5, hv5, o5⟩ := ownV_of hown
          injection hv5 with e1 e2 e3
          subst e1 e3
          have rN : RI wo wo.heap.size AA i (xs.map fun x => -x) := OwnV.rv o5
          have hcapN := hid (And.intro o5.2.1 o5.2.2.1)
          have rVo := RV.next rV hbr
          have hbo := Below.next hbel hbr
          clear hown o5 hbr rX rV hbel
          have hbel := hbo; clear hbo
          have rV := rVo; clear rVo
          have rX := rXo; clear rXo
          go_wp2_with fail
          refine (despread_impl _ _ _ _ xs k _ rX (Nat.le_refl _) (by omega) hcap.out.1 hcap.out.2).mono ?_
          rintro e w5 ⟨A6, n6, c6, rfl, ho, hb⟩
          have nS := OwnI.ri (by rw [← HV.out] at ho; exact ho)
          have hbel_ := Below.next hbel hb; clear hbel; have hbel := hbel_; clear hbel_
          have rX_ := RV.next rX hb; clear rX; have rX := rX_; clear rX_
          have rV_ := RV.next rV hb; clear rV; have rV := rV_; clear rV_
          have rN_ := RV.next rN hb; clear rN; have rN := rN_; clear rN_
          clear hb
          have rS := nS; clear nS
          clear ho
          go_wp2_with fail
          refine (despBits_impl _ _ _ _ (xs.map fun x => -x) k _ rN (Nat.le_refl _) (by omega) hcapN.out.1 hcapN.out.2).mono ?_
          rintro e w6 ⟨A7, n7, c7, rfl, ho, hb⟩
          have nY := OwnI.ri (by rw [despBits, despread_neg, ← HV.out] at ho; exact ho)
          have hbel_ := Below.next hbel hb; clear hbel; have hbel := hbel_; clear hbel_
          have rX_ := RV.next rX hb; clear rX; have rX := rX_; clear rX_
          have rV_ := RV.next rV hb; clear rV; have rV := rV_; clear rV_
          have rN_ := RV.next rN hb; clear rN; have rN := rN_; clear rN_
          have rS_ := RV.next rS hb; clear rS; have rS := rS_; clear rS_
          clear hb
          have rY := nY; clear nY
          clear ho
          have hn6 : n6 = n2 := by rw [← RI.len rS, LV.out]
          have hn7 : n7 = n2 := by have := RI.len rY; simp at this; rw [← this, LV.out]
          subst hn6
          subst hn7
          have hB1 : AllIn 64000 V := by
            rw [HV.out]; unfold despread; split
            · exact despL_bd HA.out _ _
            · exact allIn_nil _
          have HB1 := hid hB1
          clear hB1 rN rX
          go_wp2
          go_loopw [10] (fun iv wr => ∃ (j m : Nat), j ≤ n7 ∧ iv = .int .i64 j ∧ wr = w6.drewN m) (fun iv _ => n7 - (intOf iv).toNat)
          case atStart => exact ⟨0, 0, Nat.zero_le _, rfl, rfl⟩
          case round =>
            obtain ⟨j, m, hj, rfl, rfl⟩ := hrel
            by_cases hlj : j < n7
            · obtain ⟨bs_, os_, sv, rfl, hbs, hs, hcs⟩ := RI.at_ (w := w6) rS hlj
              obtain ⟨bx_, ox_, xv, rfl, hbx, hx, hcx⟩ := RI.at_ (w := w6) rV hlj
              obtain ⟨by_, oy_, yv, rfl, hby, hy, hcy⟩ := RI.at_ (w := w6) rY hlj
              obtain ⟨s0, s1⟩ := allIn_get HB1.out hs
              rw [List.getElem?_map, hs] at hx
              rw [List.getElem?_map, List.getElem?_map, hs] at hy
              injection hx with hx
              injection hy with hy
              subst hx hy
              clear hs
              have hj0 : (0 : Int) ≤ (j : Int) := by omega
              have hj1 : (j : Int) < (n7 : Int) := by omega
              rcases Int.lt_trichotomy sv 0 with hc | hc | hc
              · have e1 : sbit sv = 0 := by unfold sbit; rw [if_neg (by omega)]
                have e2 : sbit (-sv) = 1 := by unfold sbit; rw [if_pos (by omega)]
                rw [e1] at hcx
                rw [e2] at hcy
                have t1 : decide (0 < sv) = false := by simp; omega
                have t2 : (sv != 0) = true := by simp; omega
                clear e1 e2
                go_wp2
                go_quiet (fail)
                go_wp2
                go_roundw
                case rel => exact ⟨j + 1, _, by omega, by go_num, rfl⟩
                case measure => simp [intOf]; omega
              · subst hc
                have e1 : sbit 0 = 0 := by decide
                have e2 : sbit (-0) = 0 := by decide
                rw [e1] at hcx
                rw [e2] at hcy
                clear e1 e2
                go_wp2
                go_quiet (fail)
                go_wp2
                go_roundw
                case rel => exact ⟨j + 1, _, by omega, by go_num, rfl⟩
                case measure => simp [intOf]; omega
              · have e1 : sbit sv = 1 := by unfold sbit; rw [if_pos (by omega)]
                have e2 : sbit (-sv) = 0 := by unfold sbit; rw [if_neg (by omega)]
                rw [e1] at hcx
                rw [e2] at hcy
                have t1 : decide (0 < sv) = true := by simp; omega
                have t2 : (sv != 0) = true := by simp; omega
                clear e1 e2
                go_wp2
                go_quiet (fail)
                go_wp2
                go_roundw
                case rel => exact ⟨j + 1, _, by omega, by go_num, rfl⟩
                case measure => simp [intOf]; omega
            · go_wp2_with fail
              refine (isBits_yes _ _ _ _ _ (w6.drewN m) (rV : RI (w6.drewN m) _ _ _ _) (by omega) (sbits_bit _)).mono ?_
              rintro e w9 ⟨rfl, rfl⟩
              go_wp2
              go_ret
              exact ⟨rfl, hbel.trans ((Same.drewN _ _).bel _)⟩
  · go_enter Try.func13, Try.ntmps13
    go_wp2
    go_ret
    exact ⟨rfl, Below.refl _ _⟩
end Go.Proofs.Ytgkkanamnhochaa
