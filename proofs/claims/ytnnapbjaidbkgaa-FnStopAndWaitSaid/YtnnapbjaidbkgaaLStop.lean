/-
  FnStopAndWait, walked: every message arrives.
-/
import Derived.Test.YtnnapbjaidbkgaaDRep
import Derived.Test.YtnnapbjaidbkgaaAlive
import Derived.Test.YtnnapbjaidbkgaaRepLaw
namespace Go.Proofs.Ytnnapbjaidbkgaa
open Go.RowKit
set_option linter.unusedVariables false

theorem sumL_take_le (zs : List Int) (h : ∀ y ∈ zs, 0 ≤ y) (k : Nat) : sumL (zs.take k) ≤ sumL zs := by
  induction zs generalizing k with
  | nil => simp
  | cons z zs ih =>
    have h0 := h z (List.mem_cons_self ..)
    have hp : ∀ (l : List Int), (∀ y ∈ l, 0 ≤ y) → 0 ≤ sumL l := by
      intro l
      induction l with
      | nil => intro _; simp [sumL]
      | cons a l ih => intro h; have := h a (List.mem_cons_self ..); have := ih (fun y hy => h y (List.mem_cons_of_mem _ hy)); simp only [sumL]; omega
    have hz := hp zs (fun y hy => h y (List.mem_cons_of_mem _ hy))
    cases k with
    | zero => simp only [List.take_zero, sumL]; omega
    | succ k => have := ih (fun y hy => h y (List.mem_cons_of_mem _ hy)) k; simp only [List.take_succ_cons, sumL]; omega
set_option maxHeartbeats 1600000 in
theorem fnStopAndWait_walk {A : Option Addr} {n c : Nat} {bs : List Int} (w : World) (h : RV w w.heap.size A n (bs.map (Value.int .u8))) (wf : ∀ x ∈ bs, (Lit.int .u8 x).wf = true) (hl : n ≤ c) (hm : c ≤ maxLen) :
    Calls Try.prog 4 #[.slice A n c] w fun e w' => e = .returned (.bool true) ∧ Below w.heap.size w w' := by
  unfold maxLen at hm
  by_cases hn : n ≤ 1048576
  · have hd := drawStopAndWait_any A n c w.heap.size bs w h (Nat.le_refl _) hl hn (fun x hx => bounds_u8 (wf x hx))
    clear wf h
    have hbel : Below w.heap.size w w := Below.refl _ _
    go_enter Try.func4, Try.ntmps4
    go_wp2_with fail
    refine (hd).mono ?_
    rintro e w1 ⟨nn, A1, n1, c1, A2, n2, c2, xs, ys, rfl, ⟨nn0, nn1⟩, hr1, hr2, hz1, hz2, hb⟩
    have hbel_ := Below.next hbel hb; clear hbel; have hbel := hbel_; clear hbel_
    clear hb
    clear hd
    have rX : RT w1 w1.heap.size A1 n1 xs := hr1
    have rY : RT w1 w1.heap.size A2 n2 ys := hr2
    clear hr1 hr2
    have LX := hid (RT.len rX)
    obtain ⟨V, HV⟩ : ∃ V, Hid (V = stopWait nn xs ys) := ⟨_, hid rfl⟩
    have hVl : V.1.length ≤ 30 := by rw [HV.out]; exact stopWait_len _ _ _
    have HI := hid (fun B => stopWait_impl nn A1 A2 n1 n2 c1 c2 B xs ys)
    have HS := hid (fun B => stopWait_spec nn A1 A2 n1 n2 c1 c2 B xs ys)
    rw [← HV.out] at HI HS
    have hne2 : (V.2 != V.2) = false := by simp
    go_wp2_with fail
    refine (HI.out _ _ rX rY (Nat.le_refl _) (by omega) (by omega)).mono ?_
    rintro e w2 ⟨A3, n3, c3, rfl, ho, hb⟩
    have nV := OwnI.ri ho
    have hbel_ := Below.next hbel hb; clear hbel; have hbel := hbel_; clear hbel_
    have rX_ := RV.next rX hb; clear rX; have rX := rX_; clear rX_
    have rY_ := RV.next rY hb; clear rY; have rY := rY_; clear rY_
    clear hb
    have rV := nV; clear nV
    clear ho
    have LV := hid (RI.len rV)
    have hn3 : n3 ≤ 30 := by have := LV.out; omega
    go_wp2_with fail
    refine (HS.out _ _ rX rY (Nat.le_refl _) (by omega) (by omega)).mono ?_
    rintro e w3 ⟨A4, n4, c4, rfl, ho, hb⟩
    have nW := OwnI.ri ho
    have hbel_ := Below.next hbel hb; clear hbel; have hbel := hbel_; clear hbel_
    have rX_ := RV.next rX hb; clear rX; have rX := rX_; clear rX_
    have rY_ := RV.next rY hb; clear rY; have rY := rY_; clear rY_
    have rV_ := RV.next rV hb; clear rV; have rV := rV_; clear rV_
    clear hb
    have rW := nW; clear nW
    clear ho
    go_wp2_with fail
    refine (sameInts_same _ _ _ _ _ _ _ _ _ _ rV rW (by omega)).mono ?_
    rintro e w4 ⟨rfl, hb⟩
    have hbel_ := Below.next hbel hb; clear hbel; have hbel := hbel_; clear hbel_
    have rX_ := RV.next rX hb; clear rX; have rX := rX_; clear rX_
    have rY_ := RV.next rY hb; clear rY; have rY := rY_; clear rY_
    have rV_ := RV.next rV hb; clear rV; have rV := rV_; clear rV_
    have rW_ := RV.next rW hb; clear rW; have rW := rW_; clear rW_
    clear hb
    clear rW HI HS
    rcases stopWait_cases nn xs ys with hc | ⟨N, rfl, hN1, hN2, zs, t, hc, hzl, hz1', hsum, ht⟩
    · rw [← HV.out] at hc
      subst hc
      have hn30 : n3 = 0 := by have := LV.out; simpa using this.symm
      subst hn30
      by_cases hnz : nn = 0
      · subst hnz
        go_wp2_with fail
        refine (alive_any _).mono ?_
        rintro e w5 ⟨rfl, hb⟩
        have hbel_ := Below.next hbel hb; clear hbel; have hbel := hbel_; clear hbel_
        have rX_ := RV.next rX hb; clear rX; have rX := rX_; clear rX_
        have rY_ := RV.next rY hb; clear rY; have rY := rY_; clear rY_
        have rV_ := RV.next rV hb; clear rV; have rV := rV_; clear rV_
        clear hb
        go_wp2
        go_ret
        exact ⟨rfl, hbel⟩
      · have hb1 : ((0 : Int) != nn) = true := by simp; omega
        go_wp2_with fail
        refine (alive_any _).mono ?_
        rintro e w5 ⟨rfl, hb⟩
        have hbel_ := Below.next hbel hb; clear hbel; have hbel := hbel_; clear hbel_
        have rX_ := RV.next rX hb; clear rX; have rX := rX_; clear rX_
        have rY_ := RV.next rY hb; clear rY; have rY := rY_; clear rY_
        have rV_ := RV.next rV hb; clear rV; have rV := rV_; clear rV_
        clear hb
        go_wp2
        go_ret
        exact ⟨rfl, hbel⟩
    · rw [← HV.out] at hc
      subst hc
      have hn3N : n3 = N := by rw [← LV.out]; exact hzl
      subst hn3N
      have HZL := hid hzl; have HZ1 := hid hz1'; have HSUM := hid hsum
      have hb1 : ((n3 : Int) != (n3 : Int)) = false := by simp
      have hb2 : ((n3 : Int) == 0) = false := by simp; omega
      have hgb := goneN_bd xs
      have HG := hid hgb
      have hn1' : n1 ≤ 1000 := hz1
      have HL : Hid (∀ t : Nat, n1 ≤ t → goneN xs t = goneN xs n1) := hid (fun t ht => by
        have := goneN_far xs (t - n1)
        rw [LX.out] at this
        rwa [show n1 + (t - n1) = t by omega] at this)
      clear hzl hz1' hsum hgb hVl
      go_wp2
      go_loop [10, 11] (fun gv kv => ∃ (k : Nat) (G : Int), k ≤ t ∧ k ≤ n1 ∧ kv = .int .i64 k ∧ gv = .int .i64 G ∧ 0 ≤ G ∧ G ≤ k ∧ Hid (G = goneN xs k)) (fun _ kv => 300 - (intOf kv).toNat)
      case atStart => exact ⟨0, 0, Nat.zero_le _, Nat.zero_le _, rfl, rfl, by omega, by omega, hid rfl⟩
      case round =>
        obtain ⟨k, G, hk, hkn, rfl, rfl, G0, G1, HGG⟩ := hrel
        by_cases hkt : k < t ∧ k < n1
        · obtain ⟨hkt, hkn1⟩ := hkt
          obtain ⟨b, o, x, rfl, hbb, hx, hcx⟩ := RT.at_ rX hkn1
          have hlx : lostB xs k = x := by rw [lostB, List.getD_eq_getElem?_getD, hx]; rfl
          have hk0 : (0 : Int) ≤ (k : Int) := by omega
          clear hx
          cases x
          · have HG' : Hid (G = goneN xs (k + 1)) := hid (by rw [goneN, if_neg (by rw [hlx]; exact Bool.false_ne_true), HGG.out]; omega)
            clear hlx
            go_wp2
            go_round
            case rel => exact ⟨k + 1, G, by omega, by omega, by go_num, rfl, by omega, by omega, HG'⟩
            case measure => simp [intOf]; omega
          · have HG' : Hid (G + 1 = goneN xs (k + 1)) := hid (by rw [goneN, if_pos hlx, HGG.out])
            clear hlx
            go_wp2
            go_round
            case rel => exact ⟨k + 1, G + 1, by omega, by omega, by go_num, rfl, by omega, by omega, HG'⟩
            case measure => simp [intOf]; omega
        · have hGt : G = goneN xs t := by
            rw [HGG.out]
            by_cases h1 : k = t
            · rw [h1]
            · have h2 : k = n1 := by omega
              rw [h2, HL.out t (by omega)]
          have HGT := hid hGt
          obtain ⟨O, HO⟩ : ∃ O, Hid (O = (stopWait (n3 : Int) xs []).1) := ⟨_, hid rfl⟩
          have hOc := stopWait_once n3 xs hN1 hN2
          rw [← HO.out] at hOc
          have HOC := hid hOc
          have hex := stopWait_impl (n3 : Int) A1 none n1 0 c1 0 _ xs [] w4 rX RV.none_ (Nat.le_refl _) (by omega) (by omega)
          have HEX := hid hex
          clear hGt hOc hex HGG
          go_wp2_with fail
          all_goals
            refine HEX.out.mono ?_
            rintro e wo ⟨A9, n9, c9, rfl, ho, hbo⟩
            rw [← HO.out] at ho
            have rO := OwnI.ri ho
            have rV9 := RV.next rV hbo
            have hbel9 := Below.next hbel hbo
            have hLO := hid (RI.len rO)
            have hn9 : n9 = 0 ∨ n9 = n3 := by
              rcases HOC.out with h | h
              · left; have := hLO.out; rw [h] at this; simpa using this.symm
              · right; rw [← hLO.out]; exact h.1
            clear ho hbo
            go_wp2
            go_loop [10, 14] (fun gv kv => ∃ (j : Nat) (U : Int), j ≤ n3 ∧ kv = .int .i64 j ∧ gv = .int .i64 U ∧ 0 ≤ U ∧ U ≤ 1000000 ∧ Hid (U = goneN xs t + sumL (zs.take j))) (fun _ kv => n3 - (intOf kv).toNat)
            case atStart => exact ⟨0, G, Nat.zero_le _, rfl, rfl, by omega, by omega, hid (by rw [HGT.out]; simp [sumL])⟩
            case round =>
              obtain ⟨j, U, hj, rfl, rfl, U0, U1, HU⟩ := hrel
              by_cases hjn : j < n3
              · obtain ⟨b, o, x, rfl, hbb, hx, hcx⟩ := RI.at_ rV9 hjn
                have hgx : zs.getD j 0 = x := by rw [List.getD_eq_getElem?_getD, hx]; rfl
                have hx1 : 1 ≤ x := by have := HZ1.out j hjn; omega
                have hts := take_snoc zs j x hx
                have HU' : Hid (U + x = goneN xs t + sumL (zs.take (j + 1))) := hid (by rw [hts, sumL_snoc, HU.out]; omega)
                have hbd := sumL_take_le zs (fun y hy => by obtain ⟨i, hi, rfl⟩ := List.getElem_of_mem hy; have := HZ1.out i (by rw [← HZL.out]; exact hi); rw [List.getD_eq_getElem?_getD, List.getElem?_eq_getElem hi] at this; simp at this; omega) (j + 1)
                have hUx : U + x ≤ 1000000 := by have := HU'.out; have := HSUM.out; omega
                have hj0 : (0 : Int) ≤ (j : Int) := by omega
                clear hx hgx hts hbd
                rcases hn9 with rfl | rfl
                · have hq : ((0 : Int) == (n3 : Int)) = false := by simp; omega
                  go_wp2
                  go_round
                  case rel => exact ⟨j + 1, U + x, by omega, by go_num, rfl, by omega, by omega, HU'⟩
                  case measure => simp [intOf]; omega
                · obtain ⟨b2, o2, y, rfl, hb2, hy, hcy⟩ := RI.at_ rO hjn
                  have hy1 : y = 1 := by
                    rcases HOC.out with h | h
                    · rw [h] at hy; simp at hy
                    · have := h.2 j hjn; rw [List.getD_eq_getElem?_getD, hy] at this; simpa using this
                  subst hy1
                  clear hy
                  go_wp2
                  go_round
                  case rel => exact ⟨j + 1, U + x, by omega, by go_num, rfl, by omega, by omega, HU'⟩
                  case measure => simp [intOf]; omega
              · have hjn' : j = n3 := by omega
                subst hjn'
                have hUt : U = (t : Int) := by rw [HU.out, List.take_of_length_le (by rw [HZL.out]; omega)]; have := HSUM.out; omega
                subst hUt
                clear HU
                have hqq : ((t : Int) == (t : Int)) = true := by simp
                go_wp2
                go_ret
                exact ⟨rfl, hbel9⟩
  · go_enter Try.func4, Try.ntmps4
    go_wp2
    go_ret
    exact ⟨rfl, Below.refl _ _⟩
end Go.Proofs.Ytnnapbjaidbkgaa
