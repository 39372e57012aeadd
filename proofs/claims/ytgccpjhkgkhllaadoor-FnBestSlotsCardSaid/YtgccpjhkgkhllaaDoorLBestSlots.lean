/-
  FnBestSlots, walked: the program's best slots are the reference's; they are valid, need at least as many as the greatest group, not more than the greedy slots; without the last station not more.
-/
import Derived.Test.YtgccpjhkgkhllaaDoorDSloD
import Derived.Test.YtgccpjhkgkhllaaDoorSloX
import Derived.Test.YtgccpjhkgkhllaaDoorSloH
import Derived.Test.YtgccpjhkgkhllaaDoorBestP
import Derived.Test.YtgccpjhkgkhllaaDoorAlive
import Derived.OpenShut
import Derived.Deep.DeepCutAuto
namespace Go.Proofs.YtgccpjhkgkhllaaDoor
open Go.RowKit
set_option linter.unusedVariables false

theorem small_rtt {W : World} {B N : Nat} {rows : List (List Bool)} {ds : List (Option Addr × Nat × Nat)} {A : Option Addr} (hrv : RV W W.heap.size A N ((ds.map fun d => Value.slice d.1 N d.2.2).take N))
    (hN : N ≤ rows.length) (hsq : ∀ r ∈ rows, r.length = rows.length) (hds : ∀ (j : Nat) (d : Option Addr × Nat × Nat) (vs : List Value), ds[j]? = some d → (rows.map fun r => r.map Value.bool)[j]? = some vs → RV W B d.1 d.2.1 vs ∧ d.2.1 ≤ d.2.2 ∧ d.2.2 ≤ maxLen) (hB : B ≤ W.heap.size) : RTT W W.heap.size A N (smallT rows N) := by
  refine ⟨(ds.take N).map fun d => (d.1, N, d.2.2), ?_, ?_, ?_⟩
  · rw [List.map_map]
    rw [← List.map_take] at hrv
    exact hrv
  · unfold smallT; simp; omega
  · intro j d vs hd hv
    rw [List.getElem?_map, List.getElem?_take] at hd
    unfold smallT at hv
    rw [List.getElem?_map, List.getElem?_map, List.getElem?_take] at hv
    split at hd
    · rename_i hj
      rw [if_pos hj] at hv
      cases hdj : ds[j]? with
      | none => rw [hdj] at hd; simp at hd
      | some dd =>
        cases hrj : rows[j]? with
        | none => rw [hrj] at hv; simp at hv
        | some rr =>
          rw [hdj] at hd
          rw [hrj] at hv
          simp at hd hv
          subst hd hv
          have := hds j dd (rr.map Value.bool) hdj (by rw [List.getElem?_map, hrj]; rfl)
          have hl1 := this.1.1
          have hl2 := hsq rr (List.mem_of_getElem? hrj)
          rw [List.length_map] at hl1
          refine ⟨?_, by show N ≤ dd.2.2; have := this.2.1; omega, this.2.2⟩
          exact RV.takeN (m := N) (RV.more this.1 hB) (by omega)
    · cases hd

set_option maxRecDepth 100000 in
set_option maxHeartbeats 16000000 in
theorem fnBestSlots_walk {A : Option Addr} {n c : Nat} {bs : List Int} (w : World) (hT : TabW w) (h : RV w w.heap.size A n (bs.map (Value.int .u8))) (wf : ∀ x ∈ bs, (Lit.int .u8 x).wf = true) (hl : n ≤ c) (hm : c ≤ maxLen) :
    Calls Tryd.prog 4 #[.slice A n c] w fun e w' => e = .returned (.bool true) ∧ Below w.heap.size w w' := by
  unfold maxLen at hm
  by_cases hn : n ≤ 1048576
  · have hd := drawBestSlots_any A n c w.heap.size bs w h (Nat.le_refl _) hl hn (fun x hx => bounds_u8 (wf x hx))
    obtain ⟨i1, hj0, hj1, hj2, hj3⟩ := info_parts infoRowT
    have HT := hid hT
    clear wf h hT
    go_enter Tryd.func4, Tryd.ntmps4
    go_wp2_with fail
    refine hd.mono ?_
    rintro e w1 ⟨A1, n1, c1, rows, rfl, tab, hc1, hm1, hn1, hb1⟩
    have HT1 := hid (TabW.below HT.out hb1 HT.out.lt)
    have HB1 := hid hb1
    have HL := hid (RTT.len tab)
    have HTB := hid tab
    have HI := hid (best_impl A1 n1 c1 w1.heap.size rows w1 tab (Nat.le_refl _) (by omega))
    clear hd hb1 tab
    go_wp2_with fail
    refine HI.out.mono ?_
    rintro e w2 ⟨A2, n2, c2, rfl, o2, hb2⟩
    have HO2 := hid o2
    have HB2 := hid hb2
    have HTB2 := hid (RVV.below HTB.out hb2)
    have hz2 := hb2.size
    have HS := hid (best_spec A1 n1 c1 w1.heap.size rows w2 HTB2.out hz2 (by omega))
    clear o2 hb2
    go_wp2_with fail
    refine HS.out.mono ?_
    rintro e w3 ⟨A3, n3, c3, rfl, o3, hb3⟩
    have HR2 := hid (RV.below (OwnI.ri HO2.out) hb3)
    have HQ := hid (sameInts_same A2 A3 n2 n3 c2 c3 w2.heap.size w3.heap.size (bestI rows) w3 HR2.out (OwnI.ri o3) (by have := bestI_len rows; omega))
    have HB3 := hid (HB2.out.trans (hb3.mono hz2))
    have HTB3 := hid (RVV.below HTB2.out (hb3.mono hz2))
    have HZ3 := hid hb3.size
    clear o3 hb3
    go_wp2_with fail
    refine HQ.out.mono ?_
    rintro e w4 ⟨rfl, hb4⟩
    have HR4 := hid (RV.below HR2.out (hb4.mono HZ3.out))
    have HZ4 := hid (show w2.heap.size ≤ w4.heap.size from Nat.le_trans HZ3.out hb4.size)
    have HB4 := hid (HB3.out.trans (hb4.mono (Nat.le_trans hz2 HZ3.out)))
    have HTB4 := hid (RVV.below HTB3.out (hb4.mono (Nat.le_trans hz2 HZ3.out)))
    clear hb4
    have hl2 := RI.len HR4.out
    by_cases h0 : n2 = 0
    · subst h0
      have HA := hid (alive_any w4)
      clear hl2
      go_wp2_with fail
      refine HA.out.mono ?_
      rintro e w5 ⟨rfl, hb5⟩
      have HF := hid (HB1.out.trans ((HB4.out.trans (hb5.mono HB4.out.size)).mono HB1.out.size))
      clear hb5
      go_wp2
      go_ret
      exact ⟨rfl, HF.out⟩
    · have hco : ConfOk rows ∧ rows.length ≤ 7 := by
        by_cases hco : ConfOk rows ∧ rows.length ≤ 7
        · exact hco
        · rw [bestI_no hco] at hl2; simp at hl2; omega
      obtain ⟨hco, h7⟩ := hco
      have hn12 : n2 = n1 := by rw [← hl2, bestI_yes hco h7, castL_len, best_len, HL.out]
      subst hn12
      have h0' : 0 < n2 := by omega
      have hq0 : ((n2 : Int) == 0) = false := by simp; omega
      have hn7 : n2 ≤ 7 := by have := HL.out; omega
      have HCO := hid hco
      have hTr := TabW.below HT1.out HB4.out HT1.out.lt
      have HI5 := hid (greedy_impl A1 n2 c1 w1.heap.size rows w4 HTB4.out HB4.out.size (by omega) hTr)
      rw [bestI_yes hco h7] at HR4
      rw [greedyI_yes hco, HL.out] at HI5
      clear hTr hl2 hco h0
      go_wp2_with fail
      refine HI5.out.mono ?_
      rintro e w5 ⟨A5, n5, c5, rfl, o5, hb5⟩
      have hn5 : n5 = n2 := by have := RI.len (OwnI.ri o5); rw [castL_len, greedy_len] at this; exact this.symm
      subst hn5
      have HR5 := hid (OwnI.ri o5)
      have HS5 := hid (RV.below HR4.out (hb5.mono HZ4.out))
      have HZ5 := hid (show w2.heap.size ≤ w5.heap.size from Nat.le_trans HZ4.out hb5.size)
      have HB5 := hid (HB4.out.trans (hb5.mono HB4.out.size))
      clear o5 hb5
      have HX1 := hid (fun i => show (bestL rows).getD i 0 < 16 by
        by_cases hi : i < (bestL rows).length
        · have h1 := (best_col rows).1 i hi
          have h2 := (bestM_spec rows).1
          omega
        · rw [List.getD_eq_getElem?_getD, List.getElem?_eq_none (by omega)]; simp)
      have HX2 := hid (fun i => greedy_lt rows (k := n5) (by omega) i)
      have HL1 := hid (show (bestL rows).length = n5 by rw [best_len]; exact HL.out)
      have HL2 := hid (greedy_len rows n5)
      obtain ⟨xs, hxs⟩ : ∃ xs, bestL rows = xs := ⟨_, rfl⟩
      obtain ⟨gs, hgs⟩ : ∃ gs, greedyL rows n5 = gs := ⟨_, rfl⟩
      have HM1 := hid (show mostS xs = bestM rows by rw [← hxs]; exact best_most rows)
      have HM2 := hid (show bestM rows ≤ mostS gs by rw [← hgs, ← HL.out]; exact best_greedy rows)
      have hsv := slotsValid_impl A1 A2 n5 n5 c1 c2 w2.heap.size rows (castL xs)
      have HSB := hid (show slotsB rows (castL xs) = true by rw [← hxs]; exact slotsB_iff.2 (col_ok HCO.out (by have := (bestM_spec rows).1; omega) (best_col rows) (best_len rows)))
      have HSV := hid hsv
      rw [hxs] at HR4 HX1 HL1 HS5
      rw [hgs] at HX2 HL2 HR5
      clear hxs hgs hsv
      go_wp2
      go_loopw [5, 6, 8] (fun v5 v6 v8 wr => ∃ k : Nat, k ≤ n5 ∧ v5 = .int .i64 (mostS (xs.take k) : Nat) ∧ v6 = .int .i64 (mostS (gs.take k) : Nat) ∧ v8 = .int .i64 k ∧ w5 = wr) (fun _ _ v8 _ => n5 - (intOf v8).toNat)
      case atStart => exact ⟨0, Nat.zero_le _, rfl, rfl, rfl, rfl⟩
      case round =>
        obtain ⟨k, hk, rfl, rfl, rfl, rfl⟩ := hrel
        have hm1 := mostS_bound (xs := xs.take k) (m := 16) (fun i => by
          by_cases hi : i < k
          · rw [getD_take hi]; exact HX1.out i
          · rw [List.getD_eq_getElem?_getD, List.getElem?_take, if_neg hi]; simp)
        have hm2 := mostS_bound (xs := gs.take k) (m := 16) (fun i => by
          by_cases hi : i < k
          · rw [getD_take hi]; exact HX2.out i
          · rw [List.getD_eq_getElem?_getD, List.getElem?_take, if_neg hi]; simp)
        by_cases hlt : k < n5
        · have hkn : (k : Int) < (n5 : Int) := by omega
          obtain ⟨b8, o8, x8, eA8, hb8, hx8, hc8⟩ := RI.at_ HS5.out hlt
          obtain ⟨e8, _⟩ := castL_get hx8
          obtain ⟨b9, o9, x9, eA9, hb9, hx9, hc9⟩ := RI.at_ HR5.out hlt
          obtain ⟨e9, _⟩ := castL_get hx9
          have HN1 := hid (mostS_take (xs := xs) (k := k) (by rw [HL1.out]; exact hlt))
          have HN2 := hid (mostS_take (xs := gs) (k := k) (by rw [HL2.out]; exact hlt))
          have hxb := HX1.out k
          have hgb := HX2.out k
          obtain ⟨X, hX⟩ : ∃ X, xs.getD k 0 = X := ⟨_, rfl⟩
          obtain ⟨G, hG⟩ : ∃ G, gs.getD k 0 = G := ⟨_, rfl⟩
          obtain ⟨P, hP⟩ : ∃ P, mostS (xs.take k) = P := ⟨_, rfl⟩
          obtain ⟨Q, hQ⟩ : ∃ Q, mostS (gs.take k) = Q := ⟨_, rfl⟩
          rw [hX] at e8 hxb HN1
          rw [hG] at e9 hgb HN2
          rw [hP] at hm1 HN1
          rw [hQ] at hm2 HN2
          subst e8 e9 eA8 eA9
          rw [hP, hQ]
          clear hX hG hP hQ hx8 hx9
          go_wp2
          go_roundw
          case rel => exact ⟨k + 1, by omega, by rw [HN1.out]; go_num, by rw [HN2.out]; go_num, by go_num, trivial⟩
          case measure => simp [intOf]; omega
        · have hkn : k = n5 := by omega
          subst hkn
          rw [List.take_of_length_le (by rw [HL1.out]; exact Nat.le_refl _)] at hm1 ⊢
          rw [List.take_of_length_le (by rw [HL2.out]; exact Nat.le_refl _)] at hm2 ⊢
          rw [HM1.out] at hm1 ⊢
          have HM2' := HM2.out
          obtain ⟨M, hM⟩ : ∃ M, bestM rows = M := ⟨_, rfl⟩
          obtain ⟨G, hG⟩ : ∃ G, mostS gs = G := ⟨_, rfl⟩
          rw [hM] at hm1 HM2' ⊢
          rw [hG] at hm2 HM2' ⊢
          have HMM := hid (And.intro hM HM2')
          obtain ⟨ds, hds, hdl, hdr⟩ := HTB.out
          have hdsl : ds.length = k := by have := hds.1; simpa using this
          obtain ⟨N1, HN1⟩ : ∃ N1, Hid (k = N1 + 1) := ⟨k - 1, hid (by omega)⟩
          have r1 : (k : Int) - 1 = (N1 : Int) := by have := HN1.out; omega
          have r2 : IntKind.i64.wrap (N1 : Int) = (N1 : Int) := IntWalk.i64_in _ (by have := HN1.out; omega)
          obtain ⟨H6, HH6⟩ : ∃ H6, Hid (ds.map (fun d => Value.slice d.1 N1 d.2.2) = H6) := ⟨_, hid rfl⟩
          have HDS := hid (And.intro hds (And.intro hdl hdr))
          have HOW := hid (ownV_lit w5 26)
          have HBW := hid ((Below.refl w5.heap.size w5).alloc (Nat.le_refl _) (.cells #[] 26))
          obtain ⟨W, HW⟩ : ∃ W : World, W = w5.alloc (.cells #[] 26) := ⟨_, rfl⟩
          rw [← HW] at HOW HBW
          clear hds hdl hdr hM hG HM2'
          go_wp2
          simp only [← HW]
          clear HW
          go_loopw [10, 11] (fun v10 v11 wr => ∃ (m c10 : Nat) (A10 : Option Addr), m ≤ N1 ∧ v10 = .slice A10 m c10 ∧ v11 = .int .i64 m ∧ OwnV wr 26 w5.heap.size wr.heap.size A10 m c10 (H6.take m) ∧ Below w5.heap.size w5 wr) (fun _ v11 _ => N1 - (intOf v11).toNat)
          case atStart => exact ⟨0, 0, _, Nat.zero_le _, rfl, rfl, by simpa using HOW.out, HBW.out⟩
          case round =>
            obtain ⟨m, c10, A10, hm, rfl, rfl, how, hbr⟩ := hrel
            have hsz := hbr.size
            by_cases hmt : m < N1
            · have hmn : (m : Int) < (N1 : Int) := by omega
              have hmk : m < k := by have := HN1.out; omega
              have hmk' : (m : Int) < (k : Int) := by omega
              obtain ⟨d, hd⟩ : ∃ d, ds[m]? = some d := ⟨ds[m]'(by omega), List.getElem?_eq_getElem (by omega)⟩
              obtain ⟨dA, dn, dc⟩ := d
              obtain ⟨r, hr⟩ : ∃ r, rows[m]? = some r := ⟨rows[m]'(by rw [HL.out]; exact hmk), List.getElem?_eq_getElem (by rw [HL.out]; exact hmk)⟩
              have hrow := HDS.out.2.2 m (dA, dn, dc) (r.map Value.bool) hd (by rw [List.getElem?_map, hr]; rfl)
              have hrl : r.length = k := by rw [HCO.out.2.1 m r hr]; exact HL.out
              have hdn : dn = k := by have := hrow.1.1; simp at this; omega
              subst hdn
              obtain ⟨b1, o1, u1, eA1, hb1, hu1, hcl1⟩ := RV.at_ (RV.below HDS.out.1 (HB5.out.trans (hbr.mono HB5.out.size))) hmk
              rw [List.getElem?_map, hd] at hu1
              simp [slv] at hu1
              subst hu1 eA1
              obtain ⟨b2, o2, eA, hb2, hc2⟩ := hrow.1.2 h0'
              simp only at eA
              subst eA
              have hdc : ¬ dc = 0 := by have := hrow.2.1; simp only at this; omega
              have hNdc : (N1 : Int) ≤ (dc : Int) := by have := hrow.2.1; have := HN1.out; simp only at *; omega
              have HU : Hid (H6[m]? = some (.slice (some ⟨b2, o2, none⟩) N1 dc)) := hid (by rw [← HH6.out, List.getElem?_map, hd]; rfl)
              have hown := OwnV.own how
              have HBR := hid hbr
              clear hd hr hrow hrl hb2 hc2 how hbr
              go_wp2_with (at_builtin; refine wpList_pushZ rfl _ _ _ rfl w5.heap.size 26 i1 _ 24 Tryd.underlying23 hj0 hj1 hj2 hj3 rfl (by omega) _ _ A10 m c10 _ rfl hown wr.heap.size rfl rfl rfl (by omega) (by omega) ?_; intro g6 cap6 w6 hown6 hgrow6 hlies6 hlt6; have hb6 := HBR.out.trans (grown_bel hown hgrow6 (by omega)); have HO6 := hid (And.intro (ownV_of1 hown6) hb6); clear hown6 hgrow6 hlies6 hb6)
              go_roundw
              case rel => exact ⟨m + 1, cap6, _, by omega, rfl, by go_num, by rw [take_snoc _ _ _ HU.out]; exact HO6.out.1, HO6.out.2⟩
              case measure => simp [intOf]; omega
            · have hmn : m = N1 := by omega
              subst hmn
              have hkl := HL.out
              have hkN := HN1.out
              have hbz := HB5.out.trans (hbr.mono HB5.out.size)
              have hsm : RTT wr wr.heap.size A10 m (smallT rows m) := small_rtt (B := w1.heap.size) (by have := OwnV.rv how; rw [← HH6.out] at this; exact this) (by omega) (fun r hr => conf_sq HCO.out r hr) (fun j d vs hd hv => by
                have := HDS.out.2.2 j d vs hd hv
                exact ⟨RV.below this.1 hbz, this.2⟩) hbz.size
              have hI6 := best_impl A10 m c10 wr.heap.size (smallT rows m) wr hsm (Nat.le_refl _) (by omega)
              have hsc : ConfOk (smallT rows m) := small_ok HCO.out (by omega)
              have hslen := small_len (rows := rows) (m := m) (by omega)
              rw [bestI_yes hsc (by rw [hslen]; omega)] at hI6
              have HI6 := hid hI6
              have HSL := hid (show (bestL (smallT rows m)).length = m by rw [best_len, hslen])
              have HSM := hid (show mostS (bestL (smallT rows m)) ≤ M by rw [best_most, ← HMM.out.1]; exact small_best (by omega))
              have HX3 := hid (fun i => show (bestL (smallT rows m)).getD i 0 < 16 by
                by_cases hi : i < (bestL (smallT rows m)).length
                · have h1 := (best_col (smallT rows m)).1 i hi
                  have h2 := (bestM_spec (smallT rows m)).1
                  omega
                · rw [List.getD_eq_getElem?_getD, List.getElem?_eq_none (by omega)]; simp)
              have HBZ := hid hbz
              have HRZ := hid (RV.below HS5.out (hbr.mono HZ5.out))
              obtain ⟨ys, hys⟩ : ∃ ys, bestL (smallT rows m) = ys := ⟨_, rfl⟩
              rw [hys] at HI6 HSL HSM HX3
              clear hys hsc hslen hI6 hsm hbz hkl hkN how hbr
              go_wp2_with fail
              refine HI6.out.mono ?_
              rintro e w6 ⟨A6, n6, c6, rfl, o6, hb6⟩
              have hn6 : n6 = m := by have := RI.len (OwnI.ri o6); rw [castL_len, HSL.out] at this; exact this.symm
              subst hn6
              have HR6 := hid (OwnI.ri o6)
              have HB6 := hid (HBZ.out.trans (hb6.mono HBZ.out.size))
              have HZ6 := hid (RV.below HRZ.out (hb6.mono (Nat.le_trans HZ5.out hsz)))
              have HZZ := hid (show w2.heap.size ≤ w6.heap.size from Nat.le_trans HZ5.out (Nat.le_trans hsz hb6.size))
              clear o6 hb6
              go_wp2
              go_loopw [12, 14] (fun v12 v14 wq => ∃ j : Nat, j ≤ n6 ∧ v12 = .int .i64 (mostS (ys.take j) : Nat) ∧ v14 = .int .i64 j ∧ w6 = wq) (fun _ v14 _ => n6 - (intOf v14).toNat)
              case atStart => exact ⟨0, Nat.zero_le _, rfl, rfl, rfl⟩
              case round =>
                obtain ⟨j, hj, rfl, rfl, rfl⟩ := hrel
                have hm3 := mostS_bound (xs := ys.take j) (m := 16) (fun i => by
                  by_cases hi : i < j
                  · rw [getD_take hi]; exact HX3.out i
                  · rw [List.getD_eq_getElem?_getD, List.getElem?_take, if_neg hi]; simp)
                by_cases hjt : j < n6
                · have hjn : (j : Int) < (n6 : Int) := by omega
                  obtain ⟨b9, o9, x9, eA9, hb9, hx9, hc9⟩ := RI.at_ HR6.out hjt
                  obtain ⟨e9, _⟩ := castL_get hx9
                  have HN3 := hid (mostS_take (xs := ys) (k := j) (by rw [HSL.out]; exact hjt))
                  have hyb := HX3.out j
                  obtain ⟨Y, hY⟩ : ∃ Y, ys.getD j 0 = Y := ⟨_, rfl⟩
                  obtain ⟨P, hP⟩ : ∃ P, mostS (ys.take j) = P := ⟨_, rfl⟩
                  rw [hY] at e9 hyb HN3
                  rw [hP] at hm3 HN3
                  subst e9 eA9
                  rw [hP]
                  clear hY hP hx9
                  go_wp2
                  go_roundw
                  case rel => exact ⟨j + 1, by omega, by rw [HN3.out]; go_num, by go_num, trivial⟩
                  case measure => simp [intOf]; omega
                · have hjn : j = n6 := by omega
                  subst hjn
                  rw [List.take_of_length_le (by rw [HSL.out]; exact Nat.le_refl _)] at hm3 ⊢
                  have hlm := HSM.out
                  obtain ⟨L, hL⟩ : ∃ L, mostS ys = L := ⟨_, rfl⟩
                  rw [hL] at hm3 hlm ⊢
                  obtain ⟨b, hbz, hbm⟩ := groupZ_le HCO.out
                  rw [HMM.out.1] at hbm
                  have HI7 := hid (groupSize_impl A1 k c1 w1.heap.size rows w6 (RVV.below HTB.out HB6.out) HB6.out.size (by omega) (TabW.below HT1.out HB6.out HT1.out.lt))
                  rw [hbz] at HI7
                  have hsv := HSV.out w6 (RVV.more (RVV.below HTB.out HB6.out) hz2) HZ6.out (by omega) (by omega)
                  rw [HSB.out] at hsv
                  have HSV6 := hid hsv
                  have hMG := HMM.out.2
                  have h1 : (b : Int) ≤ (M : Int) := by omega
                  have h2 : (M : Int) ≤ (G : Int) := by omega
                  have h3 : (L : Int) ≤ (M : Int) := by omega
                  clear hsv hL hbz
                  go_wp2_with fail
                  refine HSV6.out.mono ?_
                  rintro e w_ ⟨rfl, rfl⟩
                  go_wp2_with fail
                  refine HI7.out.mono ?_
                  rintro e w7 ⟨rfl, hb7⟩
                  have HF := hid (HB1.out.trans ((HB6.out.trans (hb7.mono HB6.out.size)).mono HB1.out.size))
                  clear hb7
                  go_wp2
                  go_ret
                  exact ⟨rfl, HF.out⟩
  · clear wf h hT
    go_enter Tryd.func4, Tryd.ntmps4
    go_wp2
    go_ret
    exact ⟨rfl, Below.refl _ _⟩
end Go.Proofs.YtgccpjhkgkhllaaDoor
