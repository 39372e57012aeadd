/-
  FnConflictsValid, walked: a part of a table is valid; a table with a station in conflict with itself is not.
-/
import Derived.Test.YtgccpjhkgkhllaaDSlots
import Derived.Test.YtgccpjhkgkhllaaFam
import Derived.Test.YtgccpjhkgkhllaaAliveO
import Derived.OpenShut
import Derived.Deep.DeepCutAuto
namespace Go.Proofs.Ytgccpjhkgkhllaa
open Go.RowKit
set_option linter.unusedVariables false

/-- The table without its last station. -/
def smallT (rows : List (List Bool)) (m : Nat) : List (List Bool) := (rows.take m).map (·.take m)
theorem cf_small {rows : List (List Bool)} {m i j : Nat} (hi : i < m) (hj : j < m) (hm : m ≤ rows.length) : cf (smallT rows m) i j = cf rows i j := by
  unfold cf smallT
  simp only [List.getD_eq_getElem?_getD, List.getElem?_map, List.getElem?_take, if_pos hi]
  cases hx : rows[i]? with
  | none => have := List.getElem?_eq_none_iff.1 hx; omega
  | some r => simp [List.getElem?_take, if_pos hj]
theorem small_ok {rows : List (List Bool)} {m : Nat} (h : ConfOk rows) (hm : m ≤ rows.length) : ConfOk (smallT rows m) := by
  have hl : (smallT rows m).length = m := by unfold smallT; simp; omega
  refine ⟨by rw [hl]; have := h.1; omega, fun i r hr => ?_, fun i j hi hj => ?_⟩
  · rw [hl]
    unfold smallT at hr
    rw [List.getElem?_map, List.getElem?_take] at hr
    split at hr
    · cases hx : rows[i]? with
      | none => rw [hx] at hr; simp at hr
      | some q => rw [hx] at hr; simp at hr; subst hr; rw [List.length_take, h.2.1 i q hx]; omega
    · simp at hr
  · rw [hl] at hi hj
    have := h.2.2 i j (by omega) (by omega)
    exact ⟨by rw [cf_small hi hj hm, cf_small hj hi hm]; exact this.1, fun e => by rw [cf_small hi hj hm]; exact this.2 e⟩
theorem bad_no {r0 : List Bool} {rt : List (List Bool)} (h : 0 < r0.length) : confB (r0.set 0 true :: rt) = false := by
  refine confB_no fun hh => ?_
  have := (hh.2.2 0 0 (by simp) (by simp)).2 rfl
  unfold cf at this
  simp [List.getD_eq_getElem?_getD, List.getElem?_set_self h] at this
theorem RV.takeN {w : World} {B n m : Nat} {A : Option Addr} {vs : List Value} (h : RV w B A n vs) (hm : m ≤ n) : RV w B A m (vs.take m) :=
  ⟨by rw [List.length_take, h.1]; omega, fun hn => by
    obtain ⟨b, o, e, hb, hc⟩ := h.2 (by omega)
    exact ⟨b, o, e, hb, fun j u hu => hc j u (by
      rw [List.getElem?_take] at hu
      split at hu
      · exact hu
      · cases hu)⟩⟩
theorem ownV_lit (w : World) (t : TypeId) : OwnV (w.alloc (.cells #[] t)) t w.heap.size (w.alloc (.cells #[] t)).heap.size (some ⟨w.heap.size, 0, none⟩) 0 0 [] :=
  ownV_blk (vs := []) (Blk.new w t #[]) (Nat.le_refl _) (by simp) rfl (by unfold maxLen; omega)
set_option maxRecDepth 100000 in
set_option maxHeartbeats 3200000 in
theorem fnConflictsValid_walk {A : Option Addr} {n c : Nat} {bs : List Int} (w : World) (h : RV w w.heap.size A n (bs.map (Value.int .u8))) (wf : ∀ x ∈ bs, (Lit.int .u8 x).wf = true) (hl : n ≤ c) (hm : c ≤ maxLen) :
    Calls Try.prog 4 #[.slice A n c] w fun e w' => e = .returned (.bool true) ∧ Below w.heap.size w w' := by
  unfold maxLen at hm
  by_cases hn : n ≤ 1048576
  · have hd := drawConflictsValid_any A n c w.heap.size bs w h (Nat.le_refl _) hl hn (fun x hx => bounds_u8 (wf x hx))
    obtain ⟨i1, hj0, hj1, hj2, hj3⟩ := info_parts infoRowT
    obtain ⟨ib, hb0, hb1', hb2', hb3'⟩ := info_parts infoBo
    clear wf h
    go_enter Try.func4, Try.ntmps4
    go_wp2_with fail
    refine hd.mono ?_
    rintro e w1 ⟨A1, n1, c1, rows, rfl, tab, _, _, hn1, hb1⟩
    have HT := hid tab
    have HB1 := hid hb1
    have HL := hid (RTT.len tab)
    obtain ⟨M, HM⟩ : ∃ M, Hid (confB rows = M) := ⟨_, hid rfl⟩
    have hc1 := confValid_impl A1 n1 c1 w1.heap.size rows w1 tab (by omega)
    have hc2 := confValid_spec A1 n1 c1 w1.heap.size rows w1 tab (by omega)
    rw [HM.out] at hc1 hc2
    have HC1 := hid hc1
    have HC2 := hid hc2
    have hMM : (M != M) = false := by simp
    clear hd hb1 hc1 hc2 tab
    go_wp2_with fail
    refine HC1.out.mono ?_
    rintro e w_ ⟨rfl, rfl⟩
    go_wp2_with fail
    refine HC2.out.mono ?_
    rintro e w2 ⟨rfl, d2, rfl⟩
    by_cases hgo : M = true ∧ 0 < n1
    · obtain ⟨hM, hn0⟩ := hgo
      have HCO := hid (confB_iff.1 (HM.out.trans hM))
      subst hM
      have hneq : ((n1 : Int) == 0) = false := by simp; omega
      obtain ⟨ds, hds, hdl, hdr⟩ := HT.out
      have hdsl : ds.length = n1 := by have := hds.1; simpa using this
      obtain ⟨N1, HN1⟩ : ∃ N1, Hid (n1 = N1 + 1) := ⟨n1 - 1, hid (by omega)⟩
      have r1 : (n1 : Int) - 1 = (N1 : Int) := by have := HN1.out; omega
      have r2 : IntKind.i64.wrap (N1 : Int) = (N1 : Int) := IntWalk.i64_in _ (by have := HN1.out; omega)
      obtain ⟨H6, HH6⟩ : ∃ H6, Hid (ds.map (fun d => Value.slice d.1 N1 d.2.2) = H6) := ⟨_, hid rfl⟩
      obtain ⟨lo, hlo⟩ : ∃ lo, w1.heap.size = lo := ⟨_, rfl⟩
      obtain ⟨W, HW⟩ : ∃ W : World, W = ((w1.drewN d2).alloc (.cells #[] 30)).alloc (.cells #[] 30) := ⟨_, rfl⟩
      have F0 : Fam (w1.drewN d2) lo [] := ⟨fun x hx => absurd hx (by simp), List.Pairwise.nil⟩
      have hlo0 : (w1.drewN d2).heap.size = lo := hlo
      have F1 := Fam.new (x := ⟨30, some ⟨(w1.drewN d2).heap.size, 0, none⟩, 0, 0, []⟩) F0 ((Below.refl _ _).alloc (Nat.le_refl _) (.cells #[] 30)) (Nat.le_of_eq hlo0.symm) (ownV_lit _ _)
      have F2 := Fam.new (x := ⟨30, some ⟨((w1.drewN d2).alloc (.cells #[] 30)).heap.size, 0, none⟩, 0, 0, []⟩) F1 ((Below.refl _ _).alloc (Nat.le_refl _) (.cells #[] 30)) (by simp; omega) (ownV_lit _ _)
      have hs1 : ((w1.drewN d2).alloc (.cells #[] 30)).heap.size = lo + 1 := by simp [hlo]
      rw [hlo0, hs1, ← HW] at F2
      have bW : Below lo w1 W := by rw [HW]; exact (((Same.drewN w1 d2).bel lo).alloc (by show lo ≤ (w1.drewN d2).heap.size; omega) _).alloc (by simp; omega) _
      have HDS := hid (And.intro hds (And.intro hdl hdr))
      have HF2 := hid F2
      clear hds hdl hdr F0 F1 F2
      go_wp2
      simp only [← HW]
      clear HW
      go_loopw [7, 6, 8] (fun v7 v6 i wr => ∃ (k m c7 c6 : Nat) (A7 A6 : Option Addr) (Q : List It), k ≤ n1 ∧ i = .int .i64 k ∧ v7 = .slice A7 k c7 ∧ v6 = .slice A6 m c6 ∧ Hid (m = min k N1) ∧ Fam wr lo (⟨30, A7, k, c7, Q.map It.hdr⟩ :: ⟨30, A6, m, c6, H6.take m⟩ :: Q.reverse) ∧ Hid (Q.map It.vs = (rows.take k).map fun r => r.map Value.bool) ∧ Below lo w1 wr) (fun _ _ i _ => n1 - (intOf i).toNat)
      case atStart => exact ⟨0, 0, 0, 0, _, _, [], Nat.zero_le _, rfl, rfl, rfl, hid (by simp), by simpa using HF2.out, hid (by simp), bW⟩
      case round =>
        obtain ⟨k, m, c7, c6, A7, A6, Q, hk, rfl, rfl, rfl, HMM, fam, HQ, hbr⟩ := hrel
        have hsz := hbr.size
        by_cases hlt : k < n1
        · obtain ⟨d, hd⟩ : ∃ d, ds[k]? = some d := ⟨ds[k]'(by omega), List.getElem?_eq_getElem (by omega)⟩
          obtain ⟨dA, dn, dc⟩ := d
          obtain ⟨r, hr⟩ : ∃ r, rows[k]? = some r := ⟨rows[k]'(by rw [HL.out]; exact hlt), List.getElem?_eq_getElem (by rw [HL.out]; exact hlt)⟩
          have hrow := HDS.out.2.2 k (dA, dn, dc) (r.map Value.bool) hd (by rw [List.getElem?_map, hr]; rfl)
          have hrl : r.length = n1 := by rw [HCO.out.2.1 k r hr]; exact HL.out
          have hdn : dn = n1 := by have := hrow.1.1; simp at this; omega
          subst hdn
          obtain ⟨b1, o1, u1, rfl, hb1, hu1, hcl1⟩ := RV.at_ (RV.below HDS.out.1 (show Below w1.heap.size w1 wr by rw [hlo]; exact hbr)) hlt
          rw [List.getElem?_map, hd] at hu1
          simp [slv] at hu1
          subst hu1
          obtain ⟨b2, o2, eA, hb2, hc2⟩ := hrow.1.2 hn0
          simp only at eA
          subst eA
          have HRV := hid (show RV w1 w1.heap.size (some ⟨b2, o2, none⟩) dn (r.map Value.bool) from hrow.1)
          have HCL : Hid (∀ W', Below lo wr W' → W'.cell? ⟨b1, o1 + k, none⟩ = some (.slice (some ⟨b2, o2, none⟩) dn dc)) := hid (fun W' h => (h.cell (p := ⟨b1, o1 + k, none⟩) (by show b1 < lo; omega)).trans hcl1)
          have hdc : ¬ dc = 0 := by have := hrow.2.1; simp only at this; omega
          have hNdc : (N1 : Int) ≤ (dc : Int) := by have := hrow.2.1; have := HN1.out; simp only at *; omega
          have HQ2 : Hid (∀ A2 c2, (Q ++ [(⟨4, A2, dn, c2, r.map Value.bool⟩ : It)]).map It.vs = (rows.take (k + 1)).map fun r => r.map Value.bool) := hid (fun A2 c2 => by
            rw [take_snoc _ _ _ hr, List.map_append, List.map_append, HQ.out]; rfl)
          have HU : Hid (H6[k]? = some (.slice (some ⟨b2, o2, none⟩) N1 dc)) := hid (by rw [← HH6.out, List.getElem?_map, hd]; rfl)
          have hown0 := own_lit0 (w := wr) 4 (Nat.le_refl _)
          have HFM := hid fam
          have HBR := hid hbr
          have hzlo : lo ≤ wr.heap.size := by omega
          have hb1w : b1 < wr.heap.size := by omega
          clear hd hr hrow hrl hb2 hc2 fam hbr bW
          by_cases hkN : k < N1
          · have hmk : k = m := by have := HMM.out; omega
            subst hmk
            have hk1 : k < N1 := hkN
            go_wp2_with (first
              | (at_builtin; refine wpList_pushZ rfl _ _ _ rfl lo 30 i1 _ 24 Try.underlying22 hj0 hj1 hj2 hj3 rfl (by omega) _ _ A7 k c7 _ rfl hown7 w2.heap.size rfl rfl rfl (by omega) (by omega) ?_; intro g7 cap7 w3 hown7' hgrow7 hlies7 hlt7; have F3 := Fam.push HF2.out.1 hown7' hgrow7 (by rcases hlies7 with h | h; exact .inl h; exact .inr (by omega)); have hb3 := (HF2.out.2.mono hzlo).trans (grown_bel hown7 hgrow7 (by omega)); have hc3 := HCL.out w3 hb3; have hz3 := hgrow7.size; have F3 := F3.perm (List.Perm.trans (List.Perm.cons _ (List.Perm.swap _ _ _)) (List.Perm.swap _ _ _)); have hown6 := F3.own; have HF3 := hid (And.intro F3 hb3); clear F3 hown7' hgrow7 hlies7 hb3)
              | (at_builtin; refine wpList_pushZ rfl _ _ _ rfl lo 30 i1 _ 24 Try.underlying22 hj0 hj1 hj2 hj3 rfl (by omega) _ _ A6 k c6 _ rfl hown6 w3.heap.size rfl rfl rfl (by omega) (by omega) ?_; intro g6 cap6 w4 hown6' hgrow6 hlies6 hlt6; have F4 := (Fam.push HF3.out.1 hown6' hgrow6 (by rcases hlies6 with h | h; exact .inl h; exact .inr (by omega))).perm (List.Perm.swap _ _ _); have hb4 := HF3.out.2.trans (grown_bel hown6 hgrow6 (by omega)); have HF4 := hid (And.intro F4 hb4); clear F4 hown6' hgrow6 hlies6 hb4)
              | (at_builtin; refine wpList_all rfl _ _ _ rfl wr.heap.size 4 ib _ 1 Try.underlying30 hb0 hb1' hb2' hb3' rfl (by omega) _ 0 0 [] rfl hown0 w1.heap.size (some ⟨b2, o2, none⟩) dn dc (r.map Value.bool) rfl (RV.alloc (RV.below HRV.out (HBR.out.mono (Nat.le_of_eq hlo))) (by omega) _) (by intro u hu; obtain ⟨x, _, rfl⟩ := List.mem_map.1 hu; rfl) (by omega) (by omega) (by simp) ?_; intro A2 c2 w2 hown2 hgrow2; simp only [Nat.zero_add, List.nil_append] at hown2; have hbb2 := below_push ((Below.refl wr.heap.size wr).alloc (Nat.le_refl _) _) hown0 (Nat.le_refl _) (by simp) hgrow2; have F2 := (Fam.new (x := ⟨4, A2, dn, c2, r.map Value.bool⟩) HFM.out hbb2 hzlo (ownV_of1 hown2)).perm (List.Perm.swap _ _ _); have hown7 := F2.own; have hz2 := hbb2.size; have HF2 := hid (And.intro F2 hbb2); clear F2 hown2 hgrow2 hbb2))
            go_roundw
            case rel => exact ⟨k + 1, k + 1, cap7, cap6, _, _, Q ++ [⟨4, A2, dn, c2, r.map Value.bool⟩], by omega, by go_num, rfl, rfl, hid (by omega), by rw [List.map_append, take_snoc _ _ _ HU.out, List.reverse_append]; exact HF4.out.1, hid (HQ2.out A2 c2), HBR.out.trans HF4.out.2⟩
            case measure => simp [intOf]; omega
          · have hmN : N1 = m := by have := HMM.out; have := HN1.out; omega
            subst hmN
            have hkN1 : ¬ k < N1 := hkN
            go_wp2_with (first
              | (at_builtin; refine wpList_pushZ rfl _ _ _ rfl lo 30 i1 _ 24 Try.underlying22 hj0 hj1 hj2 hj3 rfl (by omega) _ _ A7 k c7 _ rfl hown7 w2.heap.size rfl rfl rfl (by omega) (by omega) ?_; intro g7 cap7 w3 hown7' hgrow7 hlies7 hlt7; have F3 := Fam.push HF2.out.1 hown7' hgrow7 (by rcases hlies7 with h | h; exact .inl h; exact .inr (by omega)); have hb3 := (HF2.out.2.mono hzlo).trans (grown_bel hown7 hgrow7 (by omega)); have hc3 := HCL.out w3 hb3; have hz3 := hgrow7.size;  have HF3 := hid (And.intro F3 hb3); clear F3 hown7' hgrow7 hlies7 hb3)
              | (at_builtin; refine wpList_all rfl _ _ _ rfl wr.heap.size 4 ib _ 1 Try.underlying30 hb0 hb1' hb2' hb3' rfl (by omega) _ 0 0 [] rfl hown0 w1.heap.size (some ⟨b2, o2, none⟩) dn dc (r.map Value.bool) rfl (RV.alloc (RV.below HRV.out (HBR.out.mono (Nat.le_of_eq hlo))) (by omega) _) (by intro u hu; obtain ⟨x, _, rfl⟩ := List.mem_map.1 hu; rfl) (by omega) (by omega) (by simp) ?_; intro A2 c2 w2 hown2 hgrow2; simp only [Nat.zero_add, List.nil_append] at hown2; have hbb2 := below_push ((Below.refl wr.heap.size wr).alloc (Nat.le_refl _) _) hown0 (Nat.le_refl _) (by simp) hgrow2; have F2 := (Fam.new (x := ⟨4, A2, dn, c2, r.map Value.bool⟩) HFM.out hbb2 hzlo (ownV_of1 hown2)).perm (List.Perm.swap _ _ _); have hown7 := F2.own; have hz2 := hbb2.size; have HF2 := hid (And.intro F2 hbb2); clear F2 hown2 hgrow2 hbb2))
            go_roundw
            case rel => exact ⟨k + 1, N1, cap7, c6, _, _, Q ++ [⟨4, A2, dn, c2, r.map Value.bool⟩], by omega, by go_num, rfl, rfl, hid (by have := HN1.out; omega), by rw [List.map_append, List.reverse_append]; exact HF3.out.1.perm (List.Perm.cons _ (List.Perm.swap _ _ _)), hid (HQ2.out A2 c2), HBR.out.trans HF3.out.2⟩
            case measure => simp [intOf]; omega
        · have hkn : k = n1 := by omega
          subst hkn
          have hmN : N1 = m := by have := HMM.out; have := HN1.out; omega
          subst hmN
          have hQl : Q.length = k := by
            have := congrArg List.length HQ.out
            simp at this
            have := HL.out
            omega
          obtain ⟨q0, Qt, hQe⟩ : ∃ q0 Qt, Q = q0 :: Qt := by
            cases Q with
            | nil => simp at hQl; omega
            | cons a b => exact ⟨a, b, rfl⟩
          subst hQe
          obtain ⟨r0, rt, hre⟩ : ∃ r0 rt, rows = r0 :: rt := by
            cases hr : rows with
            | nil => have := HL.out; rw [hr] at this; simp at this; omega
            | cons a b => exact ⟨a, b, rfl⟩
          have HRE := hid hre
          have hr0l : r0.length = k := by
            have := HCO.out.2.1 0 r0 (by rw [hre]; rfl)
            rw [this]; exact HL.out
          have hQv : (q0 :: Qt).map It.vs = (r0 :: rt).map fun r => r.map Value.bool := by
            have := HQ.out
            rw [List.take_of_length_le (by rw [HL.out]; exact Nat.le_refl _), hre] at this
            exact this
          simp only [List.map_cons, List.cons.injEq] at hQv
          obtain ⟨hq0, hqt⟩ := hQv
          have f7 := fam.head
          have famq := fam.perm (L' := q0 :: ⟨30, A7, k, c7, (q0 :: Qt).map It.hdr⟩ :: ⟨30, A6, N1, c6, H6.take N1⟩ :: Qt.reverse) (by
            rw [List.reverse_cons]
            have := List.perm_append_comm (l₁ := (⟨30, A7, k, c7, (q0 :: Qt).map It.hdr⟩ : It) :: ⟨30, A6, N1, c6, H6.take N1⟩ :: Qt.reverse) (l₂ := [q0])
            simpa using this)
          have hq0n : q0.n = k := by
            have := famq.head.1
            rw [hq0] at this
            simp at this
            omega
          obtain ⟨b7, o7, u7, e7, hb7, hu7, hcl7⟩ := RV.at_ f7.rv hn0
          simp at hu7
          subst hu7
          rw [Nat.add_zero] at hcl7
          obtain ⟨g0, eq0, g01, g02, hc0, hf0, famS⟩ := Fam.set famq (k := 0) (by omega) (.bool true)
          obtain ⟨x0, hx0⟩ : ∃ x0, r0[0]? = some x0 := ⟨r0[0]'(by omega), List.getElem?_eq_getElem (by omega)⟩
          have hc0' : wr.cell? ⟨g0, 0, none⟩ = some (.bool x0) := by
            rw [hc0, hq0, List.getElem?_map, hx0]; rfl
          have hhd : q0.hdr = .slice (some ⟨g0, 0, none⟩) k q0.c := by unfold It.hdr; rw [eq0, hq0n]
          rw [hhd] at hcl7
          obtain ⟨W9, HW9⟩ : ∃ W : World, W = wr.setCell ⟨g0, 0, none⟩ (.bool true) := ⟨_, rfl⟩
          have b9 : Below lo w1 W9 := by rw [HW9]; exact hbr.setCell (p := ⟨g0, 0, none⟩) g01 _
          rw [← HW9] at famS
          have hz9 : lo ≤ W9.heap.size := by have := b9.size; omega
          -- the bad table
          have p7 := famS.perm (L' := ⟨30, A7, k, c7, (q0 :: Qt).map It.hdr⟩ :: ⟨q0.t, q0.A, q0.n, q0.c, q0.vs.set 0 (.bool true)⟩ :: ⟨30, A6, N1, c6, H6.take N1⟩ :: Qt.reverse) (List.Perm.swap _ _ _)
          have hbadr : RTT W9 W9.heap.size A7 k (r0.set 0 true :: rt) := Fam.rtt (x := ⟨30, A7, k, c7, (q0 :: Qt).map It.hdr⟩) (Q := ⟨q0.t, q0.A, q0.n, q0.c, q0.vs.set 0 (.bool true)⟩ :: Qt) (lo := lo) p7.head.rv
            (fun y hy => by
              rcases List.mem_cons.1 hy with rfl | hy
              · exact famS.head
              · exact famS.1 y (by simp [hy])) (by
              simp only [List.map_cons]
              rw [hqt, hq0, List.map_set])
          have hbad := confValid_impl A7 k c7 W9.heap.size _ W9 hbadr (by omega)
          rw [bad_no (by omega)] at hbad
          -- the small table
          have p6 := famS.perm (L' := ⟨30, A6, N1, c6, H6.take N1⟩ :: ⟨q0.t, q0.A, q0.n, q0.c, q0.vs.set 0 (.bool true)⟩ :: ⟨30, A7, k, c7, (q0 :: Qt).map It.hdr⟩ :: Qt.reverse) (by
            refine List.Perm.trans (List.Perm.cons _ (List.Perm.swap _ _ _)) (List.Perm.swap _ _ _))
          have hsmr : RTT W9 W9.heap.size A6 N1 (smallT rows N1) := by
            refine ⟨(ds.take N1).map fun d => (d.1, N1, d.2.2), ?_, ?_, ?_⟩
            · have := p6.head.rv
              rw [← HH6.out] at this
              rw [List.map_map]
              rw [← List.map_take] at this
              exact this
            · unfold smallT; simp; have := HL.out; have := HN1.out; omega
            · intro j d vs hd hv
              rw [List.getElem?_map, List.getElem?_take] at hd
              unfold smallT at hv
              rw [List.getElem?_map, List.getElem?_map, List.getElem?_take] at hv
              split at hd
              · rename_i hj
                rw [if_pos hj] at hv
                cases hdj : ds[j]? with
                | none => rw [hdj] at hd; simp at hd
                | some dd =>
                  cases hrj : rows[j]? with
                  | none => rw [hrj] at hv; simp at hv
                  | some rr =>
                    rw [hdj] at hd
                    rw [hrj] at hv
                    simp at hd hv
                    subst hd hv
                    have := HDS.out.2.2 j dd (rr.map Value.bool) hdj (by rw [List.getElem?_map, hrj]; rfl)
                    have hl1 := this.1.1
                    have hl2 := HCO.out.2.1 j rr hrj
                    rw [List.length_map] at hl1
                    have hl3 := HL.out
                    have hl4 := HN1.out
                    refine ⟨?_, by show N1 ≤ dd.2.2; have := this.2.1; omega, this.2.2⟩
                    have h9 := RV.takeN (m := N1) (RV.more (RV.below this.1 (b9.mono (Nat.le_of_eq hlo))) (show w1.heap.size ≤ W9.heap.size by omega)) (by omega)
                    exact h9
              · cases hd
          have hsm := confValid_impl A6 N1 c6 W9.heap.size _ W9 hsmr (by have := HN1.out; omega)
          rw [confB_yes (small_ok HCO.out (by have := HL.out; have := HN1.out; omega))] at hsm
          have HSM := hid hsm
          have HBD := hid hbad
          have HF := hid (show Below w.heap.size w W9 from HB1.out.trans (b9.mono (by rw [← hlo]; exact HB1.out.size)))
          subst e7
          clear hc0 hq0 hqt famq famS p7 p6 fam f7 hbadr hsmr hsm hbad hQl hbr hre b9 hhd eq0 hx0
          go_upto_region 19 with fail
          simp only [← HW9]
          clear HW9 hc0' hf0 hcl7
          go_wp2_with fail
          refine HSM.out.mono ?_
          rintro e w_ ⟨rfl, rfl⟩
          go_wp2_with fail
          refine HBD.out.mono ?_
          rintro e w_ ⟨rfl, rfl⟩
          go_wp2
          go_ret
          exact ⟨rfl, HF.out⟩
    · have HBd := hid (show Below w.heap.size w (w1.drewN d2) from HB1.out.trans ((Same.drewN _ _).bel _))
      by_cases hM : M = true
      · have hn0 : n1 = 0 := by
          rcases Nat.eq_zero_or_pos n1 with h | h
          · exact h
          · exact absurd ⟨hM, h⟩ hgo
        subst hM hn0
        clear hgo
        go_wp2_with fail
        refine (alive_any _).mono ?_
        rintro e w5 ⟨rfl, hb5⟩
        have HB5 := hid (HBd.out.trans (hb5.mono HBd.out.size))
        clear hb5
        go_wp2
        go_ret
        exact ⟨rfl, HB5.out⟩
      · have hMf : M = false := by simpa using hM
        subst hMf
        clear hgo hM
        go_wp2_with fail
        refine (alive_any _).mono ?_
        rintro e w5 ⟨rfl, hb5⟩
        have HB5 := hid (HBd.out.trans (hb5.mono HBd.out.size))
        clear hb5
        go_wp2
        go_ret
        exact ⟨rfl, HB5.out⟩
  · go_enter Try.func4, Try.ntmps4
    go_wp2
    go_ret
    exact ⟨rfl, Below.refl _ _⟩
end Go.Proofs.Ytgccpjhkgkhllaa
