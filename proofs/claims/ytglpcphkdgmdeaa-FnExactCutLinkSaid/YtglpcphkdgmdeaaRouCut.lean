/-
  CutLink, the program's and the reference's, walked.
-/
import Derived.Test.YtglpcphkdgmdeaaRou
import Derived.Test.YtglpcphkdgmdeaaTabI
namespace Go.Proofs.Ytglpcphkdgmdeaa
open Go.RowKit
set_option linter.unusedVariables false

def StOk (n : Nat) (k : Int) : Prop := 0 ≤ k ∧ k < (n : Int)
open Classical in
noncomputable def cutL (rows : List (List Int)) (fr to : Int) : List (List Int) :=
  if CostsOk rows ∧ StOk rows.length fr ∧ StOk rows.length to then rows.set fr.toNat ((rows.getD fr.toNat []).set to.toNat 0) else []
theorem cutL_no {rows : List (List Int)} {fr to : Int} (h : ¬ (CostsOk rows ∧ StOk rows.length fr ∧ StOk rows.length to)) : cutL rows fr to = [] := by unfold cutL; rw [if_neg h]
theorem cutL_yes {rows : List (List Int)} {fr to : Int} (h : CostsOk rows ∧ StOk rows.length fr ∧ StOk rows.length to) : cutL rows fr to = rows.set fr.toNat ((rows.getD fr.toNat []).set to.toNat 0) := by unfold cutL; rw [if_pos h]
theorem stationOf_yes (A : Option Addr) (n c : Nat) (k : Int) (w : World) (h0 : 0 ≤ k) (h1 : k < (n : Int)) : Calls Try.prog 24 #[.slice A n c, .int .i64 k] w fun e w' => e = .returned (.bool true) ∧ w = w' := by
  go_enter Try.func24, Try.ntmps24
  go_wp2
  go_ret
  exact ⟨ret_bool (by first | rfl | (simp; omega)), rfl⟩
theorem stationOf_no (A : Option Addr) (n c : Nat) (k : Int) (w : World) (h : k < 0 ∨ (n : Int) ≤ k) : Calls Try.prog 24 #[.slice A n c, .int .i64 k] w fun e w' => e = .returned (.bool false) ∧ w = w' := by
  by_cases h1 : 0 ≤ k
  · have h2 : (n : Int) ≤ k := by omega
    go_enter Try.func24, Try.ntmps24
    go_wp2
    go_ret
    exact ⟨ret_bool (by first | rfl | (simp; omega)), rfl⟩
  · go_enter Try.func24, Try.ntmps24
    go_wp2
    go_ret
    exact ⟨ret_bool (by first | rfl | (simp; omega)), rfl⟩
theorem infoI : (Try.prog.info? 3).map (fun i => (i.zero, i.size, i.bytes)) = some (some (.int .i64 0), 1, 8) := by kernel_rfl
set_option maxHeartbeats 1600000 in
theorem cutLink_impl (A : Option Addr) (n c B : Nat) (rows : List (List Int)) (fr to : Int) (w : World) (h : RII w B A n rows) (hB : B ≤ w.heap.size) (hn : n ≤ 1000000000) :
    Calls Try.prog 14 #[.slice A n c, .int .i64 fr, .int .i64 to] w fun e w' => RetII 30 3 w e w' (cutL rows fr to) := by
  have HL := hid (RII.len h)
  have hcv := hid (costsValid_impl A n c B rows w h hn)
  by_cases hok : CostsOk rows ∧ StOk rows.length fr ∧ StOk rows.length to
  · obtain ⟨hco, ⟨f0, f1⟩, ⟨t0, t1⟩⟩ := hok
    have HV := hid (cutL_yes ⟨hco, ⟨f0, f1⟩, ⟨t0, t1⟩⟩)
    have hcb := hid (costsB_yes hco)
    have HCO := hid hco
    rw [HL.out] at f1 t1
    obtain ⟨F, rfl⟩ := Int.eq_ofNat_of_zero_le f0
    obtain ⟨T, rfl⟩ := Int.eq_ofNat_of_zero_le t0
    have hn10 : n ≤ 10 := by have := hco.1; rw [HL.out] at this; exact this
    clear hco
    have hmk := fun (W : World) => run_make0 (P := Try.prog) 22 30 (.slice none 0 0) 24 Try.underlying22 infoRowI rfl .i64 .i64 n (by omega) (by omega) W
    obtain ⟨i0, hi0, hz0, hz1, hz2⟩ := info_parts infoI
    obtain ⟨i1, hj0, hj1, hj2, hj3⟩ := info_parts infoRowI
    have hi0 := hid hi0
    go_enter Try.func14, Try.ntmps14
    go_wp2_with fail
    refine hcv.out.mono ?_
    rintro e w1 ⟨rfl, rfl⟩
    rw [hcb.out]
    go_wp2_with fail
    refine (stationOf_yes _ _ _ _ _ (by omega) (by omega)).mono ?_
    rintro e w1 ⟨rfl, rfl⟩
    go_wp2_with fail
    refine (stationOf_yes _ _ _ _ _ (by omega) (by omega)).mono ?_
    rintro e w1 ⟨rfl, rfl⟩
    go_wp2
    go_loopw [7, 30] (fun v i wr => ∃ (k c' : Nat) (A' : Option Addr), k ≤ n ∧ i = .int .i64 k ∧ v = .slice A' k c' ∧ OwnII wr 30 3 w.heap.size wr.heap.size A' k c' (rows.take k) ∧ Below w.heap.size w wr) (fun _ i _ => n - (intOf i).toNat)
    case atStart => exact ⟨0, n, _, Nat.zero_le _, rfl, rfl, ⟨[], ⟨rfl, Nat.zero_le _, by unfold maxLen; omega, .inr ⟨w.heap.size, _, rfl, Nat.le_refl _, by simp, by simp, Blk.new _ _ _, by simp [madeCells], by simp⟩⟩, by simp, fun j d vs hd => by simp at hd, fun i j di dj a b _ hd => by simp at hd, fun j d a b hd => by simp at hd⟩, (Below.refl _ _).alloc (Nat.le_refl _) _⟩
    case round =>
      obtain ⟨k, cc, AA, hk, rfl, rfl, hown, hbel⟩ := hrel
      by_cases hlt : k < n
      · obtain ⟨b, o, A', n', c', r, rfl, hb, hx, hcl, hrr, hn', hc'⟩ := RII.at_ (RVV.below h (hbel.mono hB)) hlt
        have hrl : r.length = n' := RI.len hrr
        have hn2 : n' ≤ 1000 := by have := HCO.out; have := this.2 k r hx; have := this.1; have := HL.out; omega
        have HX := hid hx
        have HO := hid (And.intro hown hbel)
        have hown0 := own_lit0 (w := wr) 3 (Nat.le_refl _)
        clear hx hown hbel
        go_wp2_with (first
          | (at_builtin; refine wpList_push rfl _ _ _ rfl w.heap.size 30 i1 _ 24 Try.underlying22 hj0 hj1 hj2 hj3 rfl (by omega) _ _ AA k cc us rfl hus rfl rfl (by omega) hz2w ?_; intro g_ cap_ w3 hown3 hgrow3 hlies3 hlt3)
          | (at_builtin; refine wpList_all rfl _ _ _ rfl wr.heap.size 3 i0 _ 8 Try.underlying30 hi0.out hz0 hz1 hz2 rfl (by omega) _ 0 0 [] rfl hown0 B A' n' c' (r.map (Value.int .i64)) rfl (RV.alloc hrr (Nat.le_trans hB HO.out.2.size) _) (by intro u hu; obtain ⟨x, _, rfl⟩ := List.mem_map.1 hu; rfl) (by omega) (by omega) (by simp) ?_; intro A2 c2 w2 hown2 hgrow2; simp only [Nat.zero_add, List.nil_append] at hown2; have hb2 := below_push ((Below.refl wr.heap.size wr).alloc (Nat.le_refl _) _) hown0 (Nat.le_refl _) (by simp) hgrow2; have htab2 := OwnVV.below HO.out.1 hb2 (Nat.le_refl _); obtain ⟨us, hus, hpush⟩ := OwnVV.push (base := w.heap.size) htab2 (ownV_of1 hown2) (Nat.le_refl _) HO.out.2.size (Nat.le_refl _) (Nat.le_refl _) hb2.size; have hz2w : w.heap.size ≤ w2.heap.size := Nat.le_trans HO.out.2.size hb2.size; have HP := hid hpush; have HB2 := hid (HO.out.2.trans (hb2.mono HO.out.2.size)); clear hpush htab2 hb2 hown2 hgrow2))
        have H3 := hid (And.intro (HP.out g_ cap_ w3 hown3 hgrow3 (by rcases hlies3 with h | h; exact .inl h; exact .inr (by omega)) hlt3) (below_push HB2.out hus (Nat.le_refl _) hz2w hgrow3))
        clear hown3 hgrow3 hlies3 hlt3 hus
        go_roundw
        case rel => exact ⟨k + 1, cap_, _, by omega, by go_num, rfl, by
          have h4 := H3.out.1
          unfold OwnII
          rw [take_snoc _ _ _ HX.out, List.map_append]
          exact h4, H3.out.2⟩
        case measure => simp [intOf]; omega
      · have hkn : k = n := by omega
        subst hkn
        rw [List.take_of_length_le (by rw [HL.out]; omega)] at hown
        obtain ⟨g, A', n', c', vs, rfl, g1, g2, hv, hcl, hro, hne, hset⟩ := OwnVV.row hown (k := F) (by omega)
        rw [List.getElem?_map] at hv
        cases hx : rows[F]? with
        | none => rw [hx] at hv; simp at hv
        | some r =>
          rw [hx] at hv
          simp at hv
          subst hv
          have hrow : RowOk k F r := by have := HCO.out.2 F r hx; rwa [HL.out] at this
          have hn' : n' = k := by have := OwnI.len hro; have := hrow.1; omega
          subst hn'
          obtain ⟨g', y, rfl, e1, e2, e3, hy, hcy, hfr, hro2⟩ := OwnI.stored (k := T) hro (by omega) 0
          have hne' : g' ≠ g := hne _ rfl
          have h5 := hset (wr.setCell ⟨g', T, none⟩ (.int .i64 0)) _ (by simp [World.setCell]) (fun q hq1 hq2 => Below.heap_setCell _ _ _ _ (by intro e; exact hq2 _ rfl e.symm)) hro2
          have h6 := hbel.setCell (p := ⟨g', T, none⟩) (by show w.heap.size ≤ g'; omega) (.int .i64 0)
          have H5 := hid (And.intro h5 h6)
          have HX := hid hx
          have hF0 : (0 : Int) ≤ (F : Int) := by omega
          have hT0 : (0 : Int) ≤ (T : Int) := by omega
          clear h5 h6 hy hset hown hbel hro hro2 hx hne hrow
          go_wp2
          go_ret
          refine ⟨_, _, _, rfl, ?_, H5.out.2⟩
          have h7 := H5.out.1
          rw [HV.out]
          unfold OwnII
          rw [List.map_set, Int.toNat_natCast, Int.toNat_natCast, List.getD_eq_getElem?_getD, HX.out]
          have : (World.setCell wr ⟨g', T, none⟩ (.int .i64 0)).heap.size = wr.heap.size := by simp [World.setCell]
          rw [this]
          exact h7
  · have HV := hid (cutL_no hok)
    by_cases hco : CostsOk rows
    · have hcb := hid (costsB_yes hco)
      by_cases hf : 0 ≤ fr ∧ fr < (n : Int)
      · have ht : to < 0 ∨ (n : Int) ≤ to := by
          by_cases h1 : 0 ≤ to
          · by_cases h2 : to < (n : Int)
            · exact absurd ⟨hco, ⟨hf.1, by rw [HL.out]; exact hf.2⟩, ⟨h1, by rw [HL.out]; exact h2⟩⟩ hok
            · omega
          · omega
        have hs1 := hid (stationOf_yes A n c fr w hf.1 hf.2)
        have hs2 := hid (stationOf_no A n c to w ht)
        clear hf ht hok hco
        go_enter Try.func14, Try.ntmps14
        go_wp2_with fail
        refine hcv.out.mono ?_
        rintro e w1 ⟨rfl, rfl⟩
        rw [hcb.out]
        go_wp2_with fail
        refine hs1.out.mono ?_
        rintro e w1 ⟨rfl, rfl⟩
        go_wp2_with fail
        refine hs2.out.mono ?_
        rintro e w1 ⟨rfl, rfl⟩
        go_wp2
        go_ret
        rw [HV.out]
        exact retII_nil _ _ (Below.refl _ _)
      · have hs1 := hid (stationOf_no A n c fr w (by omega))
        clear hf hok hco
        go_enter Try.func14, Try.ntmps14
        go_wp2_with fail
        refine hcv.out.mono ?_
        rintro e w1 ⟨rfl, rfl⟩
        rw [hcb.out]
        go_wp2_with fail
        refine hs1.out.mono ?_
        rintro e w1 ⟨rfl, rfl⟩
        go_wp2
        go_ret
        rw [HV.out]
        exact retII_nil _ _ (Below.refl _ _)
    · have hcb := hid (costsB_no hco)
      clear hok hco
      go_enter Try.func14, Try.ntmps14
      go_wp2_with fail
      refine hcv.out.mono ?_
      rintro e w1 ⟨rfl, rfl⟩
      rw [hcb.out]
      go_wp2
      go_ret
      rw [HV.out]
      exact retII_nil _ _ (Below.refl _ _)
theorem set_take_far {α : Type} (rows : List α) (F k : Nat) (x : α) (h : k ≤ F) : (rows.set F x).take k = rows.take k := List.take_set_of_le h
set_option maxHeartbeats 1600000 in
theorem cutLink_spec (A : Option Addr) (n c B : Nat) (rows : List (List Int)) (fr to : Int) (w : World) (h : RII w B A n rows) (hB : B ≤ w.heap.size) (hn : n ≤ 1000000000) :
    Calls Try.prog 13 #[.slice A n c, .int .i64 fr, .int .i64 to] w fun e w' => RetII 30 3 w e w' (cutL rows fr to) := by
  have HL := hid (RII.len h)
  have hbA := (Below.refl w.heap.size w).alloc (Nat.le_refl _) (.cells #[] 30)
  have hcv := hid (costsValid_spec A n c B rows _ (RVV.below h (hbA.mono hB)) hn)
  by_cases hok : CostsOk rows ∧ StOk rows.length fr ∧ StOk rows.length to
  · obtain ⟨hco, ⟨f0, f1⟩, ⟨t0, t1⟩⟩ := hok
    have HV := hid (cutL_yes ⟨hco, ⟨f0, f1⟩, ⟨t0, t1⟩⟩)
    have hcb := hid (costsB_yes hco)
    have HCO := hid hco
    rw [HL.out] at f1 t1
    obtain ⟨F, rfl⟩ := Int.eq_ofNat_of_zero_le f0
    obtain ⟨T, rfl⟩ := Int.eq_ofNat_of_zero_le t0
    have hn10 : n ≤ 10 := by have := hco.1; rw [HL.out] at this; exact this
    have hFl : F < rows.length := by rw [HL.out]; omega
    obtain ⟨V, hVd⟩ : ∃ V, V = rows.set F ((rows.getD F []).set T 0) := ⟨_, rfl⟩
    have HVd := hid hVd
    have HVl : Hid (V.length = n) := hid (by rw [hVd, List.length_set]; exact HL.out)
    have HV2 : Hid (cutL rows F T = V) := hid (by rw [HV.out, hVd]; simp)
    clear hco hVd hFl
    obtain ⟨i0, hi0, hz0, hz1, hz2⟩ := info_parts infoI
    obtain ⟨i1, hj0, hj1, hj2, hj3⟩ := info_parts infoRowI
    have hi0 := hid hi0
    have HBA := hid hbA
    have hs1 := fun W => l1In_yes (F : Int) 0 ((n : Int) - 1) W (by omega) (by omega)
    have hs2 := fun W => l1In_yes (T : Int) 0 ((n : Int) - 1) W (by omega) (by omega)
    have HS1 := hid hs1; have HS2 := hid hs2
    clear hs1 hs2 hbA
    go_enter Try.func13, Try.ntmps13
    go_wp2_with fail
    refine hcv.out.mono ?_
    rintro e w1 ⟨rfl, rfl⟩
    rw [hcb.out]
    go_wp2_with fail
    refine (HS2.out _).mono ?_
    rintro e w1 ⟨rfl, rfl⟩
    go_wp2_with fail
    refine (HS1.out _).mono ?_
    rintro e w1 ⟨rfl, rfl⟩
    go_wp2
    go_loopw [7, 8] (fun v i wr => ∃ (k c' : Nat) (A' : Option Addr), k ≤ n ∧ i = .int .i64 k ∧ v = .slice A' k c' ∧ OwnII wr 30 3 w.heap.size wr.heap.size A' k c' (V.take k) ∧ Below w.heap.size w wr) (fun _ i _ => n - (intOf i).toNat)
    case atStart => exact ⟨0, 0, _, Nat.zero_le _, rfl, rfl, ownVV_lit0 _ _ (Nat.le_refl _), HBA.out⟩
    case round =>
      obtain ⟨k, cc, AA, hk, rfl, rfl, hown, hbel⟩ := hrel
      by_cases hlt : k < n
      · obtain ⟨b, o, A', n', c', r, rfl, hb, hx, hcl, hrr, hn', hc'⟩ := RII.at_ (RVV.below h (hbel.mono hB)) hlt
        have hrl : r.length = n' := RI.len hrr
        have hrow : RowOk n k r := by have := HCO.out.2 k r hx; rwa [HL.out] at this
        have hnn : n' = n := by rw [← hrl]; exact hrow.1
        subst hnn
        have HX := hid hx
        have HO := hid (And.intro hown hbel)
        have hbw : b < wr.heap.size := Nat.lt_of_lt_of_le hb (Nat.le_trans hB HO.out.2.size)
        have hown0 := own_lit0 (w := wr) 3 (Nat.le_refl _)
        clear hx hown hbel hrow
        by_cases hkF : k = F
        · subst hkF
          have hqq : ((k : Int) == (k : Int)) = true := by simp
          have HVk : Hid (V[k]? = some (r.set T 0)) := hid (by rw [HVd.out, List.getElem?_set_self (by rw [HL.out]; exact hlt), List.getD_eq_getElem?_getD, HX.out]; rfl)
          have hT0 : (0 : Int) ≤ (T : Int) := by omega
          go_wp2_with (first
            | (at_builtin; refine wpList_pushZ rfl _ _ _ rfl w.heap.size 30 i1 _ 24 Try.underlying22 hj0 hj1 hj2 hj3 rfl (by omega) _ _ AA k cc us rfl hus w2.heap.size hsz3.symm rfl rfl (by omega) hz2w ?_; intro g_ cap_ w3 hown3 hgrow3 hlies3 hlt3)
            | (at_builtin; refine wpList_all rfl _ _ _ rfl wr.heap.size 3 i0 _ 8 Try.underlying30 hi0.out hz0 hz1 hz2 rfl (by omega) _ 0 0 [] rfl hown0 B A' n' c' (r.map (Value.int .i64)) rfl (RV.alloc hrr (Nat.le_trans hB HO.out.2.size) _) (by intro u hu; obtain ⟨x, _, rfl⟩ := List.mem_map.1 hu; rfl) (by omega) (by omega) (by simp) ?_; intro A2 c2 w2 hown2 hgrow2; simp only [Nat.zero_add, List.nil_append] at hown2; have hb2 := below_push ((Below.refl wr.heap.size wr).alloc (Nat.le_refl _) _) hown0 (Nat.le_refl _) (by simp) hgrow2; obtain ⟨g', y, hA2, e1, e2, e3, hy, hcy, hfr, hro2⟩ := OwnI.stored (k := T) (ownV_of1 hown2) (by omega) 0; subst hA2; have hb3 := hb2.setCell (p := ⟨g', T, none⟩) e1 (.int .i64 0); have htab2 := OwnVV.below HO.out.1 hb3 (Nat.le_refl _); have hsz3 : (w2.setCell ⟨g', T, none⟩ (.int .i64 0)).heap.size = w2.heap.size := (by simp [World.setCell]); have hro3 := OwnV.more hro2 (Nat.le_refl _) (Nat.le_of_eq hsz3.symm); obtain ⟨us, hus, hpush⟩ := OwnVV.push (base := w.heap.size) htab2 hro3 (Nat.le_refl _) HO.out.2.size (Nat.le_refl _) (Nat.le_refl _) hb3.size; have hz2w : w.heap.size ≤ (w2.setCell ⟨g', T, none⟩ (.int .i64 0)).heap.size := Nat.le_trans HO.out.2.size hb3.size; have HP := hid hpush; have HB2 := hid (HO.out.2.trans (hb3.mono HO.out.2.size)); clear hpush htab2 hb2 hb3 hown2 hgrow2 hro2 hro3 hy))
          have H3 := hid (And.intro (HP.out g_ cap_ w3 hown3 hgrow3 (by rcases hlies3 with h | h; exact .inl h; exact .inr (by omega)) hlt3) (below_push HB2.out hus (Nat.le_refl _) hz2w hgrow3))
          clear hown3 hgrow3 hlies3 hlt3 hus
          go_roundw
          case rel => exact ⟨k + 1, cap_, _, by omega, by go_num, rfl, by
            have h4 := H3.out.1
            unfold OwnII
            rw [take_snoc _ _ _ HVk.out, List.map_append]
            exact h4, H3.out.2⟩
          case measure => simp [intOf]; omega
        · have hqq : ((k : Int) == (F : Int)) = false := by simp; omega
          have HVk : Hid (V[k]? = some r) := hid (by rw [HVd.out, List.getElem?_set_ne (by omega)]; exact HX.out)
          go_wp2_with (first
            | (at_builtin; refine wpList_push rfl _ _ _ rfl w.heap.size 30 i1 _ 24 Try.underlying22 hj0 hj1 hj2 hj3 rfl (by omega) _ _ AA k cc us rfl hus rfl rfl (by omega) hz2w ?_; intro g_ cap_ w3 hown3 hgrow3 hlies3 hlt3)
            | (at_builtin; refine wpList_all rfl _ _ _ rfl wr.heap.size 3 i0 _ 8 Try.underlying30 hi0.out hz0 hz1 hz2 rfl (by omega) _ 0 0 [] rfl hown0 B A' n' c' (r.map (Value.int .i64)) rfl (RV.alloc hrr (Nat.le_trans hB HO.out.2.size) _) (by intro u hu; obtain ⟨x, _, rfl⟩ := List.mem_map.1 hu; rfl) (by omega) (by omega) (by simp) ?_; intro A2 c2 w2 hown2 hgrow2; simp only [Nat.zero_add, List.nil_append] at hown2; have hb2 := below_push ((Below.refl wr.heap.size wr).alloc (Nat.le_refl _) _) hown0 (Nat.le_refl _) (by simp) hgrow2; have htab2 := OwnVV.below HO.out.1 hb2 (Nat.le_refl _); obtain ⟨us, hus, hpush⟩ := OwnVV.push (base := w.heap.size) htab2 (ownV_of1 hown2) (Nat.le_refl _) HO.out.2.size (Nat.le_refl _) (Nat.le_refl _) hb2.size; have hz2w : w.heap.size ≤ w2.heap.size := Nat.le_trans HO.out.2.size hb2.size; have HP := hid hpush; have HB2 := hid (HO.out.2.trans (hb2.mono HO.out.2.size)); clear hpush htab2 hb2 hown2 hgrow2))
          have H3 := hid (And.intro (HP.out g_ cap_ w3 hown3 hgrow3 (by rcases hlies3 with h | h; exact .inl h; exact .inr (by omega)) hlt3) (below_push HB2.out hus (Nat.le_refl _) hz2w hgrow3))
          clear hown3 hgrow3 hlies3 hlt3 hus
          go_roundw
          case rel => exact ⟨k + 1, cap_, _, by omega, by go_num, rfl, by
            have h4 := H3.out.1
            unfold OwnII
            rw [take_snoc _ _ _ HVk.out, List.map_append]
            exact h4, H3.out.2⟩
          case measure => simp [intOf]; omega
      · have hkn : k = n := by omega
        subst hkn
        rw [List.take_of_length_le (by rw [HVl.out]; omega)] at hown
        have H5 := hid (And.intro hown hbel)
        clear hown hbel
        go_wp2
        go_ret
        rw [HV2.out]
        exact ⟨_, _, _, rfl, H5.out.1, H5.out.2⟩
  · have HV := hid (cutL_no hok)
    have HBA := hid hbA
    clear hbA
    have hend : Hid (RetII 30 3 w (.returned (.slice (some ⟨w.heap.size, 0, none⟩) 0 0)) (w.alloc (.cells #[] 30)) []) := hid ⟨_, _, _, rfl, ownVV_lit0 _ _ (Nat.le_refl _), HBA.out⟩
    by_cases hco : CostsOk rows
    · have hcb := hid (costsB_yes hco)
      by_cases hf : 0 ≤ to ∧ to < (n : Int)
      · have ht : fr < 0 ∨ (n : Int) - 1 < fr := by
          by_cases h1 : 0 ≤ fr
          · by_cases h2 : fr < (n : Int)
            · exact absurd ⟨hco, ⟨h1, by rw [HL.out]; exact h2⟩, ⟨hf.1, by rw [HL.out]; exact hf.2⟩⟩ hok
            · omega
          · omega
        have hs1 := fun W => hid (l1In_yes to 0 ((n : Int) - 1) W hf.1 (by omega))
        have hs2 := fun W => hid (l1In_no fr 0 ((n : Int) - 1) W ht)
        have HS1 := hid hs1; have HS2 := hid hs2
        clear hf ht hok hco hs1 hs2
        go_enter Try.func13, Try.ntmps13
        go_wp2_with fail
        refine hcv.out.mono ?_
        rintro e w1 ⟨rfl, rfl⟩
        rw [hcb.out]
        go_wp2_with fail
        refine (HS1.out _).out.mono ?_
        rintro e w1 ⟨rfl, rfl⟩
        go_wp2_with fail
        refine (HS2.out _).out.mono ?_
        rintro e w1 ⟨rfl, rfl⟩
        go_wp2
        go_ret
        rw [HV.out]
        exact hend.out
      · have hs1 := fun W => hid (l1In_no to 0 ((n : Int) - 1) W (by omega))
        have HS1 := hid hs1
        clear hf hok hco hs1
        go_enter Try.func13, Try.ntmps13
        go_wp2_with fail
        refine hcv.out.mono ?_
        rintro e w1 ⟨rfl, rfl⟩
        rw [hcb.out]
        go_wp2_with fail
        refine (HS1.out _).out.mono ?_
        rintro e w1 ⟨rfl, rfl⟩
        go_wp2
        go_ret
        rw [HV.out]
        exact hend.out
    · have hcb := hid (costsB_no hco)
      clear hok hco
      go_enter Try.func13, Try.ntmps13
      go_wp2_with fail
      refine hcv.out.mono ?_
      rintro e w1 ⟨rfl, rfl⟩
      rw [hcb.out]
      go_wp2
      go_ret
      rw [HV.out]
      exact hend.out
end Go.Proofs.Ytglpcphkdgmdeaa
