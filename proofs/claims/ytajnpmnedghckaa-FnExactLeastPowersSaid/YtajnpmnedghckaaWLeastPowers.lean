/-
  FnExactLeastPowers, walked: the program's LeastPowers returns what the reference's returns; it changes no argument; its result is memory of its own.
-/
import Derived.Test.YtajnpmnedghckaaLinks
import Derived.Test.YtajnpmnedghckaaPowG
import Derived.Test.YtajnpmnedghckaaReg
namespace Go.Proofs.Ytajnpmnedghckaa
open Go.RowKit
set_option linter.unusedVariables false

set_option maxHeartbeats 2400000 in
theorem fnExactLeastPowers_core (w : World) (A0 : Option Addr) (n0 c0 : Nat) (rows : List (List Int)) (N0 G0 : Int) (h0 : RII w w.heap.size A0 n0 rows) (hl0 : n0 ≤ c0) (hm0 : c0 ≤ maxLen) (hz0 : 0 ≤ szSSI (rows.map List.length) 1048576) :
    Calls Try.prog 11 #[.agg #[.slice A0 n0 c0, .int .i64 N0, .int .i64 G0]] w fun e w' => e = .returned (.bool true) ∧ Below w.heap.size w w' := by
  have hbel : Below w.heap.size w w := Below.refl _ _
  have hsz0 := szSSI_ok (rows.map List.length) 1048576 (by omega)
  have hzz0 : (rows.map List.length).length ≤ 1048576 ∧ (rows.map List.length).sum ≤ 1048576 ∧ ∀ y ∈ rows.map List.length, y ≤ 1048576 := by
    rcases hsz0 with h | ⟨h1, h2, h3, h4⟩
    · omega
    · exact ⟨by omega, by omega, fun y hy => by have := h4 y hy; omega⟩
  clear hsz0
  have hN0 : n0 ≤ 1048576 := by have := RII.len h0; have := hzz0.1; rw [List.length_map] at this; omega
  have HR0 : Hid (∀ r ∈ rows, r.length ≤ 1048576) := hid (fun r hr => hzz0.2.2 _ (List.mem_map_of_mem hr))
  have HRb0 : Hid (∀ r ∈ rows, r.length ≤ 1000000000) := hid (fun r hr => by have := HR0.out r hr; omega)
  have hsc0 := szIntSS_any A0 n0 c0 _ rows 1048576 w h0 hl0 hm0 (by omega) (by omega)
  obtain ⟨Z0, HZ0⟩ : ∃ Z, Hid (Z = szSSI (rows.map List.length) 1048576) := ⟨_, hid rfl⟩
  rw [← HZ0.out] at hz0
  have hLR0 : lenRI rows ≤ 1048576 := by rw [lenRI_sum]; have := hzz0.2.1; omega
  have hLn0 : 0 ≤ lenRI rows := lenRI_nn _
  clear hzz0 hsc0
  have hne2 : (meetB rows N0 G0 (leastL rows N0 G0) != meetB rows N0 G0 (leastL rows N0 G0)) = false := by simp
  obtain ⟨V, HV⟩ : ∃ V, Hid (V = leastL rows N0 G0) := ⟨_, hid rfl⟩
  have hlen : V.length ≤ 1000000000 := by rw [HV.out]; exact Nat.le_trans (leastL_len _ _ _) (by omega)
  have a0 : RII w w.heap.size A0 n0 rows := h0
  clear h0
  have hbel_ := hbel.alloc (Nat.le_refl _) (.cells #[.slice A0 n0 c0, .int .i64 N0, .int .i64 G0] 24); clear hbel; have hbel := hbel_; clear hbel_
  have a0_ := RVV.alloc a0 (Nat.le_refl _) (.cells #[.slice A0 n0 c0, .int .i64 N0, .int .i64 G0] 24); clear a0; have a0 := a0_; clear a0_
  have kX := hid (Blk.new w 24 #[.slice A0 n0 c0, .int .i64 N0, .int .i64 G0])
  have jX : w.heap.size < (w.alloc (.cells #[.slice A0 n0 c0, .int .i64 N0, .int .i64 G0] 24)).heap.size := by simp
  go_enter Try.func11, Try.ntmps11
  have hsc0 := szLinks_any A0 n0 c0 _ rows N0 G0 1048576 (w.alloc (.cells #[.slice A0 n0 c0, .int .i64 N0, .int .i64 G0] 24)) a0 hbel.size hl0 hm0 (by omega) (by omega) (by rw [← HZ0.out]; exact hz0)
  rw [← HZ0.out] at hsc0
  have HSC0 := hid hsc0; clear hsc0
  go_wp2_with fail
  refine HSC0.out.mono ?_
  rintro e w1 ⟨rfl, hb⟩
  clear HSC0
  have hsz := hbel.size
  have kX_ := hid (Blk.below kX.out hb jX); have jX_ := Nat.lt_of_lt_of_le jX hb.size; clear kX jX; have kX := kX_; have jX := jX_; clear kX_ jX_
  have hbel_ := hbel.trans (hb.mono hsz)
  have a0_ := RVV.below a0 (hb.mono hsz)
  clear hbel; have hbel := hbel_; clear hbel_
  clear a0; have a0 := a0_; clear a0_
  clear hsz
  obtain ⟨cX0, cX1, cX2⟩ := blk3 kX.out
  clear hb
  go_wp2_with fail
  refine (toLinks_any A0 n0 c0 _ rows N0 G0 _ a0 hbel.size (by omega) HR0.out).mono ?_
  rintro e w2 ⟨Bt0, rfl, ot0, hb⟩
  have lBt0 := Nat.le_trans hbel.size hb.size
  have lt0 : w.heap.size ≤ w1.heap.size := hbel.size
  have it0 : w2.heap.size ≤ w2.heap.size := Nat.le_refl _
  have fXt0 := jX
  clear cX0 cX1 cX2
  have hsz := hbel.size
  have kX_ := hid (Blk.below kX.out hb jX); have jX_ := Nat.lt_of_lt_of_le jX hb.size; clear kX jX; have kX := kX_; have jX := jX_; clear kX_ jX_
  have hbel_ := hbel.trans (hb.mono hsz)
  have a0_ := RVV.below a0 (hb.mono hsz)
  clear hbel; have hbel := hbel_; clear hbel_
  clear a0; have a0 := a0_; clear a0_
  clear hsz
  obtain ⟨cX0, cX1, cX2⟩ := blk3 kX.out
  clear hb
  go_wp2_with fail
  refine (leastPowers_spec _ _ _ _ rows N0 G0 _ (RVV.more (OwnII.rii ot0) it0) (Nat.le_refl _) (by omega)).mono ?_
  rintro e w3 ⟨AW, nW, cW, rfl, oW, hb⟩
  have lW : w.heap.size ≤ w2.heap.size := hbel.size
  have iW : w3.heap.size ≤ w3.heap.size := Nat.le_refl _
  rw [← HV.out] at oW
  change OwnI _ _ _ _ _ _ _ V at oW
  have zW : nW ≤ 1000000000 := by have := OwnI.len oW; omega
  have dt0W := it0
  have fXW := jX
  clear cX0 cX1 cX2
  have hsz := hbel.size
  have kX_ := hid (Blk.below kX.out hb jX); have jX_ := Nat.lt_of_lt_of_le jX hb.size; clear kX jX; have kX := kX_; have jX := jX_; clear kX_ jX_
  have hbel_ := hbel.trans (hb.mono hsz)
  have a0_ := RVV.below a0 (hb.mono hsz)
  have ot0_ := OwnVV.below ot0 hb it0
  have it0_ := Nat.le_trans it0 hb.size
  clear hbel; have hbel := hbel_; clear hbel_
  clear a0; have a0 := a0_; clear a0_
  clear ot0; have ot0 := ot0_; clear ot0_
  clear it0; have it0 := it0_; clear it0_
  clear hsz
  obtain ⟨cX0, cX1, cX2⟩ := blk3 kX.out
  clear hb
  go_wp2_with fail
  refine (toLinks_any A0 n0 c0 _ rows N0 G0 _ a0 hbel.size (by omega) HR0.out).mono ?_
  rintro e w4 ⟨Bx0, rfl, ox0, hb⟩
  have lBx0 := Nat.le_trans hbel.size hb.size
  have lx0 : w.heap.size ≤ w3.heap.size := hbel.size
  have ix0 : w4.heap.size ≤ w4.heap.size := Nat.le_refl _
  have fXx0 := jX
  have dt0x0 := it0
  have dWx0 := iW
  clear cX0 cX1 cX2
  have hsz := hbel.size
  have kX_ := hid (Blk.below kX.out hb jX); have jX_ := Nat.lt_of_lt_of_le jX hb.size; clear kX jX; have kX := kX_; have jX := jX_; clear kX_ jX_
  have hbel_ := hbel.trans (hb.mono hsz)
  have a0_ := RVV.below a0 (hb.mono hsz)
  have ot0_ := OwnVV.below ot0 hb it0
  have it0_ := Nat.le_trans it0 hb.size
  have oW_ := OwnV.below oW hb iW
  have iW_ := Nat.le_trans iW hb.size
  clear hbel; have hbel := hbel_; clear hbel_
  clear a0; have a0 := a0_; clear a0_
  clear ot0; have ot0 := ot0_; clear ot0_
  clear it0; have it0 := it0_; clear it0_
  clear oW; have oW := oW_; clear oW_
  clear iW; have iW := iW_; clear iW_
  clear hsz
  obtain ⟨cX0, cX1, cX2⟩ := blk3 kX.out
  clear hb
  have hbel_ := hbel.alloc hbel.size (.cells #[.slice Bx0 n0 n0, .int .i64 N0, .int .i64 G0] 27); clear hbel; have hbel := hbel_; clear hbel_
  have a0_ := RVV.below a0 (((Below.refl w4.heap.size w4).alloc (Nat.le_refl _) (.cells #[.slice Bx0 n0 n0, .int .i64 N0, .int .i64 G0] 27)).mono lBx0); clear a0; have a0 := a0_; clear a0_
  have ot0_ := OwnVV.alloc ot0 (.cells #[.slice Bx0 n0 n0, .int .i64 N0, .int .i64 G0] 27); clear ot0; have ot0 := ot0_; clear ot0_
  have et0Z := it0; have it0_ : _ ≤ (w4.alloc (.cells #[.slice Bx0 n0 n0, .int .i64 N0, .int .i64 G0] 27)).heap.size := Nat.le_trans it0 (by simp); clear it0; have it0 := it0_; clear it0_
  have oW_ := OwnV.alloc oW (.cells #[.slice Bx0 n0 n0, .int .i64 N0, .int .i64 G0] 27); clear oW; have oW := oW_; clear oW_
  have eWZ := iW; have iW_ : _ ≤ (w4.alloc (.cells #[.slice Bx0 n0 n0, .int .i64 N0, .int .i64 G0] 27)).heap.size := Nat.le_trans iW (by simp); clear iW; have iW := iW_; clear iW_
  have ox0_ := OwnVV.alloc ox0 (.cells #[.slice Bx0 n0 n0, .int .i64 N0, .int .i64 G0] 27); clear ox0; have ox0 := ox0_; clear ox0_
  have ex0Z := ix0; have ix0_ : _ ≤ (w4.alloc (.cells #[.slice Bx0 n0 n0, .int .i64 N0, .int .i64 G0] 27)).heap.size := Nat.le_trans ix0 (by simp); clear ix0; have ix0 := ix0_; clear ix0_
  have kX_ := hid (Blk.alloc kX.out (.cells #[.slice Bx0 n0 n0, .int .i64 N0, .int .i64 G0] 27)); have jX_ : _ < (w4.alloc (.cells #[.slice Bx0 n0 n0, .int .i64 N0, .int .i64 G0] 27)).heap.size := Nat.lt_of_lt_of_le jX (by simp); clear kX jX; have kX := kX_; have jX := jX_; clear kX_ jX_
  have kZ := hid (Blk.new w4 27 #[.slice Bx0 n0 n0, .int .i64 N0, .int .i64 G0])
  have jZ : w4.heap.size < (w4.alloc (.cells #[.slice Bx0 n0 n0, .int .i64 N0, .int .i64 G0] 27)).heap.size := by simp
  clear cX0 cX1 cX2
  clear lBx0
  go_wp2_with fail
  refine (leastPowers_impl _ _ _ _ rows N0 G0 _ (RVV.more (OwnII.rii ox0) ix0) (Nat.le_refl _) (by omega)).mono ?_
  rintro e w5 ⟨AG, nG, cG, rfl, oG, hb⟩
  have lG : w.heap.size ≤ (w4.alloc (.cells #[.slice Bx0 n0 n0, .int .i64 N0, .int .i64 G0] 27)).heap.size := hbel.size
  have iG : w5.heap.size ≤ w5.heap.size := Nat.le_refl _
  rw [← HV.out] at oG
  change OwnI _ _ _ _ _ _ _ V at oG
  have zG : nG ≤ 1000000000 := by have := OwnI.len oG; omega
  have dt0G := it0
  have dWG := iW
  have dx0G := ix0
  have fXG := jX
  have fZG := jZ
  have hsz := hbel.size
  have kX_ := hid (Blk.below kX.out hb jX); have jX_ := Nat.lt_of_lt_of_le jX hb.size; clear kX jX; have kX := kX_; have jX := jX_; clear kX_ jX_
  have kZ_ := hid (Blk.below kZ.out hb jZ); have jZ_ := Nat.lt_of_lt_of_le jZ hb.size; clear kZ jZ; have kZ := kZ_; have jZ := jZ_; clear kZ_ jZ_
  have hbel_ := hbel.trans (hb.mono hsz)
  have a0_ := RVV.below a0 (hb.mono hsz)
  have ot0_ := OwnVV.below ot0 hb it0
  have it0_ := Nat.le_trans it0 hb.size
  have oW_ := OwnV.below oW hb iW
  have iW_ := Nat.le_trans iW hb.size
  have ox0_ := OwnVV.below ox0 hb ix0
  have ix0_ := Nat.le_trans ix0 hb.size
  clear hbel; have hbel := hbel_; clear hbel_
  clear a0; have a0 := a0_; clear a0_
  clear ot0; have ot0 := ot0_; clear ot0_
  clear it0; have it0 := it0_; clear it0_
  clear oW; have oW := oW_; clear oW_
  clear iW; have iW := iW_; clear iW_
  clear ox0; have ox0 := ox0_; clear ox0_
  clear ix0; have ix0 := ix0_; clear ix0_
  clear hsz
  obtain ⟨cX0, cX1, cX2⟩ := blk3 kX.out
  obtain ⟨cZ0, cZ1, cZ2⟩ := blk3 kZ.out
  clear hb
  go_wp2_with fail
  refine (eqIntS_same _ _ _ _ _ _ _ _ _ _ (OwnI.ri oG) (OwnI.ri oW) (by omega)).mono ?_
  rintro e w6 ⟨rfl, hb⟩
  clear cX0 cX1 cX2 cZ0 cZ1 cZ2
  have hsz := hbel.size
  have kX_ := hid (Blk.below kX.out hb jX); have jX_ := Nat.lt_of_lt_of_le jX hb.size; clear kX jX; have kX := kX_; have jX := jX_; clear kX_ jX_
  have kZ_ := hid (Blk.below kZ.out hb jZ); have jZ_ := Nat.lt_of_lt_of_le jZ hb.size; clear kZ jZ; have kZ := kZ_; have jZ := jZ_; clear kZ_ jZ_
  have hbel_ := hbel.trans (hb.mono hsz)
  have a0_ := RVV.below a0 (hb.mono hsz)
  have ot0_ := OwnVV.below ot0 hb it0
  have it0_ := Nat.le_trans it0 hb.size
  have oW_ := OwnV.below oW hb iW
  have iW_ := Nat.le_trans iW hb.size
  have ox0_ := OwnVV.below ox0 hb ix0
  have ix0_ := Nat.le_trans ix0 hb.size
  have oG_ := OwnV.below oG hb iG
  have iG_ := Nat.le_trans iG hb.size
  clear hbel; have hbel := hbel_; clear hbel_
  clear a0; have a0 := a0_; clear a0_
  clear ot0; have ot0 := ot0_; clear ot0_
  clear it0; have it0 := it0_; clear it0_
  clear oW; have oW := oW_; clear oW_
  clear iW; have iW := iW_; clear iW_
  clear ox0; have ox0 := ox0_; clear ox0_
  clear ix0; have ix0 := ix0_; clear ix0_
  clear oG; have oG := oG_; clear oG_
  clear iG; have iG := iG_; clear iG_
  clear hsz
  obtain ⟨cX0, cX1, cX2⟩ := blk3 kX.out
  obtain ⟨cZ0, cZ1, cZ2⟩ := blk3 kZ.out
  clear hb
  clear cX0 cX1 cX2 cZ0 cZ1 cZ2
  have HA := hid a0; have HX := hid ox0; have HBE := hid hbel; have HIX := hid ix0
  have hRlen : rows.length ≤ 1000000000 := by have := RII.len a0; omega
  go_wp2
  refine wp_region_g (by kernel_rfl) [[], [], [1], [0, 2], [3]] (by kernel_rfl) 5 (by rfl) [some 41, some 42, some 43, some 44, some 45] (by rfl)
    [fun v x _ => v = .agg #[.slice Bx0 n0 n0, .int .i64 N0, .int .i64 G0],
     fun v x _ => v = .agg #[.slice A0 n0 c0, .int .i64 N0, .int .i64 G0],
     fun v x w' => ∃ B : Option Addr, v = .agg #[.slice B n0 n0, .int .i64 N0, .int .i64 G0] ∧ RII w' w'.heap.size B n0 rows,
     fun v x _ => v = .bool true,
     fun v x _ => v = .bool false]
    (fun _ w' => Below w6.heap.size w6 w') (fun w w' => Below w.heap.size w w') (fun _ => Below.refl _ _) ((Below.refl _ _).drew) ?loc ?ob ?fin
  case loc =>
    refine ⟨⟨⟨⟨⟨trivial, ?_⟩, ?_⟩, ?_⟩, ?_⟩, ?_⟩
    · exact fun _ _ _ _ _ _ _ h => h
    · exact fun _ _ _ _ _ _ _ h => h
    · intro v x x' w w' hx hR h
      revert h
      show (fun v x w' => ∃ B : Option Addr, v = .agg #[.slice B n0 n0, .int .i64 N0, .int .i64 G0] ∧ RII w' w'.heap.size B n0 rows) v x w → (fun v x w' => ∃ B : Option Addr, v = .agg #[.slice B n0 n0, .int .i64 N0, .int .i64 G0] ∧ RII w' w'.heap.size B n0 rows) v x' w'
      intro h
      obtain ⟨B, e, hr⟩ := h; exact ⟨B, e, RVV.next hr hR⟩
    · exact fun _ _ _ _ _ _ _ h => h
    · exact fun _ _ _ _ _ _ _ h => h
  case ob =>
    refine ⟨⟨⟨⟨⟨trivial, ?_⟩, ?_⟩, ?_⟩, ?_⟩, ?_⟩
    · intro c hc x W hS hd KO hK
      clear hd
      simp only [List.getD_cons_zero, fillL, Nat.reduceAdd, Act.put, List.setIfInBounds_toArray, List.set_cons_zero, List.set_cons_succ] at hK ⊢
      refine wpOp_plain rfl rfl ?_
      have k_ := Blk.below kZ.out hS jZ
      obtain ⟨c0, c1, c2⟩ := blk3 k_
      go_simp
      exact hK _ _ hS (Below.refl _ _) rfl
    · intro c hc x W hS hd KO hK
      clear hd
      simp only [List.getD_cons_zero, List.getD_cons_succ, fillL, Nat.reduceAdd, Act.put, List.setIfInBounds_toArray, List.set_cons_zero, List.set_cons_succ] at hK ⊢
      refine wpOp_plain rfl rfl ?_
      have k_ := Blk.below kX.out hS jX
      obtain ⟨c0, c1, c2⟩ := blk3 k_
      go_simp
      exact hK _ _ hS (Below.refl _ _) rfl
    · intro c hc x W hS hd KO hK
      have h1 : (fun v x _ => v = .agg #[.slice A0 n0 c0, .int .i64 N0, .int .i64 G0]) (x 1) x W := hd 1 (by decide)
      have e1 : x 1 = .agg #[.slice A0 n0 c0, .int .i64 N0, .int .i64 G0] := h1
      clear h1
      clear hd
      simp only [List.getD_cons_zero, List.getD_cons_succ, fillL, Nat.reduceAdd, Act.put, List.setIfInBounds_toArray, List.set_cons_zero, List.set_cons_succ, e1] at hK ⊢
      refine wpOp_plain rfl rfl ?_
      go_simp
      refine (toLinks_any A0 n0 c0 _ rows N0 G0 _ (RVV.below HA.out (hS.mono HBE.out.size)) (Nat.le_trans HBE.out.size hS.size) (by omega) HR0.out).mono ?_
      rintro e W1 ⟨B2, rfl, o2, hb2⟩
      have h9 := hid (And.intro (hS.trans (hb2.mono hS.size)) (And.intro hb2 (OwnII.rii o2)))
      clear hb2 o2
      go_wp2_with fail
      exact hK _ _ h9.out.1 h9.out.2.1 ⟨B2, rfl, h9.out.2.2⟩
    · intro c hc x W hS hd KO hK
      have h0 : (fun v x _ => v = .agg #[.slice Bx0 n0 n0, .int .i64 N0, .int .i64 G0]) (x 0) x W := hd 0 (by decide)
      have e0 : x 0 = .agg #[.slice Bx0 n0 n0, .int .i64 N0, .int .i64 G0] := h0
      clear h0
      have h2 : (fun v x w' => ∃ B : Option Addr, v = .agg #[.slice B n0 n0, .int .i64 N0, .int .i64 G0] ∧ RII w' w'.heap.size B n0 rows) (x 2) x W := hd 2 (by decide)
      clear hd
      obtain ⟨B2, e2, r2⟩ := h2
      simp only [List.getD_cons_zero, List.getD_cons_succ, fillL, Nat.reduceAdd, Act.put, List.setIfInBounds_toArray, List.set_cons_zero, List.set_cons_succ, e0, e2] at hK ⊢
      refine wpOp_plain rfl rfl ?_
      go_simp
      refine (eqLinks_same _ _ _ _ _ _ _ _ rows N0 G0 _ (OwnII.rii (OwnVV.below HX.out hS HIX.out)) r2 (Nat.le_trans HIX.out hS.size) (Nat.le_refl _) hRlen HRb0.out).mono ?_
      rintro e W1 ⟨rfl, hb2⟩
      have h9 := hid (And.intro (hS.trans (hb2.mono hS.size)) hb2)
      clear hb2
      go_wp2_with fail
      exact hK _ _ h9.out.1 h9.out.2 rfl
    · intro c hc x W hS hd KO hK
      have h3 : (fun v x _ => v = .bool true) (x 3) x W := hd 3 (by decide)
      have e3 : x 3 = .bool true := h3
      clear h3
      clear hd
      simp only [List.getD_cons_zero, List.getD_cons_succ, fillL, Nat.reduceAdd, Act.put, List.setIfInBounds_toArray, List.set_cons_zero, List.set_cons_succ, e3] at hK ⊢
      refine wpOp_plain rfl rfl ?_
      go_simp
      exact hK _ _ hS (Below.refl _ _) rfl
  case fin =>
    intro x W hS hd
    have h0 : (fun v x _ => v = .agg #[.slice Bx0 n0 n0, .int .i64 N0, .int .i64 G0]) (x 0) x W := hd 0 (by decide)
    have e0 : x 0 = .agg #[.slice Bx0 n0 n0, .int .i64 N0, .int .i64 G0] := h0
    clear h0
    have h1 : (fun v x _ => v = .agg #[.slice A0 n0 c0, .int .i64 N0, .int .i64 G0]) (x 1) x W := hd 1 (by decide)
    have e1 : x 1 = .agg #[.slice A0 n0 c0, .int .i64 N0, .int .i64 G0] := h1
    clear h1
    have h2 : (fun v x w' => ∃ B : Option Addr, v = .agg #[.slice B n0 n0, .int .i64 N0, .int .i64 G0] ∧ RII w' w'.heap.size B n0 rows) (x 2) x W := hd 2 (by decide)
    have h3 : (fun v x _ => v = .bool true) (x 3) x W := hd 3 (by decide)
    have e3 : x 3 = .bool true := h3
    clear h3
    have h4 : (fun v x _ => v = .bool false) (x 4) x W := hd 4 (by decide)
    have e4 : x 4 = .bool false := h4
    clear h4
    clear hd
    simp only [fillL, Nat.reduceAdd, Act.put, List.setIfInBounds_toArray, List.set_cons_zero, List.set_cons_succ, e0, e1, e3, e4]
    clear e0 e1 e3 e4
    have hb := hS; clear hS HA HX HBE HIX
    have hsz := hbel.size
    have kX_ := hid (Blk.below kX.out hb jX); have jX_ := Nat.lt_of_lt_of_le jX hb.size; clear kX jX; have kX := kX_; have jX := jX_; clear kX_ jX_
    have kZ_ := hid (Blk.below kZ.out hb jZ); have jZ_ := Nat.lt_of_lt_of_le jZ hb.size; clear kZ jZ; have kZ := kZ_; have jZ := jZ_; clear kZ_ jZ_
    have hbel_ := hbel.trans (hb.mono hsz)
    have a0_ := RVV.below a0 (hb.mono hsz)
    have ot0_ := OwnVV.below ot0 hb it0
    have it0_ := Nat.le_trans it0 hb.size
    have oW_ := OwnV.below oW hb iW
    have iW_ := Nat.le_trans iW hb.size
    have ox0_ := OwnVV.below ox0 hb ix0
    have ix0_ := Nat.le_trans ix0 hb.size
    have oG_ := OwnV.below oG hb iG
    have iG_ := Nat.le_trans iG hb.size
    clear hbel; have hbel := hbel_; clear hbel_
    clear a0; have a0 := a0_; clear a0_
    clear ot0; have ot0 := ot0_; clear ot0_
    clear it0; have it0 := it0_; clear it0_
    clear oW; have oW := oW_; clear oW_
    clear iW; have iW := iW_; clear iW_
    clear ox0; have ox0 := ox0_; clear ox0_
    clear ix0; have ix0 := ix0_; clear ix0_
    clear oG; have oG := oG_; clear oG_
    clear iG; have iG := iG_; clear iG_
    clear hsz
    obtain ⟨cX0, cX1, cX2⟩ := blk3 kX.out
    obtain ⟨cZ0, cZ1, cZ2⟩ := blk3 kZ.out
    clear hb
    go_wp2_with fail
    refine (markLinks_any _ _ _ _ _ _ _ _ _ _ ox0 ix0 (by omega) (by omega) (by omega) (by omega)).mono ?_
    rintro e w7 ⟨rfl, ox0_, ho, hs⟩
    clear hs
    clear cX0 cX1 cX2 cZ0 cZ1 cZ2
    have hsz := hbel.size
    have kX_ := hid (Blk.only kX.out ho (by omega)); have jX_ := Nat.lt_of_lt_of_le jX ho.size; clear kX jX; have kX := kX_; have jX := jX_; clear kX_ jX_
    have kZ_ := hid (Blk.only kZ.out ho (by omega)); have jZ_ := Nat.lt_of_lt_of_le jZ ho.size; clear kZ jZ; have kZ := kZ_; have jZ := jZ_; clear kZ_ jZ_
    have hbel_ := hbel.trans (ho.below lx0 hsz)
    have a0_ := RVV.below a0 (ho.below lx0 hsz)
    have ot0_ := OwnVV.only ot0 ho (by omega)
    have it0_ := Nat.le_trans it0 ho.size
    have oW_ := OwnV.only oW ho (by omega)
    have iW_ := Nat.le_trans iW ho.size
    have ix0_ := Nat.le_trans ix0 ho.size
    have oG_ := OwnV.only oG ho (by omega)
    have iG_ := Nat.le_trans iG ho.size
    clear hbel; have hbel := hbel_; clear hbel_
    clear a0; have a0 := a0_; clear a0_
    clear ot0; have ot0 := ot0_; clear ot0_
    clear it0; have it0 := it0_; clear it0_
    clear oW; have oW := oW_; clear oW_
    clear iW; have iW := iW_; clear iW_
    clear ix0; have ix0 := ix0_; clear ix0_
    clear oG; have oG := oG_; clear oG_
    clear iG; have iG := iG_; clear iG_
    clear hsz
    obtain ⟨cX0, cX1, cX2⟩ := blk3 kX.out
    obtain ⟨cZ0, cZ1, cZ2⟩ := blk3 kZ.out
    clear ox0; have ox0 := ox0_; clear ox0_ ho
    go_wp2_with fail
    refine (eqIntS_same _ _ _ _ _ _ _ _ _ _ (OwnI.ri oG) (OwnI.ri oW) (by omega)).mono ?_
    rintro e w8 ⟨rfl, hb⟩
    clear cX0 cX1 cX2 cZ0 cZ1 cZ2
    have hsz := hbel.size
    have kX_ := hid (Blk.below kX.out hb jX); have jX_ := Nat.lt_of_lt_of_le jX hb.size; clear kX jX; have kX := kX_; have jX := jX_; clear kX_ jX_
    have kZ_ := hid (Blk.below kZ.out hb jZ); have jZ_ := Nat.lt_of_lt_of_le jZ hb.size; clear kZ jZ; have kZ := kZ_; have jZ := jZ_; clear kZ_ jZ_
    have hbel_ := hbel.trans (hb.mono hsz)
    have a0_ := RVV.below a0 (hb.mono hsz)
    have ot0_ := OwnVV.below ot0 hb it0
    have it0_ := Nat.le_trans it0 hb.size
    have oW_ := OwnV.below oW hb iW
    have iW_ := Nat.le_trans iW hb.size
    have ox0_ := OwnVV.below ox0 hb ix0
    have ix0_ := Nat.le_trans ix0 hb.size
    have oG_ := OwnV.below oG hb iG
    have iG_ := Nat.le_trans iG hb.size
    clear hbel; have hbel := hbel_; clear hbel_
    clear a0; have a0 := a0_; clear a0_
    clear ot0; have ot0 := ot0_; clear ot0_
    clear it0; have it0 := it0_; clear it0_
    clear oW; have oW := oW_; clear oW_
    clear iW; have iW := iW_; clear iW_
    clear ox0; have ox0 := ox0_; clear ox0_
    clear ix0; have ix0 := ix0_; clear ix0_
    clear oG; have oG := oG_; clear oG_
    clear iG; have iG := iG_; clear iG_
    clear hsz
    obtain ⟨cX0, cX1, cX2⟩ := blk3 kX.out
    obtain ⟨cZ0, cZ1, cZ2⟩ := blk3 kZ.out
    clear hb
    go_wp2_with fail
    refine (markIntS_any _ _ _ _ _ _ _ _ oG (by omega) (by omega) (by omega)).mono ?_
    rintro e w9 ⟨rfl, oG_, ho, hs⟩
    clear hs
    clear cX0 cX1 cX2 cZ0 cZ1 cZ2
    have hsz := hbel.size
    have kX_ := hid (Blk.only kX.out ho (by omega)); have jX_ := Nat.lt_of_lt_of_le jX ho.size; clear kX jX; have kX := kX_; have jX := jX_; clear kX_ jX_
    have kZ_ := hid (Blk.only kZ.out ho (by omega)); have jZ_ := Nat.lt_of_lt_of_le jZ ho.size; clear kZ jZ; have kZ := kZ_; have jZ := jZ_; clear kZ_ jZ_
    have hbel_ := hbel.trans (ho.below lG hsz)
    have a0_ := RVV.below a0 (ho.below lG hsz)
    have ot0_ := OwnVV.only ot0 ho (by omega)
    have it0_ := Nat.le_trans it0 ho.size
    have oW_ := OwnV.only oW ho (by omega)
    have iW_ := Nat.le_trans iW ho.size
    have ox0_ := OwnVV.only ox0 ho (by omega)
    have ix0_ := Nat.le_trans ix0 ho.size
    have iG_ := Nat.le_trans iG ho.size
    clear hbel; have hbel := hbel_; clear hbel_
    clear a0; have a0 := a0_; clear a0_
    clear ot0; have ot0 := ot0_; clear ot0_
    clear it0; have it0 := it0_; clear it0_
    clear oW; have oW := oW_; clear oW_
    clear iW; have iW := iW_; clear iW_
    clear ox0; have ox0 := ox0_; clear ox0_
    clear ix0; have ix0 := ix0_; clear ix0_
    clear iG; have iG := iG_; clear iG_
    clear hsz
    obtain ⟨cX0, cX1, cX2⟩ := blk3 kX.out
    obtain ⟨cZ0, cZ1, cZ2⟩ := blk3 kZ.out
    clear oG; have oG := oG_; clear oG_ ho
    go_wp2_with fail
    refine (heldIntS_yes _ _ _ _ _ _ (OwnI.ri oG) (by omega) (by omega) (by omega)).mono ?_
    rintro e w_ ⟨rfl, rfl⟩
    go_wp2_with fail
    refine (toLinks_any A0 n0 c0 _ rows N0 G0 _ a0 hbel.size (by omega) HR0.out).mono ?_
    rintro e w10 ⟨By0, rfl, oy0, hb⟩
    have lBy0 := Nat.le_trans hbel.size hb.size
    have ly0 : w.heap.size ≤ w9.heap.size := hbel.size
    have iy0 : w10.heap.size ≤ w10.heap.size := Nat.le_refl _
    have fXy0 := jX
    have fZy0 := jZ
    have dt0y0 := it0
    have dWy0 := iW
    have dx0y0 := ix0
    have dGy0 := iG
    clear cX0 cX1 cX2 cZ0 cZ1 cZ2
    have hsz := hbel.size
    have kX_ := hid (Blk.below kX.out hb jX); have jX_ := Nat.lt_of_lt_of_le jX hb.size; clear kX jX; have kX := kX_; have jX := jX_; clear kX_ jX_
    have kZ_ := hid (Blk.below kZ.out hb jZ); have jZ_ := Nat.lt_of_lt_of_le jZ hb.size; clear kZ jZ; have kZ := kZ_; have jZ := jZ_; clear kZ_ jZ_
    have hbel_ := hbel.trans (hb.mono hsz)
    have a0_ := RVV.below a0 (hb.mono hsz)
    have ot0_ := OwnVV.below ot0 hb it0
    have it0_ := Nat.le_trans it0 hb.size
    have oW_ := OwnV.below oW hb iW
    have iW_ := Nat.le_trans iW hb.size
    have ox0_ := OwnVV.below ox0 hb ix0
    have ix0_ := Nat.le_trans ix0 hb.size
    have oG_ := OwnV.below oG hb iG
    have iG_ := Nat.le_trans iG hb.size
    clear hbel; have hbel := hbel_; clear hbel_
    clear a0; have a0 := a0_; clear a0_
    clear ot0; have ot0 := ot0_; clear ot0_
    clear it0; have it0 := it0_; clear it0_
    clear oW; have oW := oW_; clear oW_
    clear iW; have iW := iW_; clear iW_
    clear ox0; have ox0 := ox0_; clear ox0_
    clear ix0; have ix0 := ix0_; clear ix0_
    clear oG; have oG := oG_; clear oG_
    clear iG; have iG := iG_; clear iG_
    clear hsz
    obtain ⟨cX0, cX1, cX2⟩ := blk3 kX.out
    obtain ⟨cZ0, cZ1, cZ2⟩ := blk3 kZ.out
    clear hb
    go_wp2_with fail
    refine (leastPowers_impl _ _ _ _ rows N0 G0 _ (RVV.more (OwnII.rii oy0) iy0) (Nat.le_refl _) (by omega)).mono ?_
    rintro e w11 ⟨AH, nH, cH, rfl, oH, hb⟩
    have lH : w.heap.size ≤ w10.heap.size := hbel.size
    have iH : w11.heap.size ≤ w11.heap.size := Nat.le_refl _
    rw [← HV.out] at oH
    change OwnI _ _ _ _ _ _ _ V at oH
    have zH : nH ≤ 1000000000 := by have := OwnI.len oH; omega
    have dt0H := it0
    have dWH := iW
    have dx0H := ix0
    have dGH := iG
    have dy0H := iy0
    have fXH := jX
    have fZH := jZ
    clear cX0 cX1 cX2 cZ0 cZ1 cZ2
    have hsz := hbel.size
    have kX_ := hid (Blk.below kX.out hb jX); have jX_ := Nat.lt_of_lt_of_le jX hb.size; clear kX jX; have kX := kX_; have jX := jX_; clear kX_ jX_
    have kZ_ := hid (Blk.below kZ.out hb jZ); have jZ_ := Nat.lt_of_lt_of_le jZ hb.size; clear kZ jZ; have kZ := kZ_; have jZ := jZ_; clear kZ_ jZ_
    have hbel_ := hbel.trans (hb.mono hsz)
    have a0_ := RVV.below a0 (hb.mono hsz)
    have ot0_ := OwnVV.below ot0 hb it0
    have it0_ := Nat.le_trans it0 hb.size
    have oW_ := OwnV.below oW hb iW
    have iW_ := Nat.le_trans iW hb.size
    have ox0_ := OwnVV.below ox0 hb ix0
    have ix0_ := Nat.le_trans ix0 hb.size
    have oG_ := OwnV.below oG hb iG
    have iG_ := Nat.le_trans iG hb.size
    have oy0_ := OwnVV.below oy0 hb iy0
    have iy0_ := Nat.le_trans iy0 hb.size
    clear hbel; have hbel := hbel_; clear hbel_
    clear a0; have a0 := a0_; clear a0_
    clear ot0; have ot0 := ot0_; clear ot0_
    clear it0; have it0 := it0_; clear it0_
    clear oW; have oW := oW_; clear oW_
    clear iW; have iW := iW_; clear iW_
    clear ox0; have ox0 := ox0_; clear ox0_
    clear ix0; have ix0 := ix0_; clear ix0_
    clear oG; have oG := oG_; clear oG_
    clear iG; have iG := iG_; clear iG_
    clear oy0; have oy0 := oy0_; clear oy0_
    clear iy0; have iy0 := iy0_; clear iy0_
    clear hsz
    obtain ⟨cX0, cX1, cX2⟩ := blk3 kX.out
    obtain ⟨cZ0, cZ1, cZ2⟩ := blk3 kZ.out
    clear hb
    go_wp2_with fail
    refine (eqIntS_same _ _ _ _ _ _ _ _ _ _ (OwnI.ri oH) (OwnI.ri oW) (by omega)).mono ?_
    rintro e w12 ⟨rfl, hb⟩
    clear cX0 cX1 cX2 cZ0 cZ1 cZ2
    have hsz := hbel.size
    have kX_ := hid (Blk.below kX.out hb jX); have jX_ := Nat.lt_of_lt_of_le jX hb.size; clear kX jX; have kX := kX_; have jX := jX_; clear kX_ jX_
    have kZ_ := hid (Blk.below kZ.out hb jZ); have jZ_ := Nat.lt_of_lt_of_le jZ hb.size; clear kZ jZ; have kZ := kZ_; have jZ := jZ_; clear kZ_ jZ_
    have hbel_ := hbel.trans (hb.mono hsz)
    have a0_ := RVV.below a0 (hb.mono hsz)
    have ot0_ := OwnVV.below ot0 hb it0
    have it0_ := Nat.le_trans it0 hb.size
    have oW_ := OwnV.below oW hb iW
    have iW_ := Nat.le_trans iW hb.size
    have ox0_ := OwnVV.below ox0 hb ix0
    have ix0_ := Nat.le_trans ix0 hb.size
    have oG_ := OwnV.below oG hb iG
    have iG_ := Nat.le_trans iG hb.size
    have oy0_ := OwnVV.below oy0 hb iy0
    have iy0_ := Nat.le_trans iy0 hb.size
    have oH_ := OwnV.below oH hb iH
    have iH_ := Nat.le_trans iH hb.size
    clear hbel; have hbel := hbel_; clear hbel_
    clear a0; have a0 := a0_; clear a0_
    clear ot0; have ot0 := ot0_; clear ot0_
    clear it0; have it0 := it0_; clear it0_
    clear oW; have oW := oW_; clear oW_
    clear iW; have iW := iW_; clear iW_
    clear ox0; have ox0 := ox0_; clear ox0_
    clear ix0; have ix0 := ix0_; clear ix0_
    clear oG; have oG := oG_; clear oG_
    clear iG; have iG := iG_; clear iG_
    clear oy0; have oy0 := oy0_; clear oy0_
    clear iy0; have iy0 := iy0_; clear iy0_
    clear oH; have oH := oH_; clear oH_
    clear iH; have iH := iH_; clear iH_
    clear hsz
    obtain ⟨cX0, cX1, cX2⟩ := blk3 kX.out
    obtain ⟨cZ0, cZ1, cZ2⟩ := blk3 kZ.out
    clear hb
    go_wp2_with fail
    refine (heldIntS_yes _ _ _ _ _ _ (OwnI.ri oG) (by omega) (by omega) (by omega)).mono ?_
    rintro e w_ ⟨rfl, rfl⟩
    go_wp2
    go_ret
    exact ⟨rfl, hbel⟩

set_option maxHeartbeats 800000 in
theorem fnExactLeastPowers_walk {A0 : Option Addr} {n0 c0 : Nat} {rows : List (List Int)} (N0 G0 : Int) (w : World) (h0 : RII w w.heap.size A0 n0 rows) (hl0 : n0 ≤ c0) (hm0 : c0 ≤ maxLen) :
    Calls Try.prog 11 #[.agg #[.slice A0 n0 c0, .int .i64 N0, .int .i64 G0]] w fun e w' => e = .returned (.bool true) ∧ Below w.heap.size w w' := by
  rcases szSSI_ok (rows.map List.length) 1048576 (by omega) with hneg | ⟨hz0, _⟩
  · have hsc := hid (fun W (hW : Below w.heap.size w W) => szLinks_neg A0 n0 c0 w.heap.size rows N0 G0 1048576 W (RVV.below h0 hW) hW.size hl0 hm0 (by omega) (by omega) hneg)
    go_enter Try.func11, Try.ntmps11
    go_wp2_with fail
    refine (hsc.out _ ((Below.refl _ _).alloc (Nat.le_refl _) _)).mono ?_
    rintro e w_ ⟨rfl, hb⟩
    have hbel := hid (((Below.refl w.heap.size w).alloc (Nat.le_refl _) _).trans (hb.mono (by simp)))
    clear hb
    go_wp2
    go_ret
    exact ⟨rfl, hbel.out⟩
  · skip
    exact fnExactLeastPowers_core w A0 n0 c0 rows N0 G0 h0 hl0 hm0 hz0
end Go.Proofs.Ytajnpmnedghckaa
