/-
  FnSpreadBits, walked: despreading gives the bits back, also out of the sum of two spreads.
-/
import Derived.Test.YtgkkanamnhochaaDrawSpr
import Derived.Test.YtgkkanamnhochaaAlive
import Derived.Test.YtgkkanamnhochaaSprLaw
import Derived.Deep.RegionHeld3
import Derived.Test.YtgkkanamnhochaaReg
import Derived.Test.YtgkkanamnhochaaIs
namespace Go.Proofs.Ytgkkanamnhochaa
open Go.RowKit
set_option linter.unusedVariables false

set_option profiler true in
set_option profiler.threshold 1000 in
set_option maxRecDepth 100000 in
set_option maxHeartbeats 4000000 in
theorem fnSpreadBits_walk {A : Option Addr} {n c : Nat} {bs : List Int} (w : World) (h : RV w w.heap.size A n (bs.map (Value.int .u8))) (wf : ∀ x ∈ bs, (Lit.int .u8 x).wf = true) (hl : n ≤ c) (hm : c ≤ maxLen) :
    Calls Try.prog 11 #[.slice A n c] w fun e w' => e = .returned (.bool true) ∧ Below w.heap.size w w' := by
  unfold maxLen at hm
  obtain ⟨i0, hi0, hz0, hz1, hz2⟩ := info_parts infoD
  by_cases hn : n ≤ 1048576
  · have hd := drawSpreadBits_any A n c w.heap.size bs w h (Nat.le_refl _) hl hn (fun x hx => bounds_u8 (wf x hx))
    clear wf h
    go_enter Try.func11, Try.ntmps11
    go_wp2_with fail
    refine hd.mono ?_
    rintro e w1 ⟨A1, n1, c1, bits, k, rfl, o1, hbl, ⟨k0, k1⟩, hb1⟩
    have r1 : RI w1 w1.heap.size A1 n1 bits := OwnI.ri o1
    have hn1 : n1 ≤ 2000 := by have := OwnI.len o1; omega
    clear hd o1
    obtain ⟨V, hV⟩ : ∃ V, V = spreadBits bits k := ⟨_, rfl⟩
    have hVl : V.length ≤ 256 := by rw [hV]; unfold spreadBits; split; (rename_i hh; rw [spreadL_len]; omega); simp
    have hi := spreadBits_impl A1 n1 c1 _ bits k w1 r1 (Nat.le_refl _) (by omega)
    rw [← hV] at hi
    go_wp2_with fail
    refine hi.mono ?_
    rintro e w2 ⟨A2, n2, c2, rfl, o2, hb2⟩
    have r2 : RI w2 w2.heap.size A2 n2 V := OwnI.ri o2
    have hcap2 := hid (And.intro o2.2.1 o2.2.2.1)
    have r12 := RV.next r1 hb2
    have hbw2 := Below.next hb1 hb2
    have hs := spreadBits_spec A1 n1 c1 _ bits k w2 r12 (Nat.le_refl _) (by omega)
    rw [← hV] at hs
    have HV := hid hV
    clear hi o2 r1 hb1 hb2 hV
    go_wp2_with fail
    refine hs.mono ?_
    rintro e w3 ⟨A3, n3, c3, rfl, o3, hb3⟩
    have r3 : RI w3 w3.heap.size A3 n3 V := OwnI.ri o3
    have r13 := RV.next r12 hb3
    have r23 := RV.next r2 hb3
    have hbw3 := Below.next hbw2 hb3
    clear hs o3 hb3 r12 r2 hbw2
    go_wp2_with fail
    refine (sameInts_same A2 A3 n2 n3 c2 c3 _ _ V w3 r23 r3 (by omega)).mono ?_
    rintro e w4 ⟨rfl, hb4⟩
    have r14 := RV.next r13 hb4
    have r24 := RV.next r23 hb4
    have hbw4 := Below.next hbw3 hb4
    clear r13 r23 r3 hb4 hbw3
    have HL1 := hid (RI.len r14)
    have HL2 := hid (RI.len r24)
    by_cases hn2 : n2 = 0
    · subst hn2
      go_wp2_with fail
      refine (alive_any _).mono ?_
      rintro e w5 ⟨rfl, hb5⟩
      go_wp2
      go_ret
      exact ⟨rfl, Below.next hbw4 hb5⟩
    · have hne : spreadBits bits k ≠ [] := fun e => hn2 (by rw [← HL2.out, HV.out, e]; rfl)
      have hval : bitsValid bits = true ∧ bits.length ≤ 32 ∧ 0 ≤ k ∧ k ≤ 7 := by
        unfold spreadBits at hne
        split at hne
        · assumption
        · exact absurd rfl hne
      obtain ⟨hv1, hv2, hv3, hv4⟩ := hval
      obtain ⟨K, rfl⟩ := Int.eq_ofNat_of_zero_le hv3
      have hVs : V = spreadL K bits := by rw [HV.out, spreadBits, if_pos ⟨hv1, hv2, hv3, hv4⟩, Int.toNat_natCast]
      have hlen2 : n2 = 8 * n1 := by rw [← HL2.out, hVs, spreadL_len, HL1.out]
      subst hVs
      have HVB := hid hv1
      have HVL := hid hv2
      have hn32 : n1 ≤ 32 := by rw [← HL1.out]; exact hv2
      clear hne hv1 hv2 hVl
      subst hlen2
      obtain ⟨J, hJ⟩ : ∃ J, J = (K + 3) % 8 := ⟨_, rfl⟩
      have hJ8 : J < 8 := by omega
      have hJK : J ≠ K := by omega
      have hq1 : ((K : Int) + 3).tmod 8 = (J : Int) := by rw [Int.tmod_eq_emod_of_nonneg (by omega)]; omega
      have hq2 : ((K : Int) + 3) % 8 = (J : Int) := by omega
      have HJ := hid hJ
      clear hJ
      have hbw4' := hbw4.size
      have hn10 : ¬ n1 = 0 := by omega
      have hn11 : (8 * (n1 : Int) == 0) = false := by simp; omega
      go_wp2
      go_loopw [7, 8] (fun v iv wr => ∃ (m cc : Nat) (AA : Option Addr), m ≤ n1 ∧ iv = .int .i64 ((n1 : Int) - 1 - (m : Int)) ∧ v = .slice AA m cc ∧ wr.ownsRow w4.heap.size 3 1 (.slice AA m cc) m ((bits.reverse.take m).map (Value.int .i64)) ∧ Below w4.heap.size w4 wr)
        (fun _ iv _ => (intOf iv + 1).toNat)
      case atStart => exact ⟨0, 0, _, Nat.zero_le _, by simp, rfl, own_lit0 _ (Nat.le_refl _), (Below.refl _ _).alloc (Nat.le_refl _) _⟩
      case round =>
        obtain ⟨m, cc, AA, hm', rfl, rfl, hown, hbel⟩ := hrel
        have hszr := hbel.size
        by_cases hlt : m < n1
        · obtain ⟨I, hI⟩ : ∃ I, I = n1 - 1 - m := ⟨_, rfl⟩
          have hI' : (n1 : Int) - 1 - (m : Int) = (I : Int) := by omega
          have hI1 : I < n1 := by omega
          have HI := hid hI'
          obtain ⟨pb, po, x, rfl, hpb, hx, hcx⟩ := RI.at_ (RV.below r14 hbel) hI1
          have hrx : bits.reverse[m]? = some x := by
            rw [List.getElem?_reverse (by rw [HL1.out]; omega), HL1.out, ← hI]; exact hx
          have HRX := hid hrx
          rw [hI']
          clear hI' hI
          have j0 : (0 : Int) ≤ (I : Int) := by omega
          have j1 : (I : Int) < (n1 : Int) := by omega
          clear hx hrx
          go_wp2_with (at_builtin; refine wpList_push rfl _ _ _ rfl w4.heap.size 3 i0 _ 8 Try.underlying22 hi0 hz0 hz1 hz2 rfl (by omega) _ _ AA m cc _ rfl hown rfl rfl (by omega) (by omega) ?_; intro g' cap w6 hown6 hgrow6 hlies6 hlt6)
          have hbel6 := below_push hbel hown (Nat.le_refl _) (by omega) hgrow6
          go_roundw
          case rel =>
            refine ⟨m + 1, cap, _, by omega, congrArg (Value.int .i64) (by have := HI.out; omega), rfl, ?_, hbel6⟩
            rw [take_snoc _ _ _ HRX.out, List.map_append]
            exact hown6
          case measure => first | (simp [intOf]; done) | (simp [intOf]; have := HI.out; omega)
        · have e : m = n1 := by omega
          subst e
          clear hlt
          have hrev : bits.reverse.take m = bits.reverse := List.take_of_length_le (by rw [List.length_reverse, HL1.out]; exact Nat.le_refl _)
          rw [hrev] at hown
          obtain ⟨A5, c5, hv5, o5⟩ := ownV_of hown
          injection hv5 with e1 e2 e3
          subst e1 e3
          have r5 : RI wr wr.heap.size AA m bits.reverse := OwnV.rv o5
          have r15 := RV.next r14 hbel
          have r25 := RV.next r24 hbel
          have hbw5 := Below.next hbw4 hbel
          have hvr : bitsValid bits.reverse = true := by
            rw [bitsValid_iff]
            exact ⟨by rw [List.length_reverse]; exact (bitsValid_iff.1 HVB.out).1, fun x hx => (bitsValid_iff.1 HVB.out).2 x (List.mem_reverse.1 hx)⟩
          have hsr := spreadBits_impl AA m cc _ bits.reverse (J : Int) wr r5 (Nat.le_refl _) (by omega)
          rw [spreadBits, if_pos ⟨hvr, by rw [List.length_reverse]; exact HVL.out, by omega, by omega⟩, Int.toNat_natCast] at hsr
          clear hown o5 r14 r24 hbw4 hbel hrev hvr
          go_wp2_with fail
          refine hsr.mono ?_
          rintro e w6 ⟨A6, n6, c6, rfl, o6, hb6⟩
          have r6 : RI w6 w6.heap.size A6 n6 (spreadL J bits.reverse) := OwnI.ri o6
          have r56 := RV.next r5 hb6
          have r16 := RV.next r15 hb6
          have r26 := RV.next r25 hb6
          have hbw6 := Below.next hbw5 hb6
          clear hsr o6 r5 r15 r25 hb6 hbw5
          have hAB := (bitsValid_iff.1 HVB.out).2
          have hABr : AllBit bits.reverse := fun x hx => hAB x (List.mem_reverse.1 hx)
          have hlC : (spreadL K bits).length = 8 * m := by rw [spreadL_len, HL1.out]
          have hlD : (spreadL J bits.reverse).length = 8 * m := by rw [spreadL_len, List.length_reverse, HL1.out]
          have haC := allIn_spread K hAB
          have haD := allIn_spread J hABr
          have hn6 : n6 = 8 * m := by rw [← RI.len r6, hlD]
          subst hn6
          have hadd := addChips_impl A2 A6 (8 * m) (8 * m) c2 c6 _ _ _ w6 r26 r6 (Nat.le_refl _) (by omega) (by omega)
          rw [addChips, if_pos ⟨by rw [hlC, hlD], withinB_iff.2 ⟨by omega, allIn_more haC (by omega)⟩, withinB_iff.2 ⟨by omega, allIn_more haD (by omega)⟩⟩] at hadd
          have d1 : despread (spreadL K bits) (K : Int) = bits.map fun b => 8 * (2 * b - 1) := by
            rw [desp_val (n := m) (by omega) hlC hn32 (allIn_more haC (by omega)), ← HL1.out, desp_spread K bits (by omega)]
          have d2 : despread (spreadL K bits) (J : Int) = List.replicate m 0 := by
            rw [desp_val (n := m) hJ8 hlC hn32 (allIn_more haC (by omega)), ← HL1.out, desp_cross K J bits (by omega) hJ8 hJK]
          have hlS : (addL (spreadL K bits) (spreadL J bits.reverse)).length = 8 * m := by rw [addL_len (by rw [hlC, hlD]), hlC]
          have haS := allIn_more (allIn_add haC haD) (show (2 : Int) ≤ 8000 by omega)
          have d3 : despread (addL (spreadL K bits) (spreadL J bits.reverse)) (K : Int) = bits.map fun b => 8 * (2 * b - 1) := by
            rw [desp_val (n := m) (by omega) hlS hn32 haS, ← HL1.out, desp_both K J bits bits.reverse (by omega) hJ8 hJK (by simp)]
          have d4 : despread (addL (spreadL K bits) (spreadL J bits.reverse)) (J : Int) = bits.reverse.map fun b => 8 * (2 * b - 1) := by
            rw [desp_val (n := m) hJ8 hlS hn32 haS, addL_comm, show m = bits.reverse.length by rw [List.length_reverse, HL1.out], desp_both J K bits.reverse bits hJ8 (by omega) (fun e => hJK e.symm) (by simp)]
          have e1 : despBits (spreadL K bits) (K : Int) = bits := by rw [despBits, d1, sbit_back bits hAB]
          have e3 : despBits (addL (spreadL K bits) (spreadL J bits.reverse)) (K : Int) = bits := by rw [despBits, d3, sbit_back bits hAB]
          have e4 : despBits (addL (spreadL K bits) (spreadL J bits.reverse)) (J : Int) = bits.reverse := by rw [despBits, d4, sbit_back _ hABr]
          have HE := hid (And.intro e1 (And.intro d2 (And.intro e3 e4)))
          have HLS := hid hlS
          clear hAB hABr hlC hlD haC haD d1 d2 d3 d4 e1 e3 e4 hlS haS
          go_wp2_with fail
          refine hadd.mono ?_
          rintro e w7 ⟨A7, n7, c7, rfl, o7, hb7⟩
          have r7 : RI w7 w7.heap.size A7 n7 _ := OwnI.ri o7
          have hcap7 := hid (And.intro o7.2.1 o7.2.2.1)
          have hn7 : n7 = 8 * m := by rw [← RI.len r7]; exact HLS.out
          subst hn7
          have r57 := RV.next r56 hb7
          have r17 := RV.next r16 hb7
          have r27 := RV.next r26 hb7
          have hbw7 := Below.next hbw6 hb7
          clear hadd o7 r56 r16 r26 hb7 hbw6 r6
          have HMK : Hid (∀ w, (Instr.makeSlice 22 (.int .i64 (m : Int)) (.int .i64 (m : Int))).run Try.prog w = .ok (.slice (some ⟨w.heap.size, 0, none⟩) m m) (w.alloc (.cells (madeCells #[.int .i64 0] m) 3))) := hid (run_make_row' (P := Try.prog) 22 3 (.int .i64 0) 8 Try.underlying22 infoI rfl .i64 .i64 m (by omega) (by omega))
          go_wp2_with fail
          refine wp_region_g (by kernel_rfl) [[], [], [0, 1], [], [2, 3], [4], [5], [5], [5, 6, 7], [5], [5, 8, 9], [5, 10], [11], [12], [12], [12, 13, 14], [12], [12, 15, 16], [12, 17], [18], [19], [19], [19, 20, 21], [19], [19, 23], [19, 24], [19, 22, 25], [19, 26], [27]] (by kernel_rfl) 29 (by rfl) [some 54, some 55, some 56, some 57, some 58, some 59, some 60, some 61, some 62, some 63, some 64, some 65, some 66, some 67, some 68, some 69, some 70, some 71, some 72, some 73, some 74, some 75, some 76, some 77, some 78, some 79, some 80, some 81, some 2] (by rfl)
            [fun v x _ => v = .slice A2 (8 * m) c2,
             fun v x _ => v = .int .i64 (K : Int),
             fun v x w' => IsI w' v bits,
             fun v x _ => v = .slice A1 m c1,
             fun v x _ => v = .bool true,
             fun v x _ => v = .bool true,
             fun v x _ => v = .slice A7 (8 * m) c7,
             fun v x _ => v = .int .i64 (K : Int),
             fun v x w' => IsI w' v bits,
             fun v x _ => v = .slice A1 m c1,
             fun v x _ => v = .bool true,
             fun v x _ => v = .bool true,
             fun v x _ => v = .bool true,
             fun v x _ => v = .slice A7 (8 * m) c7,
             fun v x _ => v = .int .i64 (J : Int),
             fun v x w' => IsI w' v bits.reverse,
             fun v x _ => v = .slice AA m cc,
             fun v x _ => v = .bool true,
             fun v x _ => v = .bool true,
             fun v x _ => v = .bool true,
             fun v x _ => v = .slice A2 (8 * m) c2,
             fun v x _ => v = .int .i64 (J : Int),
             fun v x w' => IsI w' v (List.replicate m 0),
             fun v x _ => v = .slice A1 m c1,
             fun v x _ => v = .int .i64 m,
             fun v x w' => IsI w' v (List.replicate m 0),
             fun v x _ => v = .bool true,
             fun v x _ => v = .bool true,
             fun v x _ => v = .bool true]
            (fun w' => Below w7.heap.size w7 w') (fun w w' => Below w.heap.size w w') (fun _ => Below.refl _ _) ((Below.refl _ _).drew) ?loc ?ob ?fin
          case loc =>
            refine ⟨⟨⟨⟨⟨⟨⟨⟨⟨⟨⟨⟨⟨⟨⟨⟨⟨⟨⟨⟨⟨⟨⟨⟨⟨⟨⟨⟨⟨trivial, ?_⟩, ?_⟩, ?_⟩, ?_⟩, ?_⟩, ?_⟩, ?_⟩, ?_⟩, ?_⟩, ?_⟩, ?_⟩, ?_⟩, ?_⟩, ?_⟩, ?_⟩, ?_⟩, ?_⟩, ?_⟩, ?_⟩, ?_⟩, ?_⟩, ?_⟩, ?_⟩, ?_⟩, ?_⟩, ?_⟩, ?_⟩, ?_⟩, ?_⟩
            · exact fun _ _ _ _ _ _ _ h => h
            · exact fun _ _ _ _ _ _ _ h => h
            · intro v x x' w w' hx hR h
              revert h
              show (fun v x w' => IsI w' v bits) v x w → (fun v x w' => IsI w' v bits) v x' w'
              intro h
              exact h.below hR
            · exact fun _ _ _ _ _ _ _ h => h
            · exact fun _ _ _ _ _ _ _ h => h
            · exact fun _ _ _ _ _ _ _ h => h
            · exact fun _ _ _ _ _ _ _ h => h
            · exact fun _ _ _ _ _ _ _ h => h
            · intro v x x' w w' hx hR h
              revert h
              show (fun v x w' => IsI w' v bits) v x w → (fun v x w' => IsI w' v bits) v x' w'
              intro h
              exact h.below hR
            · exact fun _ _ _ _ _ _ _ h => h
            · exact fun _ _ _ _ _ _ _ h => h
            · exact fun _ _ _ _ _ _ _ h => h
            · exact fun _ _ _ _ _ _ _ h => h
            · exact fun _ _ _ _ _ _ _ h => h
            · exact fun _ _ _ _ _ _ _ h => h
            · intro v x x' w w' hx hR h
              revert h
              show (fun v x w' => IsI w' v bits.reverse) v x w → (fun v x w' => IsI w' v bits.reverse) v x' w'
              intro h
              exact h.below hR
            · exact fun _ _ _ _ _ _ _ h => h
            · exact fun _ _ _ _ _ _ _ h => h
            · exact fun _ _ _ _ _ _ _ h => h
            · exact fun _ _ _ _ _ _ _ h => h
            · exact fun _ _ _ _ _ _ _ h => h
            · exact fun _ _ _ _ _ _ _ h => h
            · intro v x x' w w' hx hR h
              revert h
              show (fun v x w' => IsI w' v (List.replicate m 0)) v x w → (fun v x w' => IsI w' v (List.replicate m 0)) v x' w'
              intro h
              exact h.below hR
            · exact fun _ _ _ _ _ _ _ h => h
            · exact fun _ _ _ _ _ _ _ h => h
            · intro v x x' w w' hx hR h
              revert h
              show (fun v x w' => IsI w' v (List.replicate m 0)) v x w → (fun v x w' => IsI w' v (List.replicate m 0)) v x' w'
              intro h
              exact h.below hR
            · exact fun _ _ _ _ _ _ _ h => h
            · exact fun _ _ _ _ _ _ _ h => h
            · exact fun _ _ _ _ _ _ _ h => h
          case ob =>
            refine ⟨⟨⟨⟨⟨⟨⟨⟨⟨⟨⟨⟨⟨⟨⟨⟨⟨⟨⟨⟨⟨⟨⟨⟨⟨⟨⟨⟨⟨trivial, ?_⟩, ?_⟩, ?_⟩, ?_⟩, ?_⟩, ?_⟩, ?_⟩, ?_⟩, ?_⟩, ?_⟩, ?_⟩, ?_⟩, ?_⟩, ?_⟩, ?_⟩, ?_⟩, ?_⟩, ?_⟩, ?_⟩, ?_⟩, ?_⟩, ?_⟩, ?_⟩, ?_⟩, ?_⟩, ?_⟩, ?_⟩, ?_⟩, ?_⟩
            · intro x W hS hd KO hK
              clear hd
              simp only [List.getD_cons_zero, fillL, Nat.reduceAdd, Act.put, List.setIfInBounds_toArray, List.set_cons_zero, List.set_cons_succ] at hK ⊢
              refine wpOp_plain rfl rfl ?_
              go_simp
              exact hK _ _ hS (Below.refl _ _) rfl
            · intro x W hS hd KO hK
              clear hd
              simp only [List.getD_cons_zero, List.getD_cons_succ, fillL, Nat.reduceAdd, Act.put, List.setIfInBounds_toArray, List.set_cons_zero, List.set_cons_succ] at hK ⊢
              refine wpOp_plain rfl rfl ?_
              go_simp
              exact hK _ _ hS (Below.refl _ _) rfl
            · intro x W hS hd KO hK
              have h0 : (fun v x _ => v = .slice A2 (8 * m) c2) (x 0) x W := hd 0 (by decide)
              have e0 : x 0 = .slice A2 (8 * m) c2 := h0
              clear h0
              have h1 : (fun v x _ => v = .int .i64 (K : Int)) (x 1) x W := hd 1 (by decide)
              have e1 : x 1 = .int .i64 (K : Int) := h1
              clear h1
              clear hd
              simp only [List.getD_cons_zero, List.getD_cons_succ, fillL, Nat.reduceAdd, Act.put, List.setIfInBounds_toArray, List.set_cons_zero, List.set_cons_succ, e0, e1] at hK ⊢
              refine wpOp_plain rfl rfl ?_
              go_simp
              refine (isI_call (HE.out.1) (despBits_impl _ _ _ _ _ _ W (RV.below r27 hS) hS.size (by omega) (hcap2.out).1 (hcap2.out).2)).mono ?_
              rintro e W1 ⟨v1, rfl, hi1, hb1⟩
              go_wp2_with fail
              exact hK _ _ (hS.trans (hb1.mono hS.size)) hb1 hi1
            · intro x W hS hd KO hK
              clear hd
              simp only [List.getD_cons_zero, List.getD_cons_succ, fillL, Nat.reduceAdd, Act.put, List.setIfInBounds_toArray, List.set_cons_zero, List.set_cons_succ] at hK ⊢
              refine wpOp_plain rfl rfl ?_
              go_simp
              exact hK _ _ hS (Below.refl _ _) rfl
            · intro x W hS hd KO hK
              have h2 : (fun v x w' => IsI w' v bits) (x 2) x W := hd 2 (by decide)
              have h3 : (fun v x _ => v = .slice A1 m c1) (x 3) x W := hd 3 (by decide)
              have e3 : x 3 = .slice A1 m c1 := h3
              clear h3
              clear hd
              simp only [List.getD_cons_zero, List.getD_cons_succ, fillL, Nat.reduceAdd, Act.put, List.setIfInBounds_toArray, List.set_cons_zero, List.set_cons_succ, e3] at hK ⊢
              refine wpOp_plain rfl rfl ?_
              obtain ⟨A0, n0, c0, e0, r0⟩ := h2
              simp only [e0] at hK ⊢
              go_simp
              refine (sameInts_same _ _ _ _ _ _ _ _ bits W r0 (RV.below r17 hS) (by omega)).mono ?_
              rintro e W1 ⟨rfl, hb1⟩
              go_wp2_with fail
              exact hK _ _ (hS.trans (hb1.mono hS.size)) hb1 rfl
            · intro x W hS hd KO hK
              have h4 : (fun v x _ => v = .bool true) (x 4) x W := hd 4 (by decide)
              have e4 : x 4 = .bool true := h4
              clear h4
              clear hd
              simp only [List.getD_cons_zero, List.getD_cons_succ, fillL, Nat.reduceAdd, Act.put, List.setIfInBounds_toArray, List.set_cons_zero, List.set_cons_succ, e4] at hK ⊢
              refine wpOp_plain rfl rfl ?_
              go_simp
              exact hK _ _ hS (Below.refl _ _) rfl
            · intro x W hS hd KO hK
              have h5 : (fun v x _ => v = .bool true) (x 5) x W := hd 5 (by decide)
              have e5 : x 5 = .bool true := h5
              clear h5
              clear hd
              simp only [List.getD_cons_zero, List.getD_cons_succ, fillL, Nat.reduceAdd, Act.put, List.setIfInBounds_toArray, List.set_cons_zero, List.set_cons_succ, e5] at hK ⊢
              refine wpOp_yes rfl rfl rfl rfl ?_
              go_simp
              exact hK _ _ hS (Below.refl _ _) rfl
            · intro x W hS hd KO hK
              have h5 : (fun v x _ => v = .bool true) (x 5) x W := hd 5 (by decide)
              have e5 : x 5 = .bool true := h5
              clear h5
              clear hd
              simp only [List.getD_cons_zero, List.getD_cons_succ, fillL, Nat.reduceAdd, Act.put, List.setIfInBounds_toArray, List.set_cons_zero, List.set_cons_succ, e5] at hK ⊢
              refine wpOp_yes rfl rfl rfl rfl ?_
              go_simp
              exact hK _ _ hS (Below.refl _ _) rfl
            · intro x W hS hd KO hK
              have h5 : (fun v x _ => v = .bool true) (x 5) x W := hd 5 (by decide)
              have e5 : x 5 = .bool true := h5
              clear h5
              have h6 : (fun v x _ => v = .slice A7 (8 * m) c7) (x 6) x W := hd 6 (by decide)
              have e6 : x 6 = .slice A7 (8 * m) c7 := h6
              clear h6
              have h7 : (fun v x _ => v = .int .i64 (K : Int)) (x 7) x W := hd 7 (by decide)
              have e7 : x 7 = .int .i64 (K : Int) := h7
              clear h7
              clear hd
              simp only [List.getD_cons_zero, List.getD_cons_succ, fillL, Nat.reduceAdd, Act.put, List.setIfInBounds_toArray, List.set_cons_zero, List.set_cons_succ, e5, e6, e7] at hK ⊢
              refine wpOp_yes rfl rfl rfl rfl ?_
              go_simp
              refine (isI_call (HE.out.2.2.1) (despBits_impl _ _ _ _ _ _ W (RV.below r7 hS) hS.size (by omega) (hcap7.out).1 (hcap7.out).2)).mono ?_
              rintro e W1 ⟨v1, rfl, hi1, hb1⟩
              go_wp2_with fail
              exact hK _ _ (hS.trans (hb1.mono hS.size)) hb1 hi1
            · intro x W hS hd KO hK
              have h5 : (fun v x _ => v = .bool true) (x 5) x W := hd 5 (by decide)
              have e5 : x 5 = .bool true := h5
              clear h5
              clear hd
              simp only [List.getD_cons_zero, List.getD_cons_succ, fillL, Nat.reduceAdd, Act.put, List.setIfInBounds_toArray, List.set_cons_zero, List.set_cons_succ, e5] at hK ⊢
              refine wpOp_yes rfl rfl rfl rfl ?_
              go_simp
              exact hK _ _ hS (Below.refl _ _) rfl
            · intro x W hS hd KO hK
              have h5 : (fun v x _ => v = .bool true) (x 5) x W := hd 5 (by decide)
              have e5 : x 5 = .bool true := h5
              clear h5
              have h8 : (fun v x w' => IsI w' v bits) (x 8) x W := hd 8 (by decide)
              have h9 : (fun v x _ => v = .slice A1 m c1) (x 9) x W := hd 9 (by decide)
              have e9 : x 9 = .slice A1 m c1 := h9
              clear h9
              clear hd
              simp only [List.getD_cons_zero, List.getD_cons_succ, fillL, Nat.reduceAdd, Act.put, List.setIfInBounds_toArray, List.set_cons_zero, List.set_cons_succ, e5, e9] at hK ⊢
              refine wpOp_yes rfl rfl rfl rfl ?_
              obtain ⟨A0, n0, c0, e0, r0⟩ := h8
              simp only [e0] at hK ⊢
              go_simp
              refine (sameInts_same _ _ _ _ _ _ _ _ bits W r0 (RV.below r17 hS) (by omega)).mono ?_
              rintro e W1 ⟨rfl, hb1⟩
              go_wp2_with fail
              exact hK _ _ (hS.trans (hb1.mono hS.size)) hb1 rfl
            · intro x W hS hd KO hK
              have h5 : (fun v x _ => v = .bool true) (x 5) x W := hd 5 (by decide)
              have e5 : x 5 = .bool true := h5
              clear h5
              have h10 : (fun v x _ => v = .bool true) (x 10) x W := hd 10 (by decide)
              have e10 : x 10 = .bool true := h10
              clear h10
              clear hd
              simp only [List.getD_cons_zero, List.getD_cons_succ, fillL, Nat.reduceAdd, Act.put, List.setIfInBounds_toArray, List.set_cons_zero, List.set_cons_succ, e5, e10] at hK ⊢
              refine wpOp_plain rfl rfl ?_
              go_simp
              exact hK _ _ hS (Below.refl _ _) rfl
            · intro x W hS hd KO hK
              have h11 : (fun v x _ => v = .bool true) (x 11) x W := hd 11 (by decide)
              have e11 : x 11 = .bool true := h11
              clear h11
              clear hd
              simp only [List.getD_cons_zero, List.getD_cons_succ, fillL, Nat.reduceAdd, Act.put, List.setIfInBounds_toArray, List.set_cons_zero, List.set_cons_succ, e11] at hK ⊢
              refine wpOp_plain rfl rfl ?_
              go_simp
              exact hK _ _ hS (Below.refl _ _) rfl
            · intro x W hS hd KO hK
              have h12 : (fun v x _ => v = .bool true) (x 12) x W := hd 12 (by decide)
              have e12 : x 12 = .bool true := h12
              clear h12
              clear hd
              simp only [List.getD_cons_zero, List.getD_cons_succ, fillL, Nat.reduceAdd, Act.put, List.setIfInBounds_toArray, List.set_cons_zero, List.set_cons_succ, e12] at hK ⊢
              refine wpOp_yes rfl rfl rfl rfl ?_
              go_simp
              exact hK _ _ hS (Below.refl _ _) rfl
            · intro x W hS hd KO hK
              have h12 : (fun v x _ => v = .bool true) (x 12) x W := hd 12 (by decide)
              have e12 : x 12 = .bool true := h12
              clear h12
              clear hd
              simp only [List.getD_cons_zero, List.getD_cons_succ, fillL, Nat.reduceAdd, Act.put, List.setIfInBounds_toArray, List.set_cons_zero, List.set_cons_succ, e12] at hK ⊢
              refine wpOp_yes rfl rfl rfl rfl ?_
              go_simp
              exact hK _ _ hS (Below.refl _ _) rfl
            · intro x W hS hd KO hK
              have h12 : (fun v x _ => v = .bool true) (x 12) x W := hd 12 (by decide)
              have e12 : x 12 = .bool true := h12
              clear h12
              have h13 : (fun v x _ => v = .slice A7 (8 * m) c7) (x 13) x W := hd 13 (by decide)
              have e13 : x 13 = .slice A7 (8 * m) c7 := h13
              clear h13
              have h14 : (fun v x _ => v = .int .i64 (J : Int)) (x 14) x W := hd 14 (by decide)
              have e14 : x 14 = .int .i64 (J : Int) := h14
              clear h14
              clear hd
              simp only [List.getD_cons_zero, List.getD_cons_succ, fillL, Nat.reduceAdd, Act.put, List.setIfInBounds_toArray, List.set_cons_zero, List.set_cons_succ, e12, e13, e14] at hK ⊢
              refine wpOp_yes rfl rfl rfl rfl ?_
              go_simp
              refine (isI_call (HE.out.2.2.2) (despBits_impl _ _ _ _ _ _ W (RV.below r7 hS) hS.size (by omega) (hcap7.out).1 (hcap7.out).2)).mono ?_
              rintro e W1 ⟨v1, rfl, hi1, hb1⟩
              go_wp2_with fail
              exact hK _ _ (hS.trans (hb1.mono hS.size)) hb1 hi1
            · intro x W hS hd KO hK
              have h12 : (fun v x _ => v = .bool true) (x 12) x W := hd 12 (by decide)
              have e12 : x 12 = .bool true := h12
              clear h12
              clear hd
              simp only [List.getD_cons_zero, List.getD_cons_succ, fillL, Nat.reduceAdd, Act.put, List.setIfInBounds_toArray, List.set_cons_zero, List.set_cons_succ, e12] at hK ⊢
              refine wpOp_yes rfl rfl rfl rfl ?_
              go_simp
              exact hK _ _ hS (Below.refl _ _) rfl
            · intro x W hS hd KO hK
              have h12 : (fun v x _ => v = .bool true) (x 12) x W := hd 12 (by decide)
              have e12 : x 12 = .bool true := h12
              clear h12
              have h15 : (fun v x w' => IsI w' v bits.reverse) (x 15) x W := hd 15 (by decide)
              have h16 : (fun v x _ => v = .slice AA m cc) (x 16) x W := hd 16 (by decide)
              have e16 : x 16 = .slice AA m cc := h16
              clear h16
              clear hd
              simp only [List.getD_cons_zero, List.getD_cons_succ, fillL, Nat.reduceAdd, Act.put, List.setIfInBounds_toArray, List.set_cons_zero, List.set_cons_succ, e12, e16] at hK ⊢
              refine wpOp_yes rfl rfl rfl rfl ?_
              obtain ⟨A0, n0, c0, e0, r0⟩ := h15
              simp only [e0] at hK ⊢
              go_simp
              refine (sameInts_same _ _ _ _ _ _ _ _ bits.reverse W r0 (RV.below r57 hS) (by rw [List.length_reverse]; omega)).mono ?_
              rintro e W1 ⟨rfl, hb1⟩
              go_wp2_with fail
              exact hK _ _ (hS.trans (hb1.mono hS.size)) hb1 rfl
            · intro x W hS hd KO hK
              have h12 : (fun v x _ => v = .bool true) (x 12) x W := hd 12 (by decide)
              have e12 : x 12 = .bool true := h12
              clear h12
              have h17 : (fun v x _ => v = .bool true) (x 17) x W := hd 17 (by decide)
              have e17 : x 17 = .bool true := h17
              clear h17
              clear hd
              simp only [List.getD_cons_zero, List.getD_cons_succ, fillL, Nat.reduceAdd, Act.put, List.setIfInBounds_toArray, List.set_cons_zero, List.set_cons_succ, e12, e17] at hK ⊢
              refine wpOp_plain rfl rfl ?_
              go_simp
              exact hK _ _ hS (Below.refl _ _) rfl
            · intro x W hS hd KO hK
              have h18 : (fun v x _ => v = .bool true) (x 18) x W := hd 18 (by decide)
              have e18 : x 18 = .bool true := h18
              clear h18
              clear hd
              simp only [List.getD_cons_zero, List.getD_cons_succ, fillL, Nat.reduceAdd, Act.put, List.setIfInBounds_toArray, List.set_cons_zero, List.set_cons_succ, e18] at hK ⊢
              refine wpOp_plain rfl rfl ?_
              go_simp
              exact hK _ _ hS (Below.refl _ _) rfl
            · intro x W hS hd KO hK
              have h19 : (fun v x _ => v = .bool true) (x 19) x W := hd 19 (by decide)
              have e19 : x 19 = .bool true := h19
              clear h19
              clear hd
              simp only [List.getD_cons_zero, List.getD_cons_succ, fillL, Nat.reduceAdd, Act.put, List.setIfInBounds_toArray, List.set_cons_zero, List.set_cons_succ, e19] at hK ⊢
              refine wpOp_yes rfl rfl rfl rfl ?_
              go_simp
              exact hK _ _ hS (Below.refl _ _) rfl
            · intro x W hS hd KO hK
              have h19 : (fun v x _ => v = .bool true) (x 19) x W := hd 19 (by decide)
              have e19 : x 19 = .bool true := h19
              clear h19
              clear hd
              simp only [List.getD_cons_zero, List.getD_cons_succ, fillL, Nat.reduceAdd, Act.put, List.setIfInBounds_toArray, List.set_cons_zero, List.set_cons_succ, e19] at hK ⊢
              refine wpOp_yes rfl rfl rfl rfl ?_
              go_simp
              exact hK _ _ hS (Below.refl _ _) rfl
            · intro x W hS hd KO hK
              have h19 : (fun v x _ => v = .bool true) (x 19) x W := hd 19 (by decide)
              have e19 : x 19 = .bool true := h19
              clear h19
              have h20 : (fun v x _ => v = .slice A2 (8 * m) c2) (x 20) x W := hd 20 (by decide)
              have e20 : x 20 = .slice A2 (8 * m) c2 := h20
              clear h20
              have h21 : (fun v x _ => v = .int .i64 (J : Int)) (x 21) x W := hd 21 (by decide)
              have e21 : x 21 = .int .i64 (J : Int) := h21
              clear h21
              clear hd
              simp only [List.getD_cons_zero, List.getD_cons_succ, fillL, Nat.reduceAdd, Act.put, List.setIfInBounds_toArray, List.set_cons_zero, List.set_cons_succ, e19, e20, e21] at hK ⊢
              refine wpOp_yes rfl rfl rfl rfl ?_
              go_simp
              refine (isI_call (HE.out.2.1) (despread_impl _ _ _ _ _ _ W (RV.below r27 hS) hS.size (by omega) (hcap2.out).1 (hcap2.out).2)).mono ?_
              rintro e W1 ⟨v1, rfl, hi1, hb1⟩
              go_wp2_with fail
              exact hK _ _ (hS.trans (hb1.mono hS.size)) hb1 hi1
            · intro x W hS hd KO hK
              have h19 : (fun v x _ => v = .bool true) (x 19) x W := hd 19 (by decide)
              have e19 : x 19 = .bool true := h19
              clear h19
              clear hd
              simp only [List.getD_cons_zero, List.getD_cons_succ, fillL, Nat.reduceAdd, Act.put, List.setIfInBounds_toArray, List.set_cons_zero, List.set_cons_succ, e19] at hK ⊢
              refine wpOp_yes rfl rfl rfl rfl ?_
              go_simp
              exact hK _ _ hS (Below.refl _ _) rfl
            · intro x W hS hd KO hK
              have h19 : (fun v x _ => v = .bool true) (x 19) x W := hd 19 (by decide)
              have e19 : x 19 = .bool true := h19
              clear h19
              have h23 : (fun v x _ => v = .slice A1 m c1) (x 23) x W := hd 23 (by decide)
              have e23 : x 23 = .slice A1 m c1 := h23
              clear h23
              clear hd
              simp only [List.getD_cons_zero, List.getD_cons_succ, fillL, Nat.reduceAdd, Act.put, List.setIfInBounds_toArray, List.set_cons_zero, List.set_cons_succ, e19, e23] at hK ⊢
              refine wpOp_yes rfl rfl rfl rfl ?_
              go_simp
              exact hK _ _ hS (Below.refl _ _) rfl
            · intro x W hS hd KO hK
              have h19 : (fun v x _ => v = .bool true) (x 19) x W := hd 19 (by decide)
              have e19 : x 19 = .bool true := h19
              clear h19
              have h24 : (fun v x _ => v = .int .i64 m) (x 24) x W := hd 24 (by decide)
              have e24 : x 24 = .int .i64 m := h24
              clear h24
              clear hd
              have hmk := HMK.out
              simp only [List.getD_cons_zero, List.getD_cons_succ, fillL, Nat.reduceAdd, Act.put, List.setIfInBounds_toArray, List.set_cons_zero, List.set_cons_succ, e19, e24] at hK ⊢
              refine wpOp_yes rfl rfl rfl rfl ?_
              go_simp
              exact hK _ _ (hS.trans (((Below.refl _ _).alloc (Nat.le_refl _) _).mono hS.size)) ((Below.refl _ _).alloc (Nat.le_refl _) _) (isI_made W _ m (by unfold maxLen; omega))
            · intro x W hS hd KO hK
              have h19 : (fun v x _ => v = .bool true) (x 19) x W := hd 19 (by decide)
              have e19 : x 19 = .bool true := h19
              clear h19
              have h22 : (fun v x w' => IsI w' v (List.replicate m 0)) (x 22) x W := hd 22 (by decide)
              have h25 : (fun v x w' => IsI w' v (List.replicate m 0)) (x 25) x W := hd 25 (by decide)
              clear hd
              simp only [List.getD_cons_zero, List.getD_cons_succ, fillL, Nat.reduceAdd, Act.put, List.setIfInBounds_toArray, List.set_cons_zero, List.set_cons_succ, e19] at hK ⊢
              refine wpOp_yes rfl rfl rfl rfl ?_
              obtain ⟨A0, n0, c0, e0, r0⟩ := h22
              obtain ⟨A1, n1, c1, e1, r1⟩ := h25
              simp only [e0, e1] at hK ⊢
              go_simp
              refine (sameInts_same _ _ _ _ _ _ _ _ (List.replicate m 0) W r0 r1 (by simp; omega)).mono ?_
              rintro e W1 ⟨rfl, hb1⟩
              go_wp2_with fail
              exact hK _ _ (hS.trans (hb1.mono hS.size)) hb1 rfl
            · intro x W hS hd KO hK
              have h19 : (fun v x _ => v = .bool true) (x 19) x W := hd 19 (by decide)
              have e19 : x 19 = .bool true := h19
              clear h19
              have h26 : (fun v x _ => v = .bool true) (x 26) x W := hd 26 (by decide)
              have e26 : x 26 = .bool true := h26
              clear h26
              clear hd
              simp only [List.getD_cons_zero, List.getD_cons_succ, fillL, Nat.reduceAdd, Act.put, List.setIfInBounds_toArray, List.set_cons_zero, List.set_cons_succ, e19, e26] at hK ⊢
              refine wpOp_plain rfl rfl ?_
              go_simp
              exact hK _ _ hS (Below.refl _ _) rfl
            · intro x W hS hd KO hK
              have h27 : (fun v x _ => v = .bool true) (x 27) x W := hd 27 (by decide)
              have e27 : x 27 = .bool true := h27
              clear h27
              clear hd
              simp only [List.getD_cons_zero, List.getD_cons_succ, fillL, Nat.reduceAdd, Act.put, List.setIfInBounds_toArray, List.set_cons_zero, List.set_cons_succ, e27] at hK ⊢
              refine wpOp_plain rfl rfl ?_
              go_simp
              exact hK _ _ hS (Below.refl _ _) rfl
          case fin =>
            intro x W hS hd
            have h0 : (fun v x _ => v = .slice A2 (8 * m) c2) (x 0) x W := hd 0 (by decide)
            have e0 : x 0 = .slice A2 (8 * m) c2 := h0
            clear h0
            have h1 : (fun v x _ => v = .int .i64 (K : Int)) (x 1) x W := hd 1 (by decide)
            have e1 : x 1 = .int .i64 (K : Int) := h1
            clear h1
            have h2 : (fun v x w' => IsI w' v bits) (x 2) x W := hd 2 (by decide)
            have h3 : (fun v x _ => v = .slice A1 m c1) (x 3) x W := hd 3 (by decide)
            have e3 : x 3 = .slice A1 m c1 := h3
            clear h3
            have h4 : (fun v x _ => v = .bool true) (x 4) x W := hd 4 (by decide)
            have e4 : x 4 = .bool true := h4
            clear h4
            have h5 : (fun v x _ => v = .bool true) (x 5) x W := hd 5 (by decide)
            have e5 : x 5 = .bool true := h5
            clear h5
            have h6 : (fun v x _ => v = .slice A7 (8 * m) c7) (x 6) x W := hd 6 (by decide)
            have e6 : x 6 = .slice A7 (8 * m) c7 := h6
            clear h6
            have h7 : (fun v x _ => v = .int .i64 (K : Int)) (x 7) x W := hd 7 (by decide)
            have e7 : x 7 = .int .i64 (K : Int) := h7
            clear h7
            have h8 : (fun v x w' => IsI w' v bits) (x 8) x W := hd 8 (by decide)
            have h9 : (fun v x _ => v = .slice A1 m c1) (x 9) x W := hd 9 (by decide)
            have e9 : x 9 = .slice A1 m c1 := h9
            clear h9
            have h10 : (fun v x _ => v = .bool true) (x 10) x W := hd 10 (by decide)
            have e10 : x 10 = .bool true := h10
            clear h10
            have h11 : (fun v x _ => v = .bool true) (x 11) x W := hd 11 (by decide)
            have e11 : x 11 = .bool true := h11
            clear h11
            have h12 : (fun v x _ => v = .bool true) (x 12) x W := hd 12 (by decide)
            have e12 : x 12 = .bool true := h12
            clear h12
            have h13 : (fun v x _ => v = .slice A7 (8 * m) c7) (x 13) x W := hd 13 (by decide)
            have e13 : x 13 = .slice A7 (8 * m) c7 := h13
            clear h13
            have h14 : (fun v x _ => v = .int .i64 (J : Int)) (x 14) x W := hd 14 (by decide)
            have e14 : x 14 = .int .i64 (J : Int) := h14
            clear h14
            have h15 : (fun v x w' => IsI w' v bits.reverse) (x 15) x W := hd 15 (by decide)
            have h16 : (fun v x _ => v = .slice AA m cc) (x 16) x W := hd 16 (by decide)
            have e16 : x 16 = .slice AA m cc := h16
            clear h16
            have h17 : (fun v x _ => v = .bool true) (x 17) x W := hd 17 (by decide)
            have e17 : x 17 = .bool true := h17
            clear h17
            have h18 : (fun v x _ => v = .bool true) (x 18) x W := hd 18 (by decide)
            have e18 : x 18 = .bool true := h18
            clear h18
            have h19 : (fun v x _ => v = .bool true) (x 19) x W := hd 19 (by decide)
            have e19 : x 19 = .bool true := h19
            clear h19
            have h20 : (fun v x _ => v = .slice A2 (8 * m) c2) (x 20) x W := hd 20 (by decide)
            have e20 : x 20 = .slice A2 (8 * m) c2 := h20
            clear h20
            have h21 : (fun v x _ => v = .int .i64 (J : Int)) (x 21) x W := hd 21 (by decide)
            have e21 : x 21 = .int .i64 (J : Int) := h21
            clear h21
            have h22 : (fun v x w' => IsI w' v (List.replicate m 0)) (x 22) x W := hd 22 (by decide)
            have h23 : (fun v x _ => v = .slice A1 m c1) (x 23) x W := hd 23 (by decide)
            have e23 : x 23 = .slice A1 m c1 := h23
            clear h23
            have h24 : (fun v x _ => v = .int .i64 m) (x 24) x W := hd 24 (by decide)
            have e24 : x 24 = .int .i64 m := h24
            clear h24
            have h25 : (fun v x w' => IsI w' v (List.replicate m 0)) (x 25) x W := hd 25 (by decide)
            have h26 : (fun v x _ => v = .bool true) (x 26) x W := hd 26 (by decide)
            have e26 : x 26 = .bool true := h26
            clear h26
            have h27 : (fun v x _ => v = .bool true) (x 27) x W := hd 27 (by decide)
            have e27 : x 27 = .bool true := h27
            clear h27
            have h28 : (fun v x _ => v = .bool true) (x 28) x W := hd 28 (by decide)
            have e28 : x 28 = .bool true := h28
            clear h28
            clear hd
            simp only [fillL, Nat.reduceAdd, Act.put, List.setIfInBounds_toArray, List.set_cons_zero, List.set_cons_succ, e0, e1, e3, e4, e5, e6, e7, e9, e10, e11, e12, e13, e14, e16, e17, e18, e19, e20, e21, e23, e24, e26, e27, e28]
            clear e0 e1 e3 e4 e5 e6 e7 e9 e10 e11 e12 e13 e14 e16 e17 e18 e19 e20 e21 e23 e24 e26 e27 e28
            go_wp2
            go_ret
            exact ⟨rfl, hbw7.trans (hS.mono hbw7.size)⟩
  · go_enter Try.func11, Try.ntmps11
    go_wp2
    go_ret
    exact ⟨rfl, Below.refl _ _⟩
end Go.Proofs.Ytgkkanamnhochaa
