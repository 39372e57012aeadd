/-
  FnGoBack, walked: the receiver accepts in order.
-/
import Derived.Test.YtnnapbjaidbkgaaDRep2
import Derived.Test.YtnnapbjaidbkgaaAlive
import Derived.Test.YtnnapbjaidbkgaaRepG
namespace Go.Proofs.Ytnnapbjaidbkgaa
open Go.RowKit
set_option linter.unusedVariables false

set_option maxRecDepth 100000 in
set_option maxHeartbeats 3200000 in
theorem fnGoBack_walk {A : Option Addr} {n c : Nat} {bs : List Int} (w : World) (h : RV w w.heap.size A n (bs.map (Value.int .u8))) (wf : ∀ x ∈ bs, (Lit.int .u8 x).wf = true) (hl : n ≤ c) (hm : c ≤ maxLen) :
    Calls Try.prog 6 #[.slice A n c] w fun e w' => e = .returned (.bool true) ∧ Below w.heap.size w w' := by
  unfold maxLen at hm
  by_cases hn : n ≤ 1048576
  · have hd := drawGoBack_any A n c w.heap.size bs w h (Nat.le_refl _) hl hn (fun x hx => bounds_u8 (wf x hx))
    clear wf h
    have hbel : Below w.heap.size w w := Below.refl _ _
    go_enter Try.func6, Try.ntmps6
    go_wp2_with fail
    refine (hd).mono ?_
    rintro e w1 ⟨nn, zz, A1, n1, c1, xs, rfl, ⟨nn0, nn1⟩, ⟨zz0, zz1⟩, hr1, hz1, hb⟩
    have hbel_ := Below.next hbel hb; clear hbel; have hbel := hbel_; clear hbel_
    clear hb
    clear hd
    have rX : RT w1 w1.heap.size A1 n1 xs := hr1
    clear hr1
    have LX := hid (RT.len rX)
    obtain ⟨V, HV⟩ : ∃ V, Hid (V = goBack nn zz xs) := ⟨_, hid rfl⟩
    have hVl : V.1.length ≤ 308 := by rw [HV.out]; exact goBack_len _ _ _
    have HI := hid (fun B => goBack_impl nn zz A1 n1 c1 B xs)
    have HS := hid (fun B => goBack_spec nn zz A1 n1 c1 B xs)
    rw [← HV.out] at HI HS
    have hne2 : (V.2 != V.2) = false := by simp
    go_wp2_with fail
    refine (HI.out _ _ rX (Nat.le_refl _) (by omega)).mono ?_
    rintro e w2 ⟨A3, n3, c3, rfl, ho, hb⟩
    have nV := OwnI.ri ho
    have hbel_ := Below.next hbel hb; clear hbel; have hbel := hbel_; clear hbel_
    have rX_ := RV.next rX hb; clear rX; have rX := rX_; clear rX_
    clear hb
    have rV := nV; clear nV
    clear ho
    have LV := hid (RI.len rV)
    have hn3 : n3 ≤ 308 := by have := LV.out; omega
    go_wp2_with fail
    refine (HS.out _ _ rX (Nat.le_refl _) (by omega)).mono ?_
    rintro e w3 ⟨A4, n4, c4, rfl, ho, hb⟩
    have nW := OwnI.ri ho
    have hbel_ := Below.next hbel hb; clear hbel; have hbel := hbel_; clear hbel_
    have rX_ := RV.next rX hb; clear rX; have rX := rX_; clear rX_
    have rV_ := RV.next rV hb; clear rV; have rV := rV_; clear rV_
    clear hb
    have rW := nW; clear nW
    clear ho
    go_wp2_with fail
    refine (sameInts_same _ _ _ _ _ _ _ _ _ _ rV rW (by omega)).mono ?_
    rintro e w4 ⟨rfl, hb⟩
    have hbel_ := Below.next hbel hb; clear hbel; have hbel := hbel_; clear hbel_
    have rX_ := RV.next rX hb; clear rX; have rX := rX_; clear rX_
    have rV_ := RV.next rV hb; clear rV; have rV := rV_; clear rV_
    have rW_ := RV.next rW hb; clear rW; have rW := rW_; clear rW_
    clear hb
    clear rW HI HS
    rcases goBack_cases xs nn zz with hc | ⟨v0, v1, v2, v3, s, hc, hinv⟩
    · rw [← HV.out] at hc
      subst hc
      have hn30 : n3 = 0 := by have := LV.out; simpa using this.symm
      subst hn30
      go_wp2_with fail
      refine (alive_any _).mono ?_
      rintro e w5 ⟨rfl, hb⟩
      have hbel_ := Below.next hbel hb; clear hbel; have hbel := hbel_; clear hbel_
      have rX_ := RV.next rX hb; clear rX; have rX := rX_; clear rX_
      have rV_ := RV.next rV hb; clear rV; have rV := rV_; clear rV_
      clear hb
      go_wp2
      go_ret
      exact ⟨rfl, hbel⟩
    · rw [← HV.out] at hc
      subst hc
      obtain ⟨N, rfl⟩ := Int.eq_ofNat_of_zero_le v0
      rw [Int.toNat_natCast] at hinv
      by_cases hN0 : N = 0
      · subst hN0
        have hs0 : s = [] := by
          cases s with
          | nil => rfl
          | cons x t => have := hinv.1 x (List.mem_cons_self ..); omega
        subst hs0
        have hn30 : n3 = 0 := by have := LV.out; simpa using this.symm
        subst hn30
        clear hinv
        go_wp2_with fail
        refine (alive_any _).mono ?_
        rintro e w5 ⟨rfl, hb⟩
        have hbel_ := Below.next hbel hb; clear hbel; have hbel := hbel_; clear hbel_
        have rX_ := RV.next rX hb; clear rX; have rX := rX_; clear rX_
        have rV_ := RV.next rV hb; clear rV; have rV := rV_; clear rV_
        clear hb
        go_wp2
        go_ret
        exact ⟨rfl, hbel⟩
      · have hb0 : ((N : Int) == 0) = false := by simp; omega
        have HINV := hid hinv
        obtain ⟨Z, rfl⟩ := Int.eq_ofNat_of_zero_le zz0
        have hmk := run_make_row' (P := Try.prog) 22 4 (.bool false) 1 Try.underlying22 infoBoolG rfl .i64 .i64 N (by omega) (by omega)
        have hls : Hid (s.length = n3) := hid LV.out
        have HCL := hid (fun B w h => goBack_impl (N : Int) (Z : Int) none 0 0 B [] w h)
        have hcl := goBack_clean (N : Int) (Z : Int) v0 v1 v2 v3
        rw [Int.toNat_natCast] at hcl
        rw [hcl] at HCL
        have HCL2 : Hid (((List.range N).map Int.ofNat).length = N) := hid (by simp)
        obtain ⟨O, HO⟩ : ∃ O, Hid (O = goBack (N : Int) 1 xs) := ⟨_, hid rfl⟩
        have HON := hid (fun B w h => goBack_impl (N : Int) 1 A1 n1 c1 B xs w h)
        rw [← HO.out] at HON
        have hone : O.2 = true → (O.1.length : Int) = N + goneC xs O.1.length := by rw [HO.out]; exact fun h => goBack_one xs (N : Int) h v0
        have HONE := hid hone
        have hOl : O.1.length ≤ 308 := by rw [HO.out]; exact goBack_len _ _ _
        obtain ⟨d0, hd0⟩ : ∃ d0 : Nat → Bool, d0 = fun _ => false := ⟨_, rfl⟩
        have hblk0 : Blk (w4.alloc (.cells (madeCells #[.bool false] N) 4)) w4.heap.size 4 ((List.range N).map fun j => Value.bool (d0 j)).toArray := by
          have := Blk.new w4 4 (madeCells #[.bool false] N)
          rw [repBool] at this ⊢
          rw [hd0]
          exact this
        have HB0 := hid (And.intro hblk0 ((Below.refl w4.heap.size w4).alloc (Nat.le_refl _) (.cells (madeCells #[.bool false] N) 4)))
        have HR := hid (And.intro rV (And.intro rX hbel))
        clear hinv hcl hone hd0 hblk0 rV rX hbel hVl
        go_wp2
        go_loopw [11] (fun iv wr => ∃ (i : Nat) (d : Nat → Bool), i ≤ n3 ∧ iv = .int .i64 i ∧ Hid (Blk wr w4.heap.size 4 ((List.range N).map fun j => Value.bool (d j)).toArray ∧ Below w4.heap.size w4 wr ∧ ∀ j : Nat, (j : Int) ∈ s.take i → d j = true)) (fun iv _ => 400 - (intOf iv).toNat)
        case atStart => exact ⟨0, d0, Nat.zero_le _, rfl, hid ⟨HB0.out.1, HB0.out.2, by simp⟩⟩
        case round =>
          obtain ⟨i, d, hi, rfl, HX⟩ := hrel
          by_cases hin : i < n3
          · obtain ⟨b, o, x, rfl, hbb, hx, hcx⟩ := RI.at_ (RV.below HR.out.1 HX.out.2.1) hin
            have hxb := HINV.out.1 x (List.mem_of_getElem? hx)
            obtain ⟨X, rfl⟩ := Int.eq_ofNat_of_zero_le hxb.1
            have hX0 : (0 : Int) ≤ (X : Int) := hxb.1
            have hX1 : (X : Int) < (N : Int) := hxb.2
            have hcell : wr.cell? ⟨w4.heap.size, X, none⟩ = some (.bool (d X)) := (HX.out.1.cell _).trans (rangeCell _ _ _ (by omega))
            have hfr := HX.out.1.frozen X
            have hi0 : (0 : Int) ≤ (i : Int) := by omega
            have H2 : Hid (Blk (wr.setCell ⟨w4.heap.size, X, none⟩ (.bool true)) w4.heap.size 4 ((List.range N).map fun j => Value.bool (updB d X true j)).toArray ∧ Below w4.heap.size w4 (wr.setCell ⟨w4.heap.size, X, none⟩ (.bool true)) ∧ ∀ j : Nat, (j : Int) ∈ s.take (i + 1) → updB d X true j = true) := hid ⟨by rw [updArr]; exact HX.out.1.set_ X (.bool true), HX.out.2.1.setCell (p := ⟨w4.heap.size, X, none⟩) (Nat.le_refl _) _, fun j hj => by
              rw [take_snoc _ _ _ hx, List.mem_append, List.mem_singleton] at hj
              unfold updB
              split
              · rfl
              · rename_i hne
                rcases hj with hj | hj
                · exact HX.out.2.2 j hj
                · exact absurd (by omega) hne⟩
            clear hx hxb HX
            go_wp2
            go_roundw
            case rel => exact ⟨i + 1, updB d X true, by omega, by go_num, H2⟩
            case measure => simp [intOf]; omega
          · have hin' : i = n3 := by omega
            subst hin'
            have HD : Hid (∀ j : Nat, j < N → d j = true) := hid (fun j hj => HX.out.2.2 j (by rw [List.take_of_length_le (by rw [hls.out]; omega)]; exact HINV.out.2.1 j hj))
            go_wp2
            obtain ⟨wo, rfl⟩ : ∃ wo : World, wo = wr := ⟨_, rfl⟩
            go_loop [12] (fun iv => ∃ j : Nat, j ≤ N ∧ iv = .int .i64 j) (fun iv => 400 - (intOf iv).toNat)
            case atStart => exact ⟨0, Nat.zero_le _, rfl⟩
            case round =>
              obtain ⟨j, hj, rfl⟩ := hrel
              by_cases hjN : j < N
              · have hcell : wo.cell? ⟨w4.heap.size, j, none⟩ = some (.bool true) := ((HX.out.1.cell _).trans (rangeCell _ _ _ hjN)).trans (by rw [HD.out j hjN])
                have hj0 : (0 : Int) ≤ (j : Int) := by omega
                go_wp2
                go_round
                case rel => exact ⟨j + 1, by omega, by go_num⟩
                case measure => simp [intOf]; omega
              · have HRo := hid (And.intro (RV.next HR.out.1 HX.out.2.1) (And.intro (RV.next HR.out.2.1 HX.out.2.1) (Below.next HR.out.2.2 HX.out.2.1)))
                clear HX HD
                go_wp2_with fail
                refine (HCL.out 0 _ RV.none_ (Nat.zero_le _) (by omega)).mono ?_
                rintro e w7 ⟨A7, n7, c7, rfl, ho7, hb7⟩
                have hn7 : n7 = N := by rw [← OwnI.len ho7, HCL2.out]
                subst hn7
                have HR7 := hid (And.intro (RV.next HRo.out.1 hb7) (And.intro (RV.next HRo.out.2.1 hb7) (Below.next HRo.out.2.2 hb7)))
                clear ho7 hb7 HRo
                go_wp2_with fail
                refine (HON.out _ _ HR7.out.2.1 (Nat.le_refl _) (by omega)).mono ?_
                rintro e w8 ⟨A8, n8, c8, rfl, ho8, hb8⟩
                have hn8 : Hid (O.1.length = n8) := hid (OwnI.len ho8)
                have hn88 : n8 ≤ 308 := by have := hn8.out; omega
                have rV := RV.next HR7.out.1 hb8
                have rX := RV.next HR7.out.2.1 hb8
                have hbel := Below.next HR7.out.2.2 hb8
                clear ho8 hb8 HR7
                go_wp2
                go_loop [17, 18] (fun gv kv => ∃ (k G : Nat), k ≤ n8 ∧ k ≤ n1 ∧ kv = .int .i64 k ∧ gv = .int .i64 G ∧ G ≤ k ∧ Hid (G = goneC xs k)) (fun _ kv => 400 - (intOf kv).toNat)
                case atStart => exact ⟨0, 0, Nat.zero_le _, Nat.zero_le _, rfl, rfl, Nat.le_refl _, hid rfl⟩
                case round =>
                  obtain ⟨k, G, hk, hkn, rfl, rfl, hGk, HG⟩ := hrel
                  by_cases hkt : k < n8 ∧ k < n1
                  · obtain ⟨hkt, hkn1⟩ := hkt
                    obtain ⟨b, o, x, rfl, hbb, hx, hcx⟩ := RT.at_ rX hkn1
                    have hlx : lostB xs k = x := by rw [lostB, List.getD_eq_getElem?_getD, hx]; rfl
                    have hk0 : (0 : Int) ≤ (k : Int) := by omega
                    clear hx
                    cases x
                    · have HG' : Hid (G = goneC xs (k + 1)) := hid (by rw [goneC, if_neg (by rw [hlx]; exact Bool.false_ne_true), HG.out]; omega)
                      clear hlx
                      go_wp2
                      go_round
                      case rel => exact ⟨k + 1, G, by omega, by omega, by go_num, rfl, by omega, HG'⟩
                      case measure => simp [intOf]; omega
                    · have HG' : Hid (G + 1 = goneC xs (k + 1)) := hid (by rw [goneC, if_pos hlx, HG.out])
                      clear hlx
                      go_wp2
                      go_round
                      case rel => exact ⟨k + 1, G + 1, by omega, by omega, by go_num, by go_num, by omega, HG'⟩
                      case measure => simp [intOf]; omega
                  · have hGt : G = goneC xs n8 := by
                      rw [HG.out]
                      by_cases h1 : k = n8
                      · rw [h1]
                      · have h2 : k = n1 := by omega
                        have := goneC_far xs n1 (n8 - n1) (by rw [LX.out]; omega)
                        rw [h2, ← this, show n1 + (n8 - n1) = n8 by omega]
                    have hpos : 0 < n7 := by omega
                    have hlast := HINV.out.2.2.2.2 rfl hpos
                    have hn3p : 0 < i := by
                      rcases Nat.eq_zero_or_pos i with h0 | h0
                      · exfalso
                        have : s = [] := List.eq_nil_of_length_eq_zero (by rw [hls.out]; exact h0)
                        rw [this] at hlast
                        simp at hlast
                      · exact h0
                    obtain ⟨b, o, x, rfl, hbb, hx, hcx⟩ := RI.at_ rV (k := i - 1) (by omega)
                    have hxl : x = (n7 : Int) - 1 := by
                      rw [List.getLast?_eq_getElem?, hls.out, hx] at hlast
                      injection hlast
                    subst hxl
                    have hq1 : ((n7 : Int) == (n7 : Int)) = true := by simp
                    have hq2 : ((n7 : Int) - 1 == (n7 : Int) - 1) = true := by simp
                    have hidx : ((i : Int) - 1).toNat = i - 1 := by omega
                    cases hf : O.2
                    · have hf' : O.2 = false := hf
                      clear hx hlast HG
                      have hkt' : ¬ (k < n8 ∧ k < n1) := hkt
                      clear hkt
                      by_cases hk8 : k < n8
                      · have hk1 : ¬ k < n1 := fun h => hkt' ⟨hk8, h⟩
                        clear hkt'
                        go_wp2
                        go_ret
                        exact ⟨rfl, hbel⟩
                      · clear hkt'
                        go_wp2
                        go_ret
                        exact ⟨rfl, hbel⟩
                    · have hOf := HONE.out hf
                      rw [hn8.out, ← hGt] at hOf
                      have hqe : ((n8 : Int) == (n7 : Int) + (G : Int)) = true := by simp; omega
                      clear hx hlast HG hGt hOf
                      have hkt' : ¬ (k < n8 ∧ k < n1) := hkt
                      clear hkt
                      by_cases hk8 : k < n8
                      · have hk1 : ¬ k < n1 := fun h => hkt' ⟨hk8, h⟩
                        clear hkt'
                        go_wp2
                        go_ret
                        exact ⟨rfl, hbel⟩
                      · clear hkt'
                        go_wp2
                        go_ret
                        exact ⟨rfl, hbel⟩
  · go_enter Try.func6, Try.ntmps6
    go_wp2
    go_ret
    exact ⟨rfl, Below.refl _ _⟩
end Go.Proofs.Ytnnapbjaidbkgaa
