/-
  FnGoSelect, walked: selective repetition without losses is going back without losses.
-/
import Derived.Test.YtnnapbjaidbkgaaDRep2
import Derived.Test.YtnnapbjaidbkgaaAlive
import Derived.Test.YtnnapbjaidbkgaaRepG
namespace Go.Proofs.Ytnnapbjaidbkgaa
open Go.RowKit
set_option linter.unusedVariables false

set_option maxRecDepth 100000 in
set_option maxHeartbeats 3200000 in
theorem fnGoSelect_walk {A : Option Addr} {n c : Nat} {bs : List Int} (w : World) (h : RV w w.heap.size A n (bs.map (Value.int .u8))) (wf : ∀ x ∈ bs, (Lit.int .u8 x).wf = true) (hl : n ≤ c) (hm : c ≤ maxLen) :
    Calls Try.prog 9 #[.slice A n c] w fun e w' => e = .returned (.bool true) ∧ Below w.heap.size w w' := by
  unfold maxLen at hm
  by_cases hn : n ≤ 1048576
  · have hd := drawGoBack_any A n c w.heap.size bs w h (Nat.le_refl _) hl hn (fun x hx => bounds_u8 (wf x hx))
    clear wf h
    have hbel : Below w.heap.size w w := Below.refl _ _
    go_enter Try.func9, Try.ntmps9
    go_wp2_with fail
    refine (hd).mono ?_
    rintro e w1 ⟨nn, zz, A1, n1, c1, xs, rfl, ⟨nn0, nn1⟩, ⟨zz0, zz1⟩, hr1, hz1, hb⟩
    have hbel_ := Below.next hbel hb; clear hbel; have hbel := hbel_; clear hbel_
    clear hb
    clear hd hr1
    obtain ⟨V, ok, HV, HV2⟩ : ∃ (V : List Int) (ok : Bool), Hid (goBack nn zz [] = (V, ok)) ∧ Hid (selRep nn zz [] = (V, ok) ∧ ∃ N : Nat, N ≤ 30 ∧ V = (List.range N).map Int.ofNat) := by
      by_cases hv : ValidGo nn zz
      · have h1 := goBack_clean nn zz hv.1 hv.2.1 hv.2.2.1 hv.2.2.2
        have h2 := selRep_clean nn zz hv.1 hv.2.1 hv.2.2.1 hv.2.2.2
        exact ⟨_, _, hid h1, hid ⟨h2, nn.toNat, by have := hv.2.1; omega, rfl⟩⟩
      · exact ⟨_, _, hid (goBack_no [] hv), hid ⟨selRep_no [] hv, 0, by omega, rfl⟩⟩
    obtain ⟨N, hN30, hVN⟩ := HV2.out.2
    have HVN := hid hVN
    have hVl : V.length = N := by rw [hVN]; simp
    have HI := hid (fun B w h => goBack_impl nn zz none 0 0 B [] w h)
    have HJ := hid (fun B w h => selRep_impl nn zz none 0 0 B [] w h)
    have HS := hid (fun B w h => goBack_spec nn zz none 0 0 B [] w h)
    rw [HV.out] at HI HS
    rw [HV2.out.1] at HJ
    have hne2 : (ok != ok) = false := by simp
    clear hVN
    go_wp2_with fail
    refine (HI.out 0 _ RV.none_ (Nat.zero_le _) (by omega)).mono ?_
    rintro e w2 ⟨A3, n3, c3, rfl, ho, hb⟩
    have nV := OwnI.ri ho
    have hbel_ := Below.next hbel hb; clear hbel; have hbel := hbel_; clear hbel_
    clear hb
    have rV := nV; clear nV
    clear ho
    go_wp2_with fail
    refine (HJ.out 0 _ RV.none_ (Nat.zero_le _) (by omega)).mono ?_
    rintro e w3 ⟨A4, n4, c4, rfl, ho, hb⟩
    have nW := OwnI.ri ho
    have hbel_ := Below.next hbel hb; clear hbel; have hbel := hbel_; clear hbel_
    have rV_ := RV.next rV hb; clear rV; have rV := rV_; clear rV_
    clear hb
    have rW := nW; clear nW
    clear ho
    go_wp2_with fail
    refine (HS.out 0 _ RV.none_ (Nat.zero_le _) (by omega)).mono ?_
    rintro e w4 ⟨A5, n5, c5, rfl, ho, hb⟩
    have nU := OwnI.ri ho
    have hbel_ := Below.next hbel hb; clear hbel; have hbel := hbel_; clear hbel_
    have rV_ := RV.next rV hb; clear rV; have rV := rV_; clear rV_
    have rW_ := RV.next rW hb; clear rW; have rW := rW_; clear rW_
    clear hb
    have rU := nU; clear nU
    clear ho
    go_wp2_with fail
    refine (sameInts_same _ _ _ _ _ _ _ _ _ _ rV rW (by omega)).mono ?_
    rintro e w5 ⟨rfl, hb⟩
    have hbel_ := Below.next hbel hb; clear hbel; have hbel := hbel_; clear hbel_
    have rV_ := RV.next rV hb; clear rV; have rV := rV_; clear rV_
    have rW_ := RV.next rW hb; clear rW; have rW := rW_; clear rW_
    have rU_ := RV.next rU hb; clear rU; have rU := rU_; clear rU_
    clear hb
    go_wp2_with fail
    refine (sameInts_same _ _ _ _ _ _ _ _ _ _ rV rU (by omega)).mono ?_
    rintro e w6 ⟨rfl, hb⟩
    have hbel_ := Below.next hbel hb; clear hbel; have hbel := hbel_; clear hbel_
    have rV_ := RV.next rV hb; clear rV; have rV := rV_; clear rV_
    have rW_ := RV.next rW hb; clear rW; have rW := rW_; clear rW_
    have rU_ := RV.next rU hb; clear rU; have rU := rU_; clear rU_
    clear hb
    have hn3N : n3 = N := by rw [← RI.len rV, hVl]
    subst hn3N
    clear hVl rW rU
    go_wp2
    go_loop [12] (fun iv => ∃ j : Nat, j ≤ n3 ∧ iv = .int .i64 j) (fun iv => 400 - (intOf iv).toNat)
    case atStart => exact ⟨0, Nat.zero_le _, rfl⟩
    case round =>
      obtain ⟨j, hj, rfl⟩ := hrel
      by_cases hjN : j < n3
      · obtain ⟨b, o, x, rfl, hbb, hx, hcx⟩ := RI.at_ rV hjN
        have hxj : x = (j : Int) := by rw [HVN.out] at hx; simp [hjN] at hx; omega
        subst hxj
        have hq : ((j : Int) != (j : Int)) = false := by simp
        clear hx
        go_wp2
        go_round
        case rel => exact ⟨j + 1, by omega, by go_num⟩
        case measure => simp [intOf]; omega
      · skip
        go_wp2_with fail
        refine (alive_any _).mono ?_
        rintro e w7 ⟨rfl, hb⟩
        have hbel_ := Below.next hbel hb; clear hbel; have hbel := hbel_; clear hbel_
        have rV_ := RV.next rV hb; clear rV; have rV := rV_; clear rV_
        clear hb
        go_wp2
        go_ret
        exact ⟨rfl, hbel⟩
  · go_enter Try.func9, Try.ntmps9
    go_wp2
    go_ret
    exact ⟨rfl, Below.refl _ _⟩
end Go.Proofs.Ytnnapbjaidbkgaa
