/-
  FnSelectRepeat, walked: only lost messages are repeated.
-/
import Derived.Test.YtnnapbjaidbkgaaDRep2
import Derived.Test.YtnnapbjaidbkgaaAlive
import Derived.Test.YtnnapbjaidbkgaaRepG
namespace Go.Proofs.Ytnnapbjaidbkgaa
open Go.RowKit
set_option linter.unusedVariables false

set_option maxRecDepth 100000 in
set_option maxHeartbeats 3200000 in
theorem fnSelectRepeat_walk {A : Option Addr} {n c : Nat} {bs : List Int} (w : World) (h : RV w w.heap.size A n (bs.map (Value.int .u8))) (wf : ∀ x ∈ bs, (Lit.int .u8 x).wf = true) (hl : n ≤ c) (hm : c ≤ maxLen) :
    Calls Try.prog 8 #[.slice A n c] w fun e w' => e = .returned (.bool true) ∧ Below w.heap.size w w' := by
  unfold maxLen at hm
  by_cases hn : n ≤ 1048576
  · have hd := drawSelectRepeat_any A n c w.heap.size bs w h (Nat.le_refl _) hl hn (fun x hx => bounds_u8 (wf x hx))
    clear wf h
    have hbel : Below w.heap.size w w := Below.refl _ _
    go_enter Try.func8, Try.ntmps8
    go_wp2_with fail
    refine (hd).mono ?_
    rintro e w1 ⟨nn, zz, A1, n1, c1, xs, rfl, ⟨nn0, nn1⟩, ⟨zz0, zz1⟩, hr1, hz1, hb⟩
    have hbel_ := Below.next hbel hb; clear hbel; have hbel := hbel_; clear hbel_
    clear hb
    clear hd
    have rX : RT w1 w1.heap.size A1 n1 xs := hr1
    clear hr1
    have LX := hid (RT.len rX)
    obtain ⟨V, HV⟩ : ∃ V, Hid (V = selRep nn zz xs) := ⟨_, hid rfl⟩
    have hVl : V.1.length ≤ 308 := by rw [HV.out]; exact selRep_len _ _ _
    have HI := hid (fun B => selRep_impl nn zz A1 n1 c1 B xs)
    have HS := hid (fun B => selRep_spec nn zz A1 n1 c1 B xs)
    rw [← HV.out] at HI HS
    have hne2 : (V.2 != V.2) = false := by simp
    go_wp2_with fail
    refine (HI.out _ _ rX (Nat.le_refl _) (by omega)).mono ?_
    rintro e w2 ⟨A3, n3, c3, rfl, ho, hb⟩
    have nV := OwnI.ri ho
    have hbel_ := Below.next hbel hb; clear hbel; have hbel := hbel_; clear hbel_
    have rX_ := RV.next rX hb; clear rX; have rX := rX_; clear rX_
    clear hb
    have rV := nV; clear nV
    clear ho
    have LV := hid (RI.len rV)
    have hn3 : n3 ≤ 308 := by have := LV.out; omega
    go_wp2_with fail
    refine (HS.out _ _ rX (Nat.le_refl _) (by omega)).mono ?_
    rintro e w3 ⟨A4, n4, c4, rfl, ho, hb⟩
    have nW := OwnI.ri ho
    have hbel_ := Below.next hbel hb; clear hbel; have hbel := hbel_; clear hbel_
    have rX_ := RV.next rX hb; clear rX; have rX := rX_; clear rX_
    have rV_ := RV.next rV hb; clear rV; have rV := rV_; clear rV_
    clear hb
    have rW := nW; clear nW
    clear ho
    go_wp2_with fail
    refine (sameInts_same _ _ _ _ _ _ _ _ _ _ rV rW (by omega)).mono ?_
    rintro e w4 ⟨rfl, hb⟩
    have hbel_ := Below.next hbel hb; clear hbel; have hbel := hbel_; clear hbel_
    have rX_ := RV.next rX hb; clear rX; have rX := rX_; clear rX_
    have rV_ := RV.next rV hb; clear rV; have rV := rV_; clear rV_
    have rW_ := RV.next rW hb; clear rW; have rW := rW_; clear rW_
    clear hb
    clear rW HI HS
    rcases selRep_cases xs nn zz with hc | ⟨v0, v1, v2, v3, s, hc, hsl, hmem, hlen, hlast⟩
    · rw [← HV.out] at hc
      subst hc
      have hn30 : n3 = 0 := by have := LV.out; simpa using this.symm
      subst hn30
      go_wp2_with fail
      refine (alive_any _).mono ?_
      rintro e w5 ⟨rfl, hb⟩
      have hbel_ := Below.next hbel hb; clear hbel; have hbel := hbel_; clear hbel_
      have rX_ := RV.next rX hb; clear rX; have rX := rX_; clear rX_
      have rV_ := RV.next rV hb; clear rV; have rV := rV_; clear rV_
      clear hb
      go_wp2
      go_ret
      exact ⟨rfl, hbel⟩
    · rw [← HV.out] at hc
      subst hc
      obtain ⟨N, rfl⟩ := Int.eq_ofNat_of_zero_le v0
      by_cases hN0 : N = 0
      · subst hN0
        have hs0 : s = [] := by
          cases s with
          | nil => rfl
          | cons x t => have := hmem x (List.mem_cons_self ..); omega
        subst hs0
        have hn30 : n3 = 0 := by have := LV.out; simpa using this.symm
        subst hn30
        clear hmem hlen hlast
        go_wp2_with fail
        refine (alive_any _).mono ?_
        rintro e w5 ⟨rfl, hb⟩
        have hbel_ := Below.next hbel hb; clear hbel; have hbel := hbel_; clear hbel_
        have rX_ := RV.next rX hb; clear rX; have rX := rX_; clear rX_
        have rV_ := RV.next rV hb; clear rV; have rV := rV_; clear rV_
        clear hb
        go_wp2
        go_ret
        exact ⟨rfl, hbel⟩
      · have hb0 : ((N : Int) == 0) = false := by simp; omega
        have HMEM := hid hmem; have HLEN := hid hlen; have HLAST := hid hlast
        have hmk := run_make_row' (P := Try.prog) 22 4 (.bool false) 1 Try.underlying22 infoBoolG rfl .i64 .i64 N (by omega) (by omega)
        have hls : Hid (s.length = n3) := hid LV.out
        obtain ⟨d0, hd0⟩ : ∃ d0 : Nat → Bool, d0 = fun _ => false := ⟨_, rfl⟩
        have hblk0 : Blk (w4.alloc (.cells (madeCells #[.bool false] N) 4)) w4.heap.size 4 ((List.range N).map fun j => Value.bool (d0 j)).toArray := by
          have := Blk.new w4 4 (madeCells #[.bool false] N)
          rw [repBool] at this ⊢
          rw [hd0]
          exact this
        have HB0 := hid (And.intro hblk0 ((Below.refl w4.heap.size w4).alloc (Nat.le_refl _) (.cells (madeCells #[.bool false] N) 4)))
        have HR := hid (And.intro rV (And.intro rX hbel))
        have HD0 := hid hd0
        clear hmem hlen hlast hd0 hblk0 rV rX hbel hVl
        go_wp2
        go_loopw [10, 12] (fun gv iv wr => ∃ (i G : Nat) (d : Nat → Bool), i ≤ n3 ∧ iv = .int .i64 i ∧ gv = .int .i64 G ∧ G ≤ i ∧ Hid (Blk wr w4.heap.size 4 ((List.range N).map fun j => Value.bool (d j)).toArray ∧ Below w4.heap.size w4 wr ∧ G = goneC xs i ∧ d = lastOk xs 0 (s.take i) (fun _ => false))) (fun _ iv _ => 400 - (intOf iv).toNat)
        case atStart => exact ⟨0, 0, d0, Nat.zero_le _, rfl, rfl, Nat.le_refl _, hid ⟨HB0.out.1, HB0.out.2, rfl, HD0.out⟩⟩
        case round =>
          obtain ⟨i, G, d, hi, rfl, rfl, hGi, HX⟩ := hrel
          by_cases hin : i < n3
          · obtain ⟨b, o, x, rfl, hbb, hx, hcx⟩ := RI.at_ (RV.below HR.out.1 HX.out.2.1) hin
            have hxb := HMEM.out x (List.mem_of_getElem? hx)
            obtain ⟨X, rfl⟩ := Int.eq_ofNat_of_zero_le hxb.1
            have hX0 : (0 : Int) ≤ (X : Int) := hxb.1
            have hX1 : (X : Int) < (N : Int) := hxb.2
            have hcell : wr.cell? ⟨w4.heap.size, X, none⟩ = some (.bool (d X)) := (HX.out.1.cell _).trans (rangeCell _ _ _ (by omega))
            have hfr := HX.out.1.frozen X
            have hi0 : (0 : Int) ≤ (i : Int) := by omega
            have H2 : ∀ u : Bool, lostB xs i = u → Hid (Blk (wr.setCell ⟨w4.heap.size, X, none⟩ (.bool (!u))) w4.heap.size 4 ((List.range N).map fun j => Value.bool (updB d X (!u) j)).toArray ∧ Below w4.heap.size w4 (wr.setCell ⟨w4.heap.size, X, none⟩ (.bool (!u))) ∧ updB d X (!u) = lastOk xs 0 (s.take (i + 1)) (fun _ => false)) := fun u hu => hid ⟨by rw [updArr]; exact HX.out.1.set_ X (.bool (!u)), HX.out.2.1.setCell (p := ⟨w4.heap.size, X, none⟩) (Nat.le_refl _) _, by
              rw [take_snoc _ _ _ hx, lastOk_snoc, Nat.zero_add, List.length_take, Nat.min_eq_left (by rw [hls.out]; omega), hu, ← HX.out.2.2.2]
              rfl⟩
            have HGi : Hid (G = goneC xs i) := hid HX.out.2.2.1
            by_cases hin1 : i < n1
            · obtain ⟨b2, o2, y, rfl, hb2, hy, hcy⟩ := RT.at_ (RV.below HR.out.2.1 HX.out.2.1) hin1
              have hly : lostB xs i = y := by rw [lostB, List.getD_eq_getElem?_getD, hy]; rfl
              have H3 := H2 y hly
              clear H2 hy hx hxb HX
              cases y
              · have HG2 : Hid (G = goneC xs (i + 1)) := hid (by rw [goneC, if_neg (by rw [hly]; exact Bool.false_ne_true), HGi.out]; omega)
                clear hly
                go_wp2
                go_roundw
                case rel => exact ⟨i + 1, G, updB d X true, by omega, by go_num, rfl, by omega, hid ⟨H3.out.1, H3.out.2.1, HG2.out, H3.out.2.2⟩⟩
                case measure => simp [intOf]; omega
              · have HG2 : Hid (G + 1 = goneC xs (i + 1)) := hid (by rw [goneC, if_pos hly, HGi.out])
                clear hly
                go_wp2
                go_roundw
                case rel => exact ⟨i + 1, G + 1, updB d X false, by omega, by go_num, by go_num, by omega, hid ⟨H3.out.1, H3.out.2.1, HG2.out, H3.out.2.2⟩⟩
                case measure => simp [intOf]; omega
            · have hly : lostB xs i = false := by rw [lostB, List.getD_eq_getElem?_getD, List.getElem?_eq_none (by rw [LX.out]; omega)]; rfl
              have H3 := H2 false hly
              have HG2 : Hid (G = goneC xs (i + 1)) := hid (by rw [goneC, if_neg (by rw [hly]; exact Bool.false_ne_true), HGi.out]; omega)
              clear H2 hx hxb HX hly
              go_wp2
              go_roundw
              case rel => exact ⟨i + 1, G, updB d X true, by omega, by go_num, rfl, by omega, hid ⟨H3.out.1, H3.out.2.1, HG2.out, H3.out.2.2⟩⟩
              case measure => simp [intOf]; omega
          · have hin' : i = n3 := by omega
            subst hin'
            have HD : Hid (∀ j : Nat, j < N → d j = true) := hid (fun j hj => by rw [HX.out.2.2.2, List.take_of_length_le (by rw [hls.out]; omega)]; exact HLAST.out j (by omega))
            have hqe : ((i : Int) == (N : Int) + (G : Int)) = true := by
              have h1 := HLEN.out
              rw [hls.out, ← HX.out.2.2.1] at h1
              simp; omega
            have hbelw := Below.next HR.out.2.2 HX.out.2.1
            have HBW := hid hbelw
            clear hbelw
            go_wp2
            obtain ⟨wo, rfl⟩ : ∃ wo : World, wo = wr := ⟨_, rfl⟩
            go_loop [14] (fun iv => ∃ j : Nat, j ≤ N ∧ iv = .int .i64 j) (fun iv => 400 - (intOf iv).toNat)
            case atStart => exact ⟨0, Nat.zero_le _, rfl⟩
            case round =>
              obtain ⟨j, hj, rfl⟩ := hrel
              by_cases hjN : j < N
              · have hcell : wo.cell? ⟨w4.heap.size, j, none⟩ = some (.bool true) := ((HX.out.1.cell _).trans (rangeCell _ _ _ hjN)).trans (by rw [HD.out j hjN])
                have hj0 : (0 : Int) ≤ (j : Int) := by omega
                go_wp2
                go_round
                case rel => exact ⟨j + 1, by omega, by go_num⟩
                case measure => simp [intOf]; omega
              · go_wp2
                go_ret
                exact ⟨rfl, HBW.out⟩
  · go_enter Try.func8, Try.ntmps8
    go_wp2
    go_ret
    exact ⟨rfl, Below.refl _ _⟩
end Go.Proofs.Ytnnapbjaidbkgaa
