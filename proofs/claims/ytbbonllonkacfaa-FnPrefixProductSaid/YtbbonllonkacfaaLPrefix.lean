/-
  FnPrefixProduct, walked: filtering a list with a prefix yields, behind the prefix, the cyclic convolution, modulo Modulus.
-/
import Derived.Test.YtbbonllonkacfaaDTra
import Derived.Test.YtbbonllonkacfaaAlive
import Derived.Test.YtbbonllonkacfaaTraD
import Derived.Test.YtbbonllonkacfaaLTra
import Derived.Test.YtbbonllonkacfaaTraE
namespace Go.Proofs.Ytbbonllonkacfaa
open Go.RowKit
set_option linter.unusedVariables false

theorem cyc_ok' {a b : List Int} (h : cyc a b ≠ []) : ptsOk a = true ∧ ptsOk b = true := by
  unfold cyc at h
  split at h
  · assumption
  · exact absurd rfl h
theorem cyc_len' (a b : List Int) : (cyc a b).length ≤ 16 := by unfold cyc; split <;> simp [conv]
theorem prefix3_ok {xs : List Int} (h : prefix3 xs ≠ []) : ptsOk xs = true := by
  unfold prefix3 at h
  split at h
  · assumption
  · exact absurd rfl h
theorem prefix3_len (xs : List Int) : (prefix3 xs).length ≤ 19 := by
  unfold prefix3
  split
  · rename_i h
    have := (ptsOk_iff.1 h).1
    simp; omega
  · simp
def taps4 (b : List Int) : List Int := stI (fun k => b.getD k 0) (List.replicate 16 0) 4
theorem taps4_len (b : List Int) : (taps4 b).length = 16 := by simp [taps4, stI]
theorem taps4_get (b : List Int) {k : Nat} (hk : k < 16) : (taps4 b).getD k 0 = if k < 4 then b.getD k 0 else 0 := by
  rw [List.getD_eq_getElem?_getD, taps4, stI, List.getElem?_map, List.length_replicate, List.getElem?_range hk]
  simp only [Option.map_some, Option.getD_some]
  split
  · rfl
  · rw [List.getD_eq_getElem?_getD, List.getElem?_replicate, if_pos hk]; rfl
theorem taps4_ok {b : List Int} (h : In257 b) : ptsOk (taps4 b) = true := by
  refine ptsOk_iff.2 ⟨taps4_len b, fun x hx => ?_⟩
  obtain ⟨k, hk, rfl⟩ := List.mem_iff_getElem.1 hx
  rw [taps4_len] at hk
  have h1 := taps4_get b hk
  rw [List.getD_eq_getElem?_getD, List.getElem?_eq_getElem (by rw [taps4_len]; exact hk), Option.getD_some] at h1
  rw [h1]
  split
  · exact in257_getD h k
  · omega
/-- The linear filter behind the prefix. -/
def fpart (a b : List Int) (k : Nat) : Nat → Int := fun j => Sm j fun j => (taps4 b).getD j 0 * (prefix3 a).getD (3 + k - j) 0
theorem prefix3_get {a : List Int} (h : ptsOk a = true) {k j : Nat} (hk : k < 16) (hj : j < 4) : (prefix3 a).getD (3 + k - j) 0 = a.getD ((k + 16 - j) % 16) 0 := by
  have hl := (ptsOk_iff.1 h).1
  rw [prefix3, if_pos h, List.getD_eq_getElem?_getD, List.getD_eq_getElem?_getD, List.getElem?_append]
  simp only [List.length_drop, hl]
  split
  · rename_i hc
    rw [List.getElem?_drop]; congr 2; omega
  · rename_i hc
    congr 2; omega
theorem fpart_conv {a b : List Int} (h : ptsOk a = true) (hb : In257 b) {k : Nat} (hk : k < 16) : fpart a b k 4 % 257 = convk a (taps4 b) k := by
  have h1 : conv a (taps4 b) = conv (taps4 b) a := conv_comm h (taps4_ok hb)
  have h2 : convk a (taps4 b) k = convk (taps4 b) a k := by
    have := conv_getD a (taps4 b) hk
    rw [h1, conv_getD _ _ hk] at this
    exact this.symm
  rw [h2, convk]
  have e : Sm 16 (fun j => (taps4 b).getD j 0 * a.getD ((k + 16 - j) % 16) 0) = Sm 4 (fun j => (taps4 b).getD j 0 * a.getD ((k + 16 - j) % 16) 0) := by
    have z : ∀ j, 4 ≤ j → j < 16 → (taps4 b).getD j 0 * a.getD ((k + 16 - j) % 16) 0 = 0 := fun j h4 h16 => by
      rw [taps4_get b h16, if_neg (by omega), Int.zero_mul]
    have g : ∀ m, m ≤ 12 → Sm (4 + m) (fun j => (taps4 b).getD j 0 * a.getD ((k + 16 - j) % 16) 0) = Sm 4 (fun j => (taps4 b).getD j 0 * a.getD ((k + 16 - j) % 16) 0) := by
      intro m
      induction m with
      | zero => intro _; rfl
      | succ m ih =>
        intro hm
        rw [show 4 + (m + 1) = (4 + m) + 1 by omega, Sm, ih (by omega), z (4 + m) (by omega) (by omega), Int.add_zero]
    exact g 12 (by omega)
  rw [e, fpart]
  congr 1
  apply Sm_congr
  intro j hj
  rw [prefix3_get h hk hj]

set_option maxHeartbeats 1600000 in
theorem fnPrefixProduct_walk {A : Option Addr} {n c : Nat} {bs : List Int} (w : World) (h : RV w w.heap.size A n (bs.map (Value.int .u8))) (wf : ∀ x ∈ bs, (Lit.int .u8 x).wf = true) (hl : n ≤ c) (hm : c ≤ maxLen) :
    Calls Try.prog 6 #[.slice A n c] w fun e w' => e = .returned (.bool true) ∧ Below w.heap.size w w' := by
  unfold maxLen at hm
  by_cases hn : n ≤ 1048576
  · have hd := drawCyclicProduct_cap A n c w.heap.size bs w h (Nat.le_refl _) hl hn (fun x hx => bounds_u8 (wf x hx))
    clear wf h
    have hbel : Below w.heap.size w w := Below.refl _ _
    go_enter Try.func6, Try.ntmps6
    go_wp2_with fail
    refine (hd).mono ?_
    rintro e w1 ⟨A1, n1, c1, A2, n2, c2, xs, ys, rfl, hr1, hr2, hz1, hz2, hcp, hb⟩
    have nX := hr1
    have nY := hr2
    have hbel_ := Below.next hbel hb; clear hbel; have hbel := hbel_; clear hbel_
    clear hb
    have rX := nX; clear nX
    have rY := nY; clear nY
    clear hd hr1 hr2
    have LX := hid (RI.len rX)
    have LY := hid (RI.len rY)
    have HCP := hid hcp
    clear hcp
    obtain ⟨V, HV⟩ : ∃ V, Hid (V = prefix3 xs) := ⟨_, hid rfl⟩
    have hVl : V.length ≤ 19 := by rw [HV.out]; exact prefix3_len _
    go_wp2_with fail
    refine (addPrefix_three _ _ _ _ _ _ rX (Nat.le_refl _) (by omega) HCP.out.1 HCP.out.2).mono ?_
    rintro e w2 ⟨A3, n3, c3, rfl, ho, hb⟩
    have nV := OwnI.ri (by rw [← HV.out] at ho; exact ho)
    have hbel_ := Below.next hbel hb; clear hbel; have hbel := hbel_; clear hbel_
    have rX_ := RV.next rX hb; clear rX; have rX := rX_; clear rX_
    have rY_ := RV.next rY hb; clear rY; have rY := rY_; clear rY_
    clear hb
    have rV := nV; clear nV
    clear ho
    have LV := hid (RI.len rV)
    have hn3 : n3 ≤ 19 := by have := LV.out; omega
    rcases Nat.eq_zero_or_pos n3 with hz | hpos
    · subst hz
      go_wp2_with fail
      refine (alive_any _).mono ?_
      rintro e w3 ⟨rfl, hb⟩
      have hbel_ := Below.next hbel hb; clear hbel; have hbel := hbel_; clear hbel_
      have rX_ := RV.next rX hb; clear rX; have rX := rX_; clear rX_
      have rY_ := RV.next rY hb; clear rY; have rY := rY_; clear rY_
      have rV_ := RV.next rV hb; clear rV; have rV := rV_; clear rV_
      clear hb
      go_wp2
      go_ret
      exact ⟨rfl, hbel⟩
    · have hb0 : ((n3 : Int) == 0) = false := by simp; omega
      have ok1 := prefix3_ok (ne_nil HV.out LV.out hpos)
      obtain ⟨U, HU⟩ : ∃ U, Hid (U = cyc xs ys) := ⟨_, hid rfl⟩
      have hUl : U.length ≤ 16 := by rw [HU.out]; exact cyc_len' _ _
      have HOK := hid ok1
      clear ok1
      go_wp2_with fail
      refine (cyclic_impl _ _ _ _ _ _ _ _ _ _ rX rY (Nat.le_refl _) (by omega) (by omega)).mono ?_
      rintro e w3 ⟨A4, n4, c4, rfl, ho, hb⟩
      have nU := OwnI.ri (by rw [← HU.out] at ho; exact ho)
      have hbel_ := Below.next hbel hb; clear hbel; have hbel := hbel_; clear hbel_
      have rX_ := RV.next rX hb; clear rX; have rX := rX_; clear rX_
      have rY_ := RV.next rY hb; clear rY; have rY := rY_; clear rY_
      have rV_ := RV.next rV hb; clear rV; have rV := rV_; clear rV_
      clear hb
      have rU := nU; clear nU
      clear ho
      have LU := hid (RI.len rU)
      have hn4 : n4 ≤ 16 := by have := LU.out; omega
      rcases Nat.eq_zero_or_pos n4 with hz | hpos4
      · subst hz
        go_wp2_with fail
        refine (alive_any _).mono ?_
        rintro e w4 ⟨rfl, hb⟩
        have hbel_ := Below.next hbel hb; clear hbel; have hbel := hbel_; clear hbel_
        have rX_ := RV.next rX hb; clear rX; have rX := rX_; clear rX_
        have rY_ := RV.next rY hb; clear rY; have rY := rY_; clear rY_
        have rV_ := RV.next rV hb; clear rV; have rV := rV_; clear rV_
        have rU_ := RV.next rU hb; clear rU; have rU := rU_; clear rU_
        clear hb
        go_wp2
        go_ret
        exact ⟨rfl, hbel⟩
      · have hb4 : ((n4 : Int) == 0) = false := by simp; omega
        obtain ⟨ok1, ok2⟩ := cyc_ok' (ne_nil HU.out LU.out hpos4)
        have hn1 : n1 = 16 := by rw [← LX.out]; exact (ptsOk_iff.1 ok1).1
        have hn2 : n2 = 16 := by rw [← LY.out]; exact (ptsOk_iff.1 ok2).1
        have HX := hid (ptsOk_iff.1 ok1).2
        have HY := hid (ptsOk_iff.1 ok2).2
        have hn3' : n3 = 19 := by rw [← LV.out, HV.out, prefix3, if_pos ok1]; simp [(ptsOk_iff.1 ok1).1]
        subst hn1 hn2 hn3'
        have HVI : Hid (In257 V) := hid (by
          rw [HV.out, prefix3, if_pos ok1]
          intro y hy
          rcases List.mem_append.1 hy with hy | hy
          · exact HX.out y (List.mem_of_mem_drop hy)
          · exact HX.out y hy)
        have HTI : Hid (In257 (taps4 ys)) := hid (ptsOk_iff.1 (taps4_ok HY.out)).2
        have HCV : Hid (cyc xs (taps4 ys) = conv xs (taps4 ys)) := hid (by rw [cyc, if_pos ⟨ok1, taps4_ok HY.out⟩])
        have HFP : Hid (∀ k, k < 16 → fpart xs ys k 4 % 257 = convk xs (taps4 ys) k) := hid (fun k hk => fpart_conv ok1 HY.out hk)
        have hmk := run_make_row' (P := Try.prog) 23 3 (.int .i64 0) 8 Try.underlying23 infoI rfl .i64 .i64 16 (by omega) (by omega)
        have hmk' : ∀ w, (Instr.makeSlice 23 (.int .i64 16) (.int .i64 16)).run Try.prog w = .ok (.slice (some ⟨w.heap.size, 0, none⟩) 16 16) (w.alloc (.cells (madeCells #[.int .i64 0] 16) 3)) := hmk
        clear ok1 ok2 rU hmk LU HU hUl
        go_wp2
        clear hmk'
        go_loopw [7] (fun iv wr => ∃ (j : Nat), j ≤ 4 ∧ iv = .int .i64 j ∧ Blk wr w3.heap.size 3 ((stI (fun k => ys.getD k 0) (List.replicate 16 0) j).map (Value.int .i64)).toArray ∧ Below w3.heap.size w3 wr) (fun iv _ => 4 - (intOf iv).toNat)
        case atStart => exact ⟨0, Nat.zero_le _, rfl, by rw [stI_zero]; exact blk_made _ _ _ (0 : Int) rfl, (Below.refl _ _).alloc (Nat.le_refl _) _⟩
        case round =>
          obtain ⟨j, hj, rfl, hblk, hbr⟩ := hrel
          by_cases hlj : j < 4
          · obtain ⟨p2, q2, y, rfl, hp2, hy, hcy⟩ := RI.at_ (RV.below rY hbr) (show j < 16 by omega)
            obtain ⟨z, _, hcz⟩ := hblk.cellL (k := j) (by rw [stI_len]; simp; omega)
            have hfr := hblk.frozen j
            have hst := stI_succ (fun k => ys.getD k 0) (List.replicate 16 0) j
            rw [show ys.getD j 0 = y by rw [List.getD_eq_getElem?_getD, hy]; rfl] at hst
            have hblk2 := hblk.setL j y
            rw [hst] at hblk2
            have H2 := hid (And.intro hblk2 (hbr.setCell (p := ⟨w3.heap.size, j, none⟩) (Nat.le_refl _) (.int .i64 y)))
            have hj1 : (j : Int) < 16 := by omega
            have hj0 : (0 : Int) ≤ (j : Int) := by omega
            clear hy hst hblk hblk2 hbr
            go_wp2
            go_roundw
            case rel => exact ⟨j + 1, by omega, by go_num, H2.out.1, H2.out.2⟩
            case measure => simp [intOf]; omega
          · have e : j = 4 := by omega
            subst e
            clear hlj
            have rT : RI wr wr.heap.size (some ⟨w3.heap.size, 0, none⟩) 16 (taps4 ys) := OwnI.ri (ownV_blk hblk (Nat.zero_le _) hblk.lt (by rw [List.length_map]; exact taps4_len ys) (by unfold maxLen; omega))
            have rX2 := RV.next rX hbr
            have rV2 := RV.next rV hbr
            have hbo := Below.next hbel hbr
            clear hblk hbr rX rV hbel rY
            have hbel := hbo; clear hbo
            have rX := rX2; clear rX2
            have rV := rV2; clear rV2
            go_wp2_with fail
            refine (cyclic_impl _ _ _ _ _ _ _ _ _ _ rX rT (Nat.le_refl _) (by omega) (by omega)).mono ?_
            rintro e w4 ⟨A5, n5, c5, rfl, ho, hb⟩
            have nW := OwnI.ri (by rw [HCV.out] at ho; exact ho)
            have hbel_ := Below.next hbel hb; clear hbel; have hbel := hbel_; clear hbel_
            have rX_ := RV.next rX hb; clear rX; have rX := rX_; clear rX_
            have rV_ := RV.next rV hb; clear rV; have rV := rV_; clear rV_
            have rT_ := RV.next rT hb; clear rT; have rT := rT_; clear rT_
            clear hb
            have rW := nW; clear nW
            clear ho
            have hn5 : n5 = 16 := by rw [← RI.len rW, conv_len]
            subst hn5
            go_wp2
            go_loopw [9] (fun iv wr => ∃ (k m : Nat), k ≤ 16 ∧ iv = .int .i64 k ∧ wr = w4.drewN m) (fun iv _ => 16 - (intOf iv).toNat)
            case atStart => exact ⟨0, 0, Nat.zero_le _, rfl, rfl⟩
            case round =>
              obtain ⟨k, m, hk, rfl, rfl⟩ := hrel
              by_cases hlk : k < 16
              · obtain ⟨pw_, qw, wv, rfl, hpw, hwv, hcw⟩ := RI.at_ (w := w4) rW hlk
                rw [conv_get _ _ hlk] at hwv
                injection hwv with hwv
                have HWV : Hid (fpart xs ys k 4 % 257 = wv) := hid (by rw [HFP.out k hlk]; exact hwv)
                clear hwv
                have hkd : decide ((k : Int) < 16) = true := by simp; omega
                go_wp2
                go_loopw [10, 11] (fun nv jv wr => ∃ (j m : Nat) (N : Int), j ≤ 4 ∧ jv = .int .i64 j ∧ nv = .int .i64 N ∧ 0 ≤ N ∧ N ≤ 65536 * j ∧ Hid (N = fpart xs ys k j) ∧ wr = w4.drewN m) (fun _ jv _ => 4 - (intOf jv).toNat)
                case atStart => exact ⟨0, m, 0, Nat.zero_le _, rfl, rfl, by omega, by omega, hid rfl, rfl⟩
                case round =>
                  obtain ⟨j, m', N, hj, rfl, rfl, N0, N1, HN, rfl⟩ := hrel
                  by_cases hlj : j < 4
                  · obtain ⟨I, hI⟩ : ∃ I, I = 3 + k - j := ⟨_, rfl⟩
                    have hI19 : I < 19 := by omega
                    obtain ⟨pt, qt, t, het, hpt, ht, hct⟩ := RI.at_ (w := w4) rT (show j < 16 by omega)
                    injection het with het
                    injection het with e1 e2
                    subst e1 e2
                    obtain ⟨pv, qv, v, rfl, hpv, hv, hcv⟩ := RI.at_ (w := w4) rV hI19
                    obtain ⟨t0, t1⟩ := in257_get HTI.out ht
                    obtain ⟨v0, v1⟩ := in257_get HVI.out hv
                    obtain ⟨m0, m1⟩ := mul_bd257 t0 t1 v0 v1
                    have HN' : Hid (N + t * v = fpart xs ys k (j + 1)) := hid (by
                      show N + t * v = fpart xs ys k j + (taps4 ys).getD j 0 * (prefix3 xs).getD (3 + k - j) 0
                      rw [show (taps4 ys).getD j 0 = t by rw [List.getD_eq_getElem?_getD, ht]; rfl, ← hI, ← HV.out, show V.getD I 0 = v by rw [List.getD_eq_getElem?_getD, hv]; rfl, HN.out])
                    have hw1 : IntKind.i64.wrap (3 + (k : Int)) = 3 + (k : Int) := IntWalk.i64_in _ (by omega)
                    have hw2 : IntKind.i64.wrap (3 + (k : Int) - (j : Int)) = (I : Int) := by rw [IntWalk.i64_in _ (by omega)]; omega
                    have hw3 : IntKind.i64.wrap (t * v) = t * v := IntWalk.i64_in _ (by omega)
                    have hw4 : IntKind.i64.wrap (N + t * v) = N + t * v := IntWalk.i64_in _ (by omega)
                    have hj0 : (0 : Int) ≤ (j : Int) := by omega
                    have hj1 : (j : Int) < 16 := by omega
                    have hi0' : (0 : Int) ≤ (I : Int) := by omega
                    have hi1' : (I : Int) < 19 := by omega
                    have hct' : w4.cell? ⟨w3.heap.size, j, none⟩ = some (.int .i64 t) := by simpa using hct
                    clear ht hv hI hct
                    go_wp2
                    go_quiet (fail)
                    go_wp2
                    go_roundw
                    case rel => exact ⟨j + 1, _, N + t * v, by omega, by go_num, rfl, by omega, by omega, HN', rfl⟩
                    case measure => simp [intOf]; omega
                  · have e : j = 4 := by omega
                    subst e
                    clear hlj
                    have hNw : N % 257 = wv := by rw [HN.out]; exact HWV.out
                    have hyy : (wv != wv) = false := by simp
                    have hk0 : (0 : Int) ≤ (k : Int) := by omega
                    have hk1 : (k : Int) < 16 := by omega
                    go_wp2
                    go_roundw
                    case rel => exact ⟨k + 1, _, by omega, by go_num, rfl⟩
                    case measure => simp [intOf]; omega
              · have hbm : Below w.heap.size w (w4.drewN m) := hbel.trans ((Same.drewN _ _).bel _)
                go_wp2_with fail
                refine (cyclic_spec _ _ _ _ _ _ _ _ _ (w4.drewN m) (rX : RI (w4.drewN m) _ _ _ _) (rT : RI (w4.drewN m) _ _ _ _) (Nat.le_refl _) (by omega) (by omega)).mono ?_
                rintro e w8 ⟨A8, n8, c8, rfl, ho, hb8⟩
                rw [HCV.out] at ho
                have r8 := OwnI.ri ho
                have rW8 : RI w8 w8.heap.size _ _ _ := RV.next (w := w4.drewN m) rW hb8
                have hbm8 := Below.next hbm hb8
                clear ho
                go_wp2_with fail
                refine (sameInts_same _ _ _ _ _ _ _ _ _ _ rW8 r8 (by rw [conv_len]; omega)).mono ?_
                rintro e w9 ⟨rfl, hb9⟩
                have hbm9 := Below.next hbm8 hb9
                clear hb9
                go_wp2
                go_ret
                exact ⟨rfl, hbm9⟩
  · go_enter Try.func6, Try.ntmps6
    go_wp2
    go_ret
    exact ⟨rfl, Below.refl _ _⟩
end Go.Proofs.Ytbbonllonkacfaa
