/-
  The transforms and the cyclic product, the reference's, walked.
-/
import Derived.Test.YtbbonllonkacfaaTraC
namespace Go.Proofs.Ytbbonllonkacfaa
open Go.RowKit
set_option linter.unusedVariables false

theorem Fk_root (xs : List Int) (w : Int) (k : Nat) : ev xs (pw w k) % 257 = Fk xs w k := ev_cg (pw_cg w k) xs
theorem dft_snoc (xs : List Int) (w : Int) (k : Nat) : (List.range (k + 1)).map (Fk xs w) = (List.range k).map (Fk xs w) ++ [Fk xs w k] := by
  rw [List.range_succ, List.map_append]; rfl
set_option maxHeartbeats 1600000 in
theorem l11Sum_spec (A : Option Addr) (c B : Nat) (xs : List Int) (r : Int) (w : World) (h : RI w B A 16 xs) (hB : B ≤ w.heap.size) (hx : In257 xs) (r0 : 0 ≤ r) (r1 : r < 257) :
    Calls Try.prog 27 #[.slice A 16 c, .int .i64 r] w fun e w' => RetI 3 w e w' (dft xs r) := by
  have HL := hid (RI.len h)
  have HX := hid hx
  obtain ⟨i0, hi0, hz0, hz1, hz2⟩ := info_parts infoI
  clear hx
  go_enter Try.func27, Try.ntmps27
  go_wp2
  go_loopw [5, 6] (fun v kv wr => ∃ (k cc : Nat) (AA : Option Addr), k ≤ 16 ∧ kv = .int .i64 k ∧ v = .slice AA k cc ∧ wr.ownsRow w.heap.size 3 1 (.slice AA k cc) k (((List.range k).map (Fk xs r)).map (Value.int .i64)) ∧ Below w.heap.size w wr)
    (fun _ kv _ => 16 - (intOf kv).toNat)
  case atStart => exact ⟨0, 0, _, Nat.zero_le _, rfl, rfl, own_lit0 _ (Nat.le_refl _), (Below.refl _ _).alloc (Nat.le_refl _) _⟩
  case round =>
    obtain ⟨k, cc, AA, hk, rfl, rfl, hown, hbel⟩ := hrel
    have hsz := hbel.size
    by_cases hlt : k < 16
    · obtain ⟨W, HW⟩ : ∃ W, Hid (W = pw r k) := ⟨_, hid rfl⟩
      have hp := l11Power_spec r k wr r0 r1 (by omega)
      rw [← HW.out] at hp
      have hwb := pw_bd r k
      rw [← HW.out] at hwb
      obtain ⟨W0, W1⟩ := hwb
      have HO := hid hown
      clear hown
      go_wp2_with fail
      refine hp.mono ?_
      rintro e w1 ⟨rfl, rfl⟩
      clear hp
      go_wp2
      go_loop [7, 9, 10] (fun nv pv jv => ∃ (j : Nat) (N P : Int), j ≤ 16 ∧ jv = .int .i64 j ∧ nv = .int .i64 N ∧ pv = .int .i64 P ∧ 0 ≤ N ∧ N < 257 ∧ 0 ≤ P ∧ P < 257 ∧ Hid (Cg N (Sm j fun i => xs.getD i 0 * W ^ i)) ∧ Hid (Cg P (W ^ j))) (fun _ _ jv => 16 - (intOf jv).toNat)
      case atStart => exact ⟨0, 0, 1, Nat.zero_le _, rfl, rfl, rfl, by omega, by omega, by omega, by omega, hid (Cg.rfl' _), hid (by rw [Int.pow_zero]; exact Cg.rfl' _)⟩
      case round =>
        obtain ⟨j, N, P, hj, rfl, rfl, rfl, N0, N1, P0, P1, HN, HP⟩ := hrel
        by_cases hlj : j < 16
        · obtain ⟨pb, po, x, rfl, hpb, hxx, hcx⟩ := RI.at_ (RV.below h (hbel.mono hB)) hlj
          obtain ⟨x0, x1⟩ := in257_get HX.out hxx
          obtain ⟨m0, m1⟩ := mul_bd257 x0 x1 P0 P1
          obtain ⟨m2, m3⟩ := mul_bd257 P0 P1 W0 W1
          have HN' : Hid (Cg ((N + x * P) % 257) (Sm (j + 1) fun i => xs.getD i 0 * W ^ i)) := hid ((Cg.mod _).trans (HN.out.add (by
            show Cg (x * P) (xs.getD j 0 * W ^ j)
            rw [show xs.getD j 0 = x by rw [List.getD_eq_getElem?_getD, hxx]; rfl]
            exact (Cg.rfl' x).mul HP.out)))
          have HP' : Hid (Cg (P * W % 257) (W ^ (j + 1))) := hid ((Cg.mod _).trans (by rw [Int.pow_succ]; exact HP.out.mul (Cg.rfl' W)))
          clear hxx
          go_wp2
          go_round
          case rel => exact ⟨j + 1, (N + x * P) % 257, P * W % 257, by omega, by go_num, rfl, rfl, Int.emod_nonneg _ (by omega), Int.emod_lt_of_pos _ (by omega), Int.emod_nonneg _ (by omega), Int.emod_lt_of_pos _ (by omega), HN', HP'⟩
          case measure => simp [intOf]; omega
        · have e : j = 16 := by omega
          subst e
          clear hlj
          have hN : N = Fk xs r k := by
            rw [← Fk_root, ← HW.out, ev_sm, HL.out]
            exact HN.out.eq N0 N1
          have HNN := hid hN
          clear hN
          go_wp2_with (at_builtin; refine wpList_push rfl _ _ _ rfl w.heap.size 3 i0 _ 8 Try.underlying23 hi0 hz0 hz1 hz2 rfl (by omega) _ _ AA k cc _ rfl HO.out rfl rfl (by omega) (by omega) ?_; intro g' cap w6 hown6 hgrow6 hlies6 hlt6)
          have hb6 := below_push hbel HO.out (Nat.le_refl _) (by omega) hgrow6
          go_roundw
          case rel => exact ⟨k + 1, cap, _, by omega, by go_num, rfl, by rw [dft_snoc, List.map_append, ← HNN.out]; exact hown6, hb6⟩
          case measure => simp [intOf]; omega
    · have e : k = 16 := by omega
      subst e
      clear hlt
      have HO := hid (And.intro hown hbel)
      clear hown hbel
      go_wp2
      go_ret
      exact retI_of HO.out.1 HO.out.2

section
variable (A : Option Addr) (n c B : Nat) (xs : List Int) (w : World) (h : RI w B A n xs) (hn : n ≤ 1000000000)
include h hn
theorem spoints_no (hv : ptsOk xs = false) : Calls Try.prog 26 #[.slice A n c] w fun e w' => e = .returned (.bool false) ∧ w = w' := by
  have := points_spec A n c B xs w h hn; rwa [hv] at this
theorem spoints_yes (hv : ptsOk xs = true) : Calls Try.prog 26 #[.slice A n c] w fun e w' => e = .returned (.bool true) ∧ w = w' := by
  have := points_spec A n c B xs w h hn; rwa [hv] at this
set_option maxHeartbeats 1600000 in
theorem forward_spec (hB : B ≤ w.heap.size) : Calls Try.prog 12 #[.slice A n c] w fun e w' => RetI 3 w e w' (forward xs) := by
  cases hv : ptsOk xs
  · have hp := spoints_no A n c B xs w h hn hv
    have HV := hid hv
    clear hv
    go_enter Try.func12, Try.ntmps12
    go_wp2_with fail
    refine hp.mono ?_
    rintro e w1 ⟨rfl, rfl⟩
    go_wp2
    go_ret
    rw [forward, if_neg (by rw [HV.out]; exact Bool.false_ne_true)]
    exact retI_lit0 _ _
  · have hp := spoints_yes A n c B xs w h hn hv
    obtain ⟨hl, hx⟩ := ptsOk_iff.1 hv
    have hn16 : n = 16 := by rw [← RI.len h]; exact hl
    subst hn16
    have hs := l11Sum_spec A c B xs 2 w h hB hx (by omega) (by omega)
    have HS := hid hs; have HV := hid hv
    clear hs hv hl hx h hn
    go_enter Try.func12, Try.ntmps12
    go_wp2_with fail
    refine hp.mono ?_
    rintro e w1 ⟨rfl, rfl⟩
    go_wp2_with fail
    refine (root_spec _).mono ?_
    rintro e w1 ⟨rfl, rfl⟩
    go_wp2_with fail
    refine HS.out.mono ?_
    rintro e w1 ⟨A1, n1, c1, rfl, o1, hb1⟩
    have H1 := hid (And.intro o1 hb1)
    clear o1 hb1
    go_wp2
    go_ret
    rw [forward, if_pos HV.out]
    exact ⟨A1, n1, c1, rfl, H1.out.1, H1.out.2⟩
set_option maxHeartbeats 1600000 in
theorem backward_spec (hB : B ≤ w.heap.size) : Calls Try.prog 20 #[.slice A n c] w fun e w' => RetI 3 w e w' (backward xs) := by
  cases hv : ptsOk xs
  · have hp := spoints_no A n c B xs w h hn hv
    have HV := hid hv
    clear hv
    go_enter Try.func20, Try.ntmps20
    go_wp2_with fail
    refine hp.mono ?_
    rintro e w1 ⟨rfl, rfl⟩
    go_wp2
    go_ret
    rw [backward, if_neg (by rw [HV.out]; exact Bool.false_ne_true)]
    exact retI_lit0 _ _
  · have hp := spoints_yes A n c B xs w h hn hv
    obtain ⟨hl, hx⟩ := ptsOk_iff.1 hv
    have hn16 : n = 16 := by rw [← RI.len h]; exact hl
    subst hn16
    have hb := l11Sum_spec A c B xs 129 w h hB hx (by omega) (by omega)
    have hq := fun w => l11Power_spec 2 15 w (by omega) (by omega) (by omega)
    rw [show pw 2 15 = 129 by decide] at hq
    have hs := fun w => l11Power_spec 16 255 w (by omega) (by omega) (by omega)
    rw [show pw 16 255 = 241 by decide +kernel] at hs
    have HB := hid hb
    have hval : backward xs = (dft xs 129).map scale := by rw [backward, if_pos hv]
    have HVAL := hid hval
    obtain ⟨V, hV⟩ : ∃ V, V = dft xs 129 := ⟨_, rfl⟩
    rw [← hV] at HB HVAL
    have HL : Hid (V.length = 16) := hid (by rw [hV]; exact dft_len _ _)
    have HI : Hid (In257 V) := hid (by rw [hV]; exact dft_in _ _)
    clear hv hb hl hx h hn hV hval
    go_enter Try.func20, Try.ntmps20
    go_wp2_with fail
    refine hp.mono ?_
    rintro e w1 ⟨rfl, rfl⟩
    go_wp2_with fail
    refine (root_spec _).mono ?_
    rintro e w1 ⟨rfl, rfl⟩
    go_wp2_with fail
    refine (hq _).mono ?_
    rintro e w1 ⟨rfl, rfl⟩
    go_wp2_with fail
    refine HB.out.mono ?_
    rintro e w1 ⟨A1, n1, c1, rfl, o1, hb1⟩
    have hn1 : n1 = 16 := by rw [← OwnI.len o1, HL.out]
    subst hn1
    have H1 := hid (And.intro o1 hb1)
    clear o1 hb1 hp
    go_wp2_with fail
    refine (hs _).mono ?_
    rintro e w2 ⟨rfl, rfl⟩
    clear hs hq
    go_wp2
    go_loopw [6] (fun iv wr => ∃ (j : Nat), j ≤ 16 ∧ iv = .int .i64 j ∧ OwnI wr 3 w.heap.size w1.heap.size A1 16 c1 (stI (fun k => scale (V.getD k 0)) V j) ∧ Below w.heap.size w wr ∧ Hid (wr.heap.size = w1.heap.size)) (fun iv _ => 16 - (intOf iv).toNat)
    case atStart => exact ⟨0, Nat.zero_le _, rfl, by rw [stI_zero]; exact H1.out.1, H1.out.2, hid rfl⟩
    case round =>
      obtain ⟨j, hj, rfl, hown, hbr, HZ⟩ := hrel
      by_cases hlt : j < 16
      · have hxj : V[j]? = some (V.getD j 0) := by rw [List.getD_eq_getElem?_getD, List.getElem?_eq_getElem (by rw [HL.out]; exact hlt)]; rfl
        obtain ⟨x, hx⟩ : ∃ x, x = V.getD j 0 := ⟨_, rfl⟩
        have hxb := in257_getD HI.out j
        obtain ⟨g, y, rfl, g1, g2, g3, hy, hcy, hfr, hown2⟩ := OwnI.stored hown hlt (scale x)
        have hyx := stI_get hxj hy
        rw [← hx] at hyx hxb
        subst hyx
        obtain ⟨x0, x1⟩ := hxb
        have hst := stI_succ (fun k => scale (V.getD k 0)) V j
        have hst2 : (stI (fun k => scale (V.getD k 0)) V j).set j (scale y) = stI (fun k => scale (V.getD k 0)) V (j + 1) := by rw [← hst, hx]
        rw [hst2] at hown2
        have H2 := hid (And.intro hown2 (hbr.setCell (p := ⟨g, j, none⟩) g1 (.int .i64 (scale y))))
        have hsc : scale y = y * 241 % 257 := rfl
        rw [hsc] at H2
        clear hxj hx hy hst hst2 hown hown2 hbr hsc
        go_wp2
        go_roundw
        case rel => exact ⟨j + 1, by omega, by go_num, H2.out.1, H2.out.2, hid (by have := HZ.out; simpa [World.setCell] using this)⟩
        case measure => simp [intOf]; omega
      · have e : j = 16 := by omega
        subst e
        clear hlt
        rw [stI_all _ _ 16 HL.out, map_range HL.out] at hown
        have H2 := hid (And.intro hown hbr)
        clear hown hbr
        go_wp2
        go_ret
        exact ⟨A1, 16, c1, rfl, by rw [HVAL.out]; exact OwnV.more H2.out.1 (Nat.le_refl _) (by rw [HZ.out]; exact Nat.le_refl _), H2.out.2⟩
end
/-- A part of the sum of a convolution, reckoned term by term. -/
def cpart (a b : List Int) (k j : Nat) : Int := Sm j (fun j => a.getD j 0 * b.getD ((k + 16 - j) % 16) 0) % 257
theorem cpart_succ (a b : List Int) (k j : Nat) : (cpart a b k j + a.getD j 0 * b.getD ((k + 16 - j) % 16) 0) % 257 = cpart a b k (j + 1) := by
  unfold cpart
  rw [Sm, Int.add_emod, Int.emod_emod_of_dvd _ (Int.dvd_refl _), ← Int.add_emod]
theorem cpart_bd (a b : List Int) (k j : Nat) : 0 ≤ cpart a b k j ∧ cpart a b k j < 257 := ⟨Int.emod_nonneg _ (by omega), Int.emod_lt_of_pos _ (by omega)⟩
theorem conv_snoc (a b : List Int) (k : Nat) : (List.range (k + 1)).map (convk a b) = (List.range k).map (convk a b) ++ [convk a b k] := by
  rw [List.range_succ, List.map_append]; rfl
set_option maxHeartbeats 1600000 in
theorem cyclic_spec (A A' : Option Addr) (n n' c c' B : Nat) (a b : List Int) (w : World) (h : RI w B A n a) (h' : RI w B A' n' b) (hB : B ≤ w.heap.size) (hn : n ≤ 1000000000) (hn' : n' ≤ 1000000000) :
    Calls Try.prog 16 #[.slice A n c, .slice A' n' c'] w fun e w' => RetI 3 w e w' (cyc a b) := by
  obtain ⟨i0, hi0, hz0, hz1, hz2⟩ := info_parts infoI
  have HB0 : Hid (Below w.heap.size w (w.alloc (.cells #[] 3))) := hid ((Below.refl _ _).alloc (Nat.le_refl _) _)
  have h1 : RI (w.alloc (.cells #[] 3)) B A n a := RV.alloc h hB _
  have h2 : RI (w.alloc (.cells #[] 3)) B A' n' b := RV.alloc h' hB _
  cases hv : ptsOk a
  · have hp := spoints_no A n c B a _ h1 hn hv
    have HV := hid hv
    clear hv
    go_enter Try.func16, Try.ntmps16
    go_wp2_with fail
    refine hp.mono ?_
    rintro e w1 ⟨rfl, rfl⟩
    go_wp2
    go_ret
    rw [cyc, if_neg (fun hh => by rw [HV.out] at hh; exact Bool.false_ne_true hh.1)]
    exact retI_lit0 _ _
  · have hp := spoints_yes A n c B a _ h1 hn hv
    cases hv' : ptsOk b
    · have hq := spoints_no A' n' c' B b _ h2 hn' hv'
      have HV := hid hv'
      clear hv hv'
      go_enter Try.func16, Try.ntmps16
      go_wp2_with fail
      refine hp.mono ?_
      rintro e w1 ⟨rfl, rfl⟩
      go_wp2_with fail
      refine hq.mono ?_
      rintro e w1 ⟨rfl, rfl⟩
      go_wp2
      go_ret
      rw [cyc, if_neg (fun hh => by rw [HV.out] at hh; exact Bool.false_ne_true hh.2)]
      exact retI_lit0 _ _
    · have hq := spoints_yes A' n' c' B b _ h2 hn' hv'
      obtain ⟨hl, hx⟩ := ptsOk_iff.1 hv
      obtain ⟨hl', hx'⟩ := ptsOk_iff.1 hv'
      have hn16 : n = 16 := by rw [← RI.len h]; exact hl
      have hn16' : n' = 16 := by rw [← RI.len h']; exact hl'
      subst hn16 hn16'
      have HVAL : Hid (cyc a b = conv a b) := hid (by rw [cyc, if_pos ⟨hv, hv'⟩])
      have HX := hid hx; have HX' := hid hx'
      clear hv hv' hl hl' hx hx' h1 h2
      go_enter Try.func16, Try.ntmps16
      go_wp2_with fail
      refine hp.mono ?_
      rintro e w1 ⟨rfl, rfl⟩
      go_wp2_with fail
      refine hq.mono ?_
      rintro e w1 ⟨rfl, rfl⟩
      clear hp hq
      go_wp2
      go_loopw [5, 6] (fun v kv wr => ∃ (k cc : Nat) (AA : Option Addr), k ≤ 16 ∧ kv = .int .i64 k ∧ v = .slice AA k cc ∧ wr.ownsRow w.heap.size 3 1 (.slice AA k cc) k (((List.range k).map (convk a b)).map (Value.int .i64)) ∧ Below w.heap.size w wr)
        (fun _ kv _ => 16 - (intOf kv).toNat)
      case atStart => exact ⟨0, 0, _, Nat.zero_le _, rfl, rfl, own_lit0 _ (Nat.le_refl _), HB0.out⟩
      case round =>
        obtain ⟨k, cc, AA, hk, rfl, rfl, hown, hbel⟩ := hrel
        obtain ⟨wo, rfl⟩ : ∃ wo : World, wo = wr := ⟨_, rfl⟩
        have hsz := hbel.size
        have HO := hid hown
        clear hown
        by_cases hlt : k < 16
        · go_wp2
          go_loopw [7, 8] (fun nv jv wr => ∃ (j m : Nat) (N : Int), j ≤ 16 ∧ jv = .int .i64 j ∧ nv = .int .i64 N ∧ 0 ≤ N ∧ N < 257 ∧ Hid (N = cpart a b k j) ∧ wr = wo.drewN m) (fun _ jv _ => 16 - (intOf jv).toNat)
          case atStart => exact ⟨0, 0, 0, Nat.zero_le _, rfl, rfl, by omega, by omega, hid rfl, rfl⟩
          case round =>
            obtain ⟨j, m, N, hj, rfl, rfl, N0, N1, HN, rfl⟩ := hrel
            by_cases hlj : j < 16
            · obtain ⟨I, hI⟩ : ∃ I, I = (k + 16 - j) % 16 := ⟨_, rfl⟩
              have hI16 : I < 16 := by omega
              obtain ⟨pb, po, x, rfl, hpb, hxx, hcx⟩ := RI.at_ (w := wo) (RV.below h (hbel.mono hB)) hlj
              obtain ⟨pb', po', y, rfl, hpb', hyy, hcy⟩ := RI.at_ (w := wo) (RV.below h' (hbel.mono hB)) hI16
              obtain ⟨x0, x1⟩ := in257_get HX.out hxx
              obtain ⟨y0, y1⟩ := in257_get HX'.out hyy
              obtain ⟨m0, m1⟩ := mul_bd257 x0 x1 y0 y1
              have hNs := cpart_succ a b k j
              rw [← HN.out, show a.getD j 0 = x by rw [List.getD_eq_getElem?_getD, hxx]; rfl, ← hI, show b.getD I 0 = y by rw [List.getD_eq_getElem?_getD, hyy]; rfl] at hNs
              have HNs := hid hNs
              have hw1 : IntKind.i64.wrap ((k : Int) - (j : Int)) = (k : Int) - (j : Int) := IntWalk.i64_in _ (by omega)
              have hw2 : IntKind.i64.wrap ((k : Int) - (j : Int) + 16) = (k : Int) - (j : Int) + 16 := IntWalk.i64_in _ (by omega)
              have ht1 : ((k : Int) - (j : Int) + 16).tmod 16 = (I : Int) := by rw [Int.tmod_eq_emod_of_nonneg (by omega)]; omega
              have hw3 : IntKind.i64.wrap (x * y) = x * y := IntWalk.i64_in _ (by omega)
              have hw4 : IntKind.i64.wrap (N + x * y) = N + x * y := IntWalk.i64_in _ (by omega)
              have ht2 : (N + x * y).tmod 257 = (N + x * y) % 257 := Int.tmod_eq_emod_of_nonneg (by omega)
              have hj0 : (0 : Int) ≤ (j : Int) := by omega
              have hj1 : (j : Int) < 16 := by omega
              have hi0' : (0 : Int) ≤ (I : Int) := by omega
              have hi1' : (I : Int) < 16 := by omega
              clear hxx hyy hNs hI
              go_wp2
              go_quiet (fail)
              go_wp2
              go_roundw
              case rel => exact ⟨j + 1, _, (N + x * y) % 257, by omega, by go_num, rfl, Int.emod_nonneg _ (by omega), Int.emod_lt_of_pos _ (by omega), HNs, rfl⟩
              case measure => simp [intOf]; omega
            · have e : j = 16 := by omega
              subst e
              clear hlj
              have HNN : Hid (N = convk a b k) := hid HN.out
              have HO2 : Hid ((wo.drewN m).ownsRow w.heap.size 3 1 (.slice AA k cc) k (((List.range k).map (convk a b)).map (Value.int .i64))) := hid HO.out
              have hbel2 : Below w.heap.size w (wo.drewN m) := hbel.trans ((Same.drewN _ _).bel _)
              have hsz2 := hbel2.size
              go_wp2_with (at_builtin; refine wpList_push rfl _ _ _ rfl w.heap.size 3 i0 _ 8 Try.underlying23 hi0 hz0 hz1 hz2 rfl (by omega) _ _ AA k cc _ rfl HO2.out rfl rfl (by omega) (by exact hsz2) ?_; intro g' cap w6 hown6 hgrow6 hlies6 hlt6)
              have hb6 := below_push hbel2 HO2.out (Nat.le_refl _) hsz2 hgrow6
              go_roundw
              case rel => exact ⟨k + 1, cap, _, by omega, by go_num, rfl, by rw [conv_snoc, List.map_append, ← HNN.out]; exact hown6, hb6⟩
              case measure => simp [intOf]; omega
        · have e : k = 16 := by omega
          subst e
          clear hlt
          have HB1 := hid hbel
          clear hbel
          go_wp2
          go_ret
          rw [HVAL.out]
          exact retI_of HO.out HB1.out
end Go.Proofs.Ytbbonllonkacfaa
