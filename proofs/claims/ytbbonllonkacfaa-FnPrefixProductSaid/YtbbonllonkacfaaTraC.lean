/-
  The transforms and the cyclic product, the program's, walked.
-/
import Derived.Test.YtbbonllonkacfaaTraB
import Derived.WalkSpells
import Derived.IntWalk
namespace Go.Proofs.Ytbbonllonkacfaa
open Go.RowKit
set_option linter.unusedVariables false

/-- V, but F at the places below j. -/
def stI (F : Nat → Int) (V : List Int) (j : Nat) : List Int := (List.range V.length).map fun k => if k < j then F k else V.getD k 0
theorem stI_len (F : Nat → Int) (V : List Int) (j : Nat) : (stI F V j).length = V.length := by simp [stI]
theorem stI_zero (F : Nat → Int) (V : List Int) : stI F V 0 = V := by
  apply List.ext_getElem (stI_len _ _ _)
  intro i h1 h2
  simp only [stI, List.getElem_map, List.getElem_range]
  rw [if_neg (by omega), List.getD_eq_getElem?_getD, List.getElem?_eq_getElem h2]; rfl
theorem stI_get {F : Nat → Int} {V : List Int} {j : Nat} {x y : Int} (hx : V[j]? = some x) (hy : (stI F V j)[j]? = some y) : y = x := by
  have hl := (List.getElem?_eq_some_iff.1 hx).1
  rw [stI, List.getElem?_map, List.getElem?_range hl] at hy
  simp only [Option.map_some, Option.some.injEq, Nat.lt_irrefl, if_false] at hy
  rw [← hy, List.getD_eq_getElem?_getD, hx]; rfl
theorem stI_succ (F : Nat → Int) (V : List Int) (j : Nat) : (stI F V j).set j (F j) = stI F V (j + 1) := by
  apply List.ext_getElem (by simp [stI])
  intro i h1 h2
  rw [List.getElem_set]
  simp only [stI, List.getElem_map, List.getElem_range]
  (repeat' split) <;> (first | rfl | (exfalso; omega) | (congr 1 <;> omega))
theorem stI_all (F : Nat → Int) (V : List Int) (n : Nat) (h : V.length = n) : stI F V n = (List.range n).map F := by
  subst h
  unfold stI
  apply List.map_congr_left
  intro k hk
  rw [if_pos (List.mem_range.1 hk)]
theorem map_range {f : Int → Int} {V : List Int} {n : Nat} (h : V.length = n) : (List.range n).map (fun k => f (V.getD k 0)) = V.map f := by
  subst h
  apply List.ext_getElem (by simp)
  intro i h1 h2
  simp only [List.getElem_map, List.getElem_range]
  rw [List.getD_eq_getElem?_getD, List.getElem?_eq_getElem (by simpa using h2)]; rfl

section
variable (A : Option Addr) (n c B : Nat) (xs : List Int) (w : World) (h : RI w B A n xs) (hn : n ≤ 1000000000)
include h hn
theorem points_no (hv : ptsOk xs = false) : Calls Try.prog 23 #[.slice A n c] w fun e w' => e = .returned (.bool false) ∧ w = w' := by
  have := points_impl A n c B xs w h hn; rwa [hv] at this
theorem points_yes (hv : ptsOk xs = true) : Calls Try.prog 23 #[.slice A n c] w fun e w' => e = .returned (.bool true) ∧ w = w' := by
  have := points_impl A n c B xs w h hn; rwa [hv] at this
theorem forward_no (hv : ptsOk xs = false) : Calls Try.prog 10 #[.slice A n c] w fun e w' => e = .returned (.slice none 0 0) ∧ w = w' := by
  have hp := points_no A n c B xs w h hn hv
  clear hv
  go_enter Try.func10, Try.ntmps10
  go_wp2_with fail
  refine hp.mono ?_
  rintro e w1 ⟨rfl, rfl⟩
  go_wp2
  go_ret
  exact ⟨rfl, rfl⟩
theorem backward_no (hv : ptsOk xs = false) : Calls Try.prog 18 #[.slice A n c] w fun e w' => e = .returned (.slice none 0 0) ∧ w = w' := by
  have hp := points_no A n c B xs w h hn hv
  clear hv
  go_enter Try.func18, Try.ntmps18
  go_wp2_with fail
  refine hp.mono ?_
  rintro e w1 ⟨rfl, rfl⟩
  go_wp2
  go_ret
  exact ⟨rfl, rfl⟩
theorem forward_yes (hB : B ≤ w.heap.size) (hv : ptsOk xs = true) : Calls Try.prog 10 #[.slice A n c] w fun e w' => RetI 3 w e w' (dft xs 2) := by
  have hp := points_yes A n c B xs w h hn hv
  obtain ⟨hl, hx⟩ := ptsOk_iff.1 hv
  have hn16 : n = 16 := by rw [← RI.len h]; exact hl
  subst hn16
  have hb := bf_impl 4 (by omega) A 16 c B xs 2 w rfl h hB hx (by omega) (by omega)
  rw [bf_dft hl hx root2_8] at hb
  have HB := hid hb
  clear hv hb hl hx h hn
  go_enter Try.func10, Try.ntmps10
  go_wp2_with fail
  refine hp.mono ?_
  rintro e w1 ⟨rfl, rfl⟩
  go_wp2_with fail
  refine (root_impl _).mono ?_
  rintro e w1 ⟨rfl, rfl⟩
  go_wp2_with fail
  refine HB.out.mono ?_
  rintro e w1 ⟨A1, n1, c1, rfl, o1, hb1⟩
  have H1 := hid (And.intro o1 hb1)
  clear o1 hb1
  go_wp2
  go_ret
  exact ⟨A1, n1, c1, rfl, H1.out.1, H1.out.2⟩
set_option maxHeartbeats 1600000 in
theorem backward_yes (hB : B ≤ w.heap.size) (hv : ptsOk xs = true) : Calls Try.prog 18 #[.slice A n c] w fun e w' => RetI 3 w e w' ((dft xs 129).map scale) := by
  have hp := points_yes A n c B xs w h hn hv
  obtain ⟨hl, hx⟩ := ptsOk_iff.1 hv
  have hn16 : n = 16 := by rw [← RI.len h]; exact hl
  subst hn16
  have hb := bf_impl 4 (by omega) A 16 c B xs 129 w rfl h hB hx (by omega) (by omega)
  rw [bf_dft hl hx root129_8] at hb
  have HB := hid hb
  have hq := fun w => power_impl 2 15 w (by omega) (by omega) (by omega)
  rw [show pw 2 15 = 129 by decide] at hq
  have hs := fun w => power_impl 16 255 w (by omega) (by omega) (by omega)
  rw [show pw 16 255 = 241 by decide +kernel] at hs
  obtain ⟨V, hV⟩ : ∃ V, V = dft xs 129 := ⟨_, rfl⟩
  rw [← hV] at HB
  have hVl : V.length = 16 := by rw [hV]; exact dft_len _ _
  have hVi : In257 V := by rw [hV]; exact dft_in _ _
  have HV := hid hV; have HL := hid hVl; have HI := hid hVi
  clear hv hb hl hx h hn hV hVl hVi
  go_enter Try.func18, Try.ntmps18
  go_wp2_with fail
  refine hp.mono ?_
  rintro e w1 ⟨rfl, rfl⟩
  go_wp2_with fail
  refine (root_impl _).mono ?_
  rintro e w1 ⟨rfl, rfl⟩
  go_wp2_with fail
  refine (hq _).mono ?_
  rintro e w1 ⟨rfl, rfl⟩
  go_wp2_with fail
  refine HB.out.mono ?_
  rintro e w1 ⟨A1, n1, c1, rfl, o1, hb1⟩
  have hn1 : n1 = 16 := by rw [← OwnI.len o1, HL.out]
  subst hn1
  have H1 := hid (And.intro o1 hb1)
  clear o1 hb1 hp
  go_wp2_with fail
  refine (hs _).mono ?_
  rintro e w2 ⟨rfl, rfl⟩
  clear hs hq
  go_wp2
  go_loopw [18] (fun iv wr => ∃ (j : Nat), j ≤ 16 ∧ iv = .int .i64 j ∧ OwnI wr 3 w.heap.size w1.heap.size A1 16 c1 (stI (fun k => scale (V.getD k 0)) V j) ∧ Below w.heap.size w wr ∧ Hid (wr.heap.size = w1.heap.size)) (fun iv _ => 16 - (intOf iv).toNat)
  case atStart => exact ⟨0, Nat.zero_le _, rfl, by rw [stI_zero]; exact H1.out.1, H1.out.2, hid rfl⟩
  case round =>
    obtain ⟨j, hj, rfl, hown, hbr, HZ⟩ := hrel
    by_cases hlt : j < 16
    · have hxj : V[j]? = some (V.getD j 0) := by rw [List.getD_eq_getElem?_getD, List.getElem?_eq_getElem (by rw [HL.out]; exact hlt)]; rfl
      obtain ⟨x, hx⟩ : ∃ x, x = V.getD j 0 := ⟨_, rfl⟩
      have hxb := in257_getD HI.out j
      obtain ⟨g, y, rfl, g1, g2, g3, hy, hcy, hfr, hown2⟩ := OwnI.stored hown hlt (scale x)
      have hyx := stI_get hxj hy
      rw [← hx] at hyx hxb
      subst hyx
      obtain ⟨x0, x1⟩ := hxb
      have hst := stI_succ (fun k => scale (V.getD k 0)) V j
      have hst2 : (stI (fun k => scale (V.getD k 0)) V j).set j (scale y) = stI (fun k => scale (V.getD k 0)) V (j + 1) := by rw [← hst, hx]
      rw [hst2] at hown2
      have H2 := hid (And.intro hown2 (hbr.setCell (p := ⟨g, j, none⟩) g1 (.int .i64 (scale y))))
      have hsc : scale y = y * 241 % 257 := rfl
      rw [hsc] at H2
      clear hxj hx hy hst hst2 hown hown2 hbr hsc
      go_wp2
      go_roundw
      case rel => exact ⟨j + 1, by omega, by go_num, H2.out.1, H2.out.2, hid (by have := HZ.out; simpa [World.setCell] using this)⟩
      case measure => simp [intOf]; omega
    · have e : j = 16 := by omega
      subst e
      clear hlt
      rw [stI_all _ _ 16 HL.out, map_range HL.out] at hown
      have H2 := hid (And.intro hown hbr)
      clear hown hbr
      go_wp2
      go_ret
      exact ⟨A1, 16, c1, rfl, by rw [← HV.out]; exact OwnV.more H2.out.1 (Nat.le_refl _) (by rw [HZ.out]; exact Nat.le_refl _), H2.out.2⟩
end
theorem forward_impl (A : Option Addr) (n c B : Nat) (xs : List Int) (w : World) (h : RI w B A n xs) (hB : B ≤ w.heap.size) (hn : n ≤ 1000000000) : Calls Try.prog 10 #[.slice A n c] w fun e w' => RetI 3 w e w' (forward xs) := by
  cases hv : ptsOk xs
  · refine (forward_no A n c B xs w h hn hv).mono ?_
    rintro e w1 ⟨rfl, rfl⟩
    rw [forward, if_neg (by rw [hv]; exact Bool.false_ne_true)]
    exact retI_nil _ _
  · have := forward_yes A n c B xs w h hn hB hv
    rwa [forward, if_pos hv]
theorem backward_impl (A : Option Addr) (n c B : Nat) (xs : List Int) (w : World) (h : RI w B A n xs) (hB : B ≤ w.heap.size) (hn : n ≤ 1000000000) : Calls Try.prog 18 #[.slice A n c] w fun e w' => RetI 3 w e w' (backward xs) := by
  cases hv : ptsOk xs
  · refine (backward_no A n c B xs w h hn hv).mono ?_
    rintro e w1 ⟨rfl, rfl⟩
    rw [backward, if_neg (by rw [hv]; exact Bool.false_ne_true)]
    exact retI_nil _ _
  · have := backward_yes A n c B xs w h hn hB hv
    rwa [backward, if_pos hv]
def cyc (a b : List Int) : List Int := if ptsOk a = true ∧ ptsOk b = true then conv a b else []
set_option maxHeartbeats 1600000 in
theorem cyclic_impl (A A' : Option Addr) (n n' c c' B : Nat) (a b : List Int) (w : World) (h : RI w B A n a) (h' : RI w B A' n' b) (hB : B ≤ w.heap.size) (hn : n ≤ 1000000000) (hn' : n' ≤ 1000000000) :
    Calls Try.prog 15 #[.slice A n c, .slice A' n' c'] w fun e w' => RetI 3 w e w' (cyc a b) := by
  have hnil := fun (wx : World) (a : Option Addr) (l cc : Nat) => Lib.run_eql_slice_nil (P := Try.prog) wx 23 3 a l cc 0 0 Try.underlying23
  have HNIL := hid hnil
  clear hnil
  cases hv : ptsOk a
  · have hf := forward_no A n c B a w h hn hv
    have hg := fun w1 (hb : Below w.heap.size w w1) => forward_impl A' n' c' B b w1 (RV.below h' (hb.mono hB)) (Nat.le_trans hB hb.size) hn'
    have HG := hid hg
    have HV := hid hv
    clear hg hv
    go_enter Try.func15, Try.ntmps15
    go_wp2_with fail
    refine hf.mono ?_
    rintro e w1 ⟨rfl, rfl⟩
    go_wp2_with fail
    refine (HG.out _ (Below.refl _ _)).mono ?_
    rintro e w1 ⟨A1, n1, c1, rfl, o1, hb1⟩
    have HB := hid hb1
    clear o1 hb1 hf
    have hnil := HNIL.out
    go_wp2
    go_ret
    rw [cyc, if_neg (fun hh => by rw [HV.out] at hh; exact Bool.false_ne_true hh.1)]
    exact retI_of (n := 0) (World.ownsRow_nil _ _ _ _) HB.out
  · have HF := hid (forward_yes A n c B a w h hn hB hv)
    cases hv' : ptsOk b
    · have hg := fun w1 (hb : Below w.heap.size w w1) => forward_no A' n' c' B b w1 (RV.below h' (hb.mono hB)) hn' hv'
      have HG := hid hg
      have HV := hid hv'
      clear hg hv hv'
      go_enter Try.func15, Try.ntmps15
      go_wp2_with fail
      refine HF.out.mono ?_
      rintro e w1 ⟨A1, n1, c1, rfl, o1, hb1⟩
      have HB := hid hb1
      have hn1 : n1 = 16 := by rw [← OwnI.len o1, dft_len]
      subst hn1
      obtain ⟨g1, cs1, rfl, _⟩ := o1.blk (by omega)
      clear o1 hb1
      go_wp2_with fail
      refine (HG.out _ HB.out).mono ?_
      rintro e w2 ⟨rfl, rfl⟩
      have hnil := HNIL.out
      go_wp2
      go_ret
      rw [cyc, if_neg (fun hh => by rw [HV.out] at hh; exact Bool.false_ne_true hh.2)]
      exact retI_of (n := 0) (World.ownsRow_nil _ _ _ _) HB.out
    · have hg := fun w1 (hb : Below w.heap.size w w1) => forward_yes A' n' c' B b w1 (RV.below h' (hb.mono hB)) hn' (Nat.le_trans hB hb.size) hv'
      have HG := hid hg
      have hval : cyc a b = backward (mulL (dft a 2) (dft b 2)) := by
        rw [cyc, if_pos ⟨hv, hv'⟩, ← back_mul hv hv', forward, if_pos hv, forward, if_pos hv']
      have HVAL := hid hval
      obtain ⟨X, hX⟩ : ∃ X, X = dft a 2 := ⟨_, rfl⟩
      obtain ⟨Y, hY⟩ : ∃ Y, Y = dft b 2 := ⟨_, rfl⟩
      rw [← hX] at HF HVAL
      rw [← hY] at HVAL
      have HG2 : Hid (∀ w1, Below w.heap.size w w1 → Calls Try.prog 10 #[.slice A' n' c'] w1 fun e w' => RetI 3 w1 e w' Y) := hid (fun w1 hb => by rw [hY]; exact HG.out w1 hb)
      have HX : Hid (X.length = 16 ∧ In257 X) := hid ⟨by rw [hX]; exact dft_len _ _, by rw [hX]; exact dft_in _ _⟩
      have HY : Hid (Y.length = 16 ∧ In257 Y) := hid ⟨by rw [hY]; exact dft_len _ _, by rw [hY]; exact dft_in _ _⟩
      clear hg hv hv' hval HG hX hY
      go_enter Try.func15, Try.ntmps15
      go_wp2_with fail
      refine HF.out.mono ?_
      rintro e w1 ⟨A1, n1, c1, rfl, o1, hb1⟩
      have hn1 : n1 = 16 := by rw [← OwnI.len o1, HX.out.1]
      subst hn1
      obtain ⟨g1, cs1, rfl, _, hg1, _⟩ := o1.blk (by omega)
      have H1 := hid (And.intro o1 hb1)
      clear o1 hb1
      go_wp2_with fail
      refine (HG2.out _ H1.out.2).mono ?_
      rintro e w2 ⟨A2, n2, c2, rfl, o2, hb2⟩
      have hn2 : n2 = 16 := by rw [← OwnI.len o2, HY.out.1]
      subst hn2
      obtain ⟨g2, cs2, rfl, hg2, _, _⟩ := o2.blk (by omega)
      have hz12 := hb2.size
      have o1' : OwnI w2 3 w.heap.size w1.heap.size (some ⟨g1, 0, none⟩) 16 c1 X := OwnV.below H1.out.1 hb2 (Nat.le_refl _)
      have H2 := hid (And.intro o1' (And.intro (OwnI.ri o2) (Below.next H1.out.2 hb2)))
      have hgg : g1 ≠ g2 := by omega
      have hz1 := H1.out.2.size
      clear o1' o2 hb2
      have hnil := HNIL.out
      go_wp2
      clear hnil
      go_loopw [20] (fun iv wr => ∃ (j : Nat), j ≤ 16 ∧ iv = .int .i64 j ∧ OwnI wr 3 w.heap.size w1.heap.size (some ⟨g1, 0, none⟩) 16 c1 (stI (fun k => X.getD k 0 * Y.getD k 0 % 257) X j) ∧ Below w.heap.size w wr ∧ Only w.heap.size w1.heap.size w2 wr ∧ Hid (wr.heap.size = w2.heap.size)) (fun iv _ => 16 - (intOf iv).toNat)
      case atStart => exact ⟨0, Nat.zero_le _, rfl, by rw [stI_zero]; exact H2.out.1, H2.out.2.2, Only.refl _ _ _, hid rfl⟩
      case round =>
        obtain ⟨j, hj, rfl, hown, hbr, hon, HZ⟩ := hrel
        by_cases hlt : j < 16
        · have hxj : X[j]? = some (X.getD j 0) := by rw [List.getD_eq_getElem?_getD, List.getElem?_eq_getElem (by rw [HX.out.1]; exact hlt)]; rfl
          obtain ⟨x, hx⟩ : ∃ x, x = X.getD j 0 := ⟨_, rfl⟩
          have hxb := in257_getD HX.out.2 j
          obtain ⟨b2, o2, yy, he2, hb2, hyy, hcy2⟩ := RI.at_ H2.out.2.1 hlt
          injection he2 with he2
          injection he2 with e1 e2
          subst e1 e2
          obtain ⟨yy0, yy1⟩ := in257_get HY.out.2 hyy
          have hcy2' : wr.cell? ⟨g2, 0 + j, none⟩ = some (.int .i64 yy) := (World.cell?_of_block (hon.block g2 (by omega) (by omega))).trans hcy2
          rw [Nat.zero_add] at hcy2'
          obtain ⟨g, y, hge, gg1, gg2, gg3, hy, hcy, hfr, hown2⟩ := OwnI.stored hown hlt (x * yy % 257)
          injection hge with hge
          injection hge with hge _
          subst hge
          have hyx := stI_get hxj hy
          rw [← hx] at hyx hxb
          subst hyx
          obtain ⟨x0, x1⟩ := hxb
          obtain ⟨m0, m1⟩ := mul_bd257 x0 x1 yy0 yy1
          have hst := stI_succ (fun k => X.getD k 0 * Y.getD k 0 % 257) X j
          have hst2 : (stI (fun k => X.getD k 0 * Y.getD k 0 % 257) X j).set j (y * yy % 257) = stI (fun k => X.getD k 0 * Y.getD k 0 % 257) X (j + 1) := by
            rw [← hst, hx, show Y.getD j 0 = yy by rw [List.getD_eq_getElem?_getD, hyy]; rfl]
          rw [hst2] at hown2
          have H3 := hid (And.intro hown2 (And.intro (hbr.setCell (p := ⟨g1, j, none⟩) gg1 (.int .i64 (y * yy % 257))) (hon.setCell (p := ⟨g1, j, none⟩) gg1 gg2 (.int .i64 (y * yy % 257)))))
          have hw1 : IntKind.i64.wrap (y * yy) = y * yy := IntWalk.i64_in _ (by omega)
          have hw2 : (y * yy).tmod 257 = y * yy % 257 := Int.tmod_eq_emod_of_nonneg m0
          have hj0 : (0 : Int) ≤ (j : Int) := by omega
          have hj1 : (j : Int) < 16 := by omega
          clear hxj hx hy hst hst2 hown hown2 hbr hyy hcy2 hon
          go_wp2
          go_region
          all_goals
            go_wp2
            go_roundw
            case rel => exact ⟨j + 1, by omega, by go_num, H3.out.1, H3.out.2.1.drew, H3.out.2.2.drew, hid (by have := HZ.out; simpa [World.setCell] using this)⟩
            case measure => simp [intOf]; omega
        · have e : j = 16 := by omega
          subst e
          clear hlt
          rw [stI_all _ _ 16 HX.out.1] at hown
          have r : RI wr w1.heap.size (some ⟨g1, 0, none⟩) 16 (mulL X Y) := OwnI.ri hown
          have hbk := backward_impl _ 16 c1 _ (mulL X Y) wr r (by rw [HZ.out]; exact hz12) (by omega)
          rw [← HVAL.out] at hbk
          have HBR := hid hbr
          clear hown hbr r
          go_wp2_with fail
          refine hbk.mono ?_
          rintro e w3 ⟨A3, n3, c3, rfl, o3, hb3⟩
          have hs3 := HBR.out.size
          have H3 := hid (And.intro o3 (Below.next HBR.out hb3))
          clear o3 hb3 hbk
          go_wp2
          go_ret
          exact ⟨A3, n3, c3, rfl, OwnV.more H3.out.1 hs3 (Nat.le_refl _), H3.out.2⟩
end Go.Proofs.Ytbbonllonkacfaa
