/-
  AddChips, the program's and the reference's, walked.
-/
import Derived.Test.YtgkkanamnhochaaL1
import Derived.Test.YtgkkanamnhochaaWithin
import Derived.Test.YtgkkanamnhochaaWalsh
import Derived.Deep.RegionHeld3
namespace Go.Proofs.Ytgkkanamnhochaa
open Go.RowKit
set_option linter.unusedVariables false

def addL (a b : List Int) : List Int := List.zipWith (fun x y => x + y) a b
def addChips (a b : List Int) : List Int := if a.length = b.length ∧ withinB 256 1000 a = true ∧ withinB 256 1000 b = true then addL a b else []
theorem addL_len {a b : List Int} (h : a.length = b.length) : (addL a b).length = a.length := by simp [addL, h]
theorem addL_get {a b : List Int} {k : Nat} {x y : Int} (hx : a[k]? = some x) (hy : b[k]? = some y) : (addL a b)[k]? = some (x + y) := by
  simp [addL, List.getElem?_zipWith, hx, hy]

theorem within_yes (A : Option Addr) (n c B : Nat) (xs : List Int) (l b : Int) (w : World) (h : RI w B A n xs) (hn : n ≤ 1000000000) (hb0 : 0 ≤ b) (hb1 : b ≤ 1000000000) (hv : withinB l b xs = true) :
    Calls Try.prog 42 #[.slice A n c, .int .i64 l, .int .i64 b] w fun e w' => e = .returned (.bool true) ∧ w = w' :=
  (within_any A n c B xs l b w h hn hb0 hb1).mono fun _ _ ⟨he, hw⟩ => ⟨he.trans (ret_bool hv), hw⟩
theorem within_not (A : Option Addr) (n c B : Nat) (xs : List Int) (l b : Int) (w : World) (h : RI w B A n xs) (hn : n ≤ 1000000000) (hb0 : 0 ≤ b) (hb1 : b ≤ 1000000000) (hv : withinB l b xs = false) :
    Calls Try.prog 42 #[.slice A n c, .int .i64 l, .int .i64 b] w fun e w' => e = .returned (.bool false) ∧ w = w' :=
  (within_any A n c B xs l b w h hn hb0 hb1).mono fun _ _ ⟨he, hw⟩ => ⟨he.trans (ret_bool hv), hw⟩

theorem addChips_no {a b : List Int} (h : a.length ≠ b.length ∨ withinB 256 1000 a = false ∨ withinB 256 1000 b = false) : addChips a b = [] := by
  rw [addChips, if_neg]
  rintro ⟨h1, h2, h3⟩
  rcases h with h | h | h
  · exact h h1
  · rw [h2] at h; cases h
  · rw [h3] at h; cases h

set_option maxHeartbeats 1600000 in
theorem addChips_impl (A A' : Option Addr) (n n' c c' B : Nat) (xs ys : List Int) (w : World) (h : RI w B A n xs) (h' : RI w B A' n' ys) (hB : B ≤ w.heap.size) (hn : n ≤ 1000000000) (hn' : n' ≤ 1000000000) :
    Calls Try.prog 24 #[.slice A n c, .slice A' n' c'] w fun e w' => RetI 3 w e w' (addChips xs ys) := by
  have HL := hid (RI.len h)
  have HL' := hid (RI.len h')
  by_cases hnn : n = n'
  · subst hnn
    have hne : ((n : Int) != (n : Int)) = false := by simp
    cases hv : withinB 256 1000 xs
    · have hw1 := within_not A n c B xs 256 1000 w h hn (by omega) (by omega) hv
      have HV := hid hv
      clear hv
      go_enter Try.func24, Try.ntmps24
      go_wp2_with (go_at_call 42; refine hw1.mono ?_; rintro e w1 ⟨rfl, rfl⟩)
      go_ret
      rw [addChips_no (.inr (.inl HV.out))]
      exact retI_nil _ _
    · have hw1 := within_yes A n c B xs 256 1000 w h hn (by omega) (by omega) hv
      have HV := hid hv
      clear hv
      cases hv' : withinB 256 1000 ys
      · have hw2 := within_not A' n c' B ys 256 1000 w h' hn (by omega) (by omega) hv'
        have HV' := hid hv'
        clear hv'
        go_enter Try.func24, Try.ntmps24
        go_wp2_with fail
        refine hw1.mono ?_
        rintro e w1 ⟨rfl, rfl⟩
        go_wp2_with fail
        refine hw2.mono ?_
        rintro e w1 ⟨rfl, rfl⟩
        go_wp2
        go_ret
        rw [addChips_no (.inr (.inr HV'.out))]
        exact retI_nil _ _
      · have hw2 := within_yes A' n c' B ys 256 1000 w h' hn (by omega) (by omega) hv'
        have HV' := hid hv'
        clear hv'
        have HA := hid (withinB_iff.1 HV.out).2
        have HA' := hid (withinB_iff.1 HV'.out).2
        have hn256 : n ≤ 256 := by have := (withinB_iff.1 HV.out).1; have := HL.out; omega
        have hmk := run_make_row' (P := Try.prog) 22 3 (.int .i64 0) 8 Try.underlying22 infoI rfl .i64 .i64 n (by omega) (by omega)
        have HVL : Hid ((addL xs ys).length = n) := hid (by rw [addL_len (by rw [HL.out, HL'.out]), HL.out])
        go_enter Try.func24, Try.ntmps24
        go_wp2_with fail
        refine hw1.mono ?_
        rintro e w1 ⟨rfl, rfl⟩
        go_wp2_with fail
        refine hw2.mono ?_
        rintro e w1 ⟨rfl, rfl⟩
        clear hw1 hw2
        go_wp2
        go_loopw [27] (fun i wr => ∃ (k : Nat) (zs : List Int), k ≤ n ∧ i = .int .i64 k ∧ Hid (zs.length = n) ∧ Hid (zs.take k = (addL xs ys).take k) ∧ Blk wr w.heap.size 3 (zs.map (Value.int .i64)).toArray ∧ Below w.heap.size w wr)
          (fun i _ => n - (intOf i).toNat)
        case atStart => exact ⟨0, List.replicate n 0, Nat.zero_le _, rfl, hid (by simp), hid (by simp), blk_made w _ n (0 : Int) rfl, (Below.refl _ _).alloc (Nat.le_refl _) _⟩
        case round =>
          obtain ⟨k, zs, hk, rfl, HZ, HE, hblk, hbel⟩ := hrel
          by_cases hlt : k < n
          · obtain ⟨b, o, x, rfl, hb, hx, hc⟩ := RI.at_ (RV.below h (hbel.mono hB)) hlt
            obtain ⟨b', o', y, rfl, hb', hy, hc'⟩ := RI.at_ (RV.below h' (hbel.mono hB)) hlt
            obtain ⟨x0, x1⟩ := allIn_get HA.out hx
            obtain ⟨y0, y1⟩ := allIn_get HA'.out hy
            have HX := hid (addL_get hx hy)
            clear hx hy
            obtain ⟨z, hz, hcz⟩ := hblk.cellL (k := k) (by rw [HZ.out]; omega)
            have hfr := hblk.frozen k
            have hk0 : (0 : Int) ≤ (k : Int) := by omega
            have hkn : (k : Int) < (n : Int) := by omega
            clear hz
            go_wp2
            go_region
            all_goals
              go_wp2
              go_roundw
              case rel => exact ⟨k + 1, zs.set k (x + y), by omega, by go_num, hid (by rw [List.length_set]; exact HZ.out), hid (by rw [take_set_snoc _ _ _ (by rw [HZ.out]; omega), take_snoc _ _ _ HX.out, HE.out]), hblk.setL k (x + y), (hbel.setCell (p := ⟨w.heap.size, k, none⟩) (Nat.le_refl _) _).drew⟩
              case measure => simp [intOf]; omega
          · go_wp2
            go_ret
            have e : zs = addL xs ys := by
              have := HE.out
              rw [List.take_of_length_le (by rw [HZ.out]; omega), List.take_of_length_le (by rw [HVL.out]; omega)] at this
              exact this
            subst e
            refine retI_of (n := n) ?_ hbel
            rw [addChips, if_pos ⟨by rw [HL.out, HL'.out], HV.out, HV'.out⟩]
            exact (ownV_blk hblk (lo := w.heap.size) (hi := w.heap.size + 1) (Nat.le_refl _) (by omega) (by simpa using HVL.out) (by unfold maxLen; omega)).own
  · have hne : ((n : Int) != (n' : Int)) = true := by simp; omega
    go_enter Try.func24, Try.ntmps24
    go_wp2
    go_ret
    rw [addChips_no (.inl (by rw [HL.out, HL'.out]; exact hnn))]
    exact retI_nil _ _
set_option maxHeartbeats 1600000 in
theorem addChips_spec (A A' : Option Addr) (n n' c c' B : Nat) (xs ys : List Int) (w : World) (h : RI w B A n xs) (h' : RI w B A' n' ys) (hB : B ≤ w.heap.size) (hn : n ≤ 1000000000) (hn' : n' ≤ 1000000000) :
    Calls Try.prog 22 #[.slice A n c, .slice A' n' c'] w fun e w' => RetI 3 w e w' (addChips xs ys) := by
  have HL := hid (RI.len h)
  have HL' := hid (RI.len h')
  obtain ⟨i0, hi0, hz0, hz1, hz2⟩ := info_parts infoI
  by_cases hnn : n = n'
  · subst hnn
    have hne : ((n : Int) != (n : Int)) = false := by simp
    by_cases h256 : n ≤ 256
    · have hJ : ∀ k, k ≤ n → AllIn 1000 (xs.take k) → AllIn 1000 (ys.take k) → k = n → addChips xs ys = addL xs ys := by
        rintro k hk ha hb rfl
        rw [addChips, if_pos ⟨by rw [HL.out, HL'.out], withinB_iff.2 ⟨by rw [HL.out]; omega, allIn_whole ha HL.out (Nat.le_refl _)⟩, withinB_iff.2 ⟨by rw [HL'.out]; omega, allIn_whole hb HL'.out (Nat.le_refl _)⟩⟩]
      have HJ := hid hJ
      clear hJ
      go_enter Try.func22, Try.ntmps22
      go_wp2
      go_loopw [5, 6] (fun v i wr => ∃ (k cc : Nat) (AA : Option Addr), k ≤ n ∧ i = .int .i64 k ∧ v = .slice AA k cc ∧ wr.ownsRow w.heap.size 3 1 (.slice AA k cc) k (((addL xs ys).take k).map (Value.int .i64)) ∧ Below w.heap.size w wr ∧ Hid (AllIn 1000 (xs.take k) ∧ AllIn 1000 (ys.take k)))
        (fun _ i _ => n - (intOf i).toNat)
      case atStart => exact ⟨0, 0, _, Nat.zero_le _, rfl, rfl, by simpa using own_lit0 _ (Nat.le_refl _), (Below.refl _ _).alloc (Nat.le_refl _) _, hid ⟨by rw [List.take_zero]; exact allIn_nil _, by rw [List.take_zero]; exact allIn_nil _⟩⟩
      case round =>
        obtain ⟨k, cc, AA, hk, rfl, rfl, hown, hbel, HI⟩ := hrel
        have hsz := hbel.size
        by_cases hlt : k < n
        · obtain ⟨b, o, x, rfl, hb, hx, hc⟩ := RI.at_ (RV.below h (hbel.mono hB)) hlt
          obtain ⟨b', o', y, rfl, hb', hy, hc'⟩ := RI.at_ (RV.below h' (hbel.mono hB)) hlt
          have HX := hid (addL_get hx hy)
          have HXx := hid hx
          have HYy := hid hy
          clear hx hy
          have hk0 : (0 : Int) ≤ (k : Int) := by omega
          have hkn : (k : Int) < (n : Int) := by omega
          by_cases hxv : -1000 ≤ x ∧ x ≤ 1000
          · obtain ⟨x0, x1⟩ := hxv
            by_cases hyv : -1000 ≤ y ∧ y ≤ 1000
            · obtain ⟨y0, y1⟩ := hyv
              have hown' := hown.alloc (.cells #[.int .i64 (x + y)] 3)
              have hcell' := cell_new0 wr (.int .i64 (x + y)) 3
              have hcA : (wr.alloc (.cells #[.int .i64 (x + y)] 3)).cell? ⟨b, o + k, none⟩ = some (.int .i64 x) := (World.cell?_alloc_lt wr _ _ (by show b < _; omega)).trans hc
              have hcB : (wr.alloc (.cells #[.int .i64 (x + y)] 3)).cell? ⟨b', o' + k, none⟩ = some (.int .i64 y) := (World.cell?_alloc_lt wr _ _ (by show b' < _; omega)).trans hc'
              have hneA : some (⟨b, o + k, none⟩ : Addr).block ≠ Value.ownBlock (.slice AA k cc) := fun e => by have := (hown.lt b e.symm).1; omega
              have hneB : some (⟨b', o' + k, none⟩ : Addr).block ≠ Value.ownBlock (.slice AA k cc) := fun e => by have := (hown.lt b' e.symm).1; omega
              have hj9 : k ≤ 1000000000 := by omega
              have hsz' : w.heap.size ≤ (wr.alloc (.cells #[.int .i64 (x + y)] 3)).heap.size := by simp; omega
              have hwr : IntKind.i64.wrap (x + y) = x + y := IntWalk.i64_in _ (by omega)
              go_wp2_with (go_at_call 36; refine (l1In_yes _ _ _ _ (by omega) (by omega)).mono ?_; rintro e w1 ⟨rfl, rfl⟩)
              go_region_held3 (fun w' => w'.cell? ⟨b, o + k, none⟩ = some (.int .i64 x) ∧ w'.cell? ⟨b', o' + k, none⟩ = some (.int .i64 y)) (first | go_keep | exact ⟨hgrow1.cell hcA hneA, hgrow1.cell hcB hneB⟩) ((refine step_push (o := ⟨some 51, _, _, _, _, _⟩) rfl (.tmp 40) (.tmp 50) 22 (by rfl) w.heap.size 3 i0 (.int .i64 0) 8 Try.underlying22 hi0 hz0 hz1 hz2 rfl (by decide) (.int .i64 (x + y)) wr.heap.size AA k cc (((addL xs ys).take k).map (Value.int .i64)) (by rfl) hown' (by rfl) hcell' rfl hj9 hsz' ?_; intro g' cap w1 hown1 hgrow1 hlies1 hlt1))
              have hbel1 := below_push (hbel.alloc (by omega) _) hown' (Nat.le_refl _) hsz' (grown_undrew hgrow1)
              go_wp2
              go_roundw
              case rel => exact ⟨k + 1, cap, _, by omega, by go_num, rfl, by rw [take_snoc _ _ _ HX.out, List.map_append]; exact hown1, hbel1, hid ⟨allIn_snoc HI.out.1 HXx.out x0 x1, allIn_snoc HI.out.2 HYy.out y0 y1⟩⟩
              case measure => simp [intOf]; omega
            · go_wp2_with (first | (go_at_call 36; refine (l1In_yes _ _ _ _ (by omega) (by omega)).mono ?_; rintro e w1 ⟨rfl, rfl⟩) | (go_at_call 36; refine (l1In_no _ _ _ _ (by omega)).mono ?_; rintro e w1 ⟨rfl, rfl⟩))
              go_ret
              rw [addChips_no (.inr (.inr (withinB_no fun hh => by have := allIn_get hh.2 HYy.out; omega)))]
              exact retI_of (n := 0) (own_lit0 _ (by omega)) (hbel.alloc (by omega) _)
          · go_wp2_with (first | (go_at_call 36; refine (l1In_no _ _ _ _ (by omega)).mono ?_; rintro e w1 ⟨rfl, rfl⟩))
            go_ret
            rw [addChips_no (.inr (.inl (withinB_no fun hh => by have := allIn_get hh.2 HXx.out; omega)))]
            exact retI_of (n := 0) (own_lit0 _ (by omega)) (hbel.alloc (by omega) _)
        · have e : k = n := by omega
          subst e
          clear hlt
          go_wp2
          go_ret
          rw [HJ.out k (Nat.le_refl _) HI.out.1 HI.out.2 rfl]
          refine retI_of (n := k) ?_ hbel
          rwa [List.take_of_length_le (by rw [addL_len (by rw [HL.out, HL'.out]), HL.out]; exact Nat.le_refl _)] at hown
    · go_enter Try.func22, Try.ntmps22
      go_wp2
      go_ret
      rw [addChips_no (.inr (.inl (withinB_no fun hh => by have := hh.1; rw [HL.out] at this; omega)))]
      exact retI_lit0 _ _
  · have hne : ((n : Int) != (n' : Int)) = true := by simp; omega
    go_enter Try.func22, Try.ntmps22
    go_wp2
    go_ret
    rw [addChips_no (.inl (by rw [HL.out, HL'.out]; exact hnn))]
    exact retI_lit0 _ _
end Go.Proofs.Ytgkkanamnhochaa
