/-
  ApplyGain, RemoveMean and GainStep, the program's and the reference's, walked.
-/
import Derived.Test.YtdcljfpgjifijaaSeq
import Derived.Test.YtdcljfpgjifijaaL1
import Derived.Deep.RegionLaw
import Derived.Deep.RegionHeld3
namespace Go.Proofs.Ytdcljfpgjifijaa
open Go.RowKit
set_option linter.unusedVariables false

theorem infoI : (Try.prog.info? 3).map (fun i => (i.zero, i.size, i.bytes)) = some (some (.int .i64 0), 1, 8) := by kernel_rfl

def clip (n lo hi : Int) : Int := min (max n lo) hi
def gain1 (g n : Int) : Int := clip ((n * g).tdiv 256) (-1000) 1000
def applyGain (g : Int) (xs : List Int) : List Int := if 1 ≤ g ∧ g ≤ 4096 ∧ seqValid xs = true then xs.map (gain1 g) else []

theorem map_snoc {f : Int → Int} {xs : List Int} {k : Nat} {x : Int} (hx : xs[k]? = some x) : (xs.take (k + 1)).map f = (xs.take k).map f ++ [f x] := by
  rw [take_snoc _ _ _ hx, List.map_append]; rfl

theorem mul_bd {n g : Int} (h1 : -1000 ≤ n) (h2 : n ≤ 1000) (g1 : 1 ≤ g) (g2 : g ≤ 4096) : -4096000 ≤ n * g ∧ n * g ≤ 4096000 := by
  have a := Int.mul_le_mul_of_nonneg_right h2 (show (0 : Int) ≤ g by omega)
  have b := Int.mul_le_mul_of_nonneg_right h1 (show (0 : Int) ≤ g by omega)
  omega
theorem tdiv_bd {p : Int} (h1 : -4096000 ≤ p) (h2 : p ≤ 4096000) : -4096000 ≤ p.tdiv 256 ∧ p.tdiv 256 ≤ 4096000 := by
  rcases Int.le_total 0 p with h | h
  · rw [Int.tdiv_eq_ediv_of_nonneg h]; omega
  · have : p.tdiv 256 = -((-p).tdiv 256) := by rw [Int.neg_tdiv, Int.neg_neg]
    rw [this, Int.tdiv_eq_ediv_of_nonneg (by omega)]; omega

theorem clamp_any (n lo hi : Int) (w : World) : Calls Try.prog 39 #[.int .i64 n, .int .i64 lo, .int .i64 hi] w fun e w' => e = .returned (.int .i64 (clip n lo hi)) ∧ w = w' := by
  go_enter Try.func39, Try.ntmps39
  go_wp2
  all_goals
    go_ret
    exact ⟨ret_int (by unfold clip; first | omega | (split at * <;> omega)), rfl⟩
theorem l1Clip_any (n lo hi : Int) (w : World) (h : lo ≤ hi) : Calls Try.prog 37 #[.int .i64 n, .int .i64 lo, .int .i64 hi] w fun e w' => e = .returned (.int .i64 (clip n lo hi)) ∧ w = w' := by
  go_enter Try.func37, Try.ntmps37
  go_wp2
  all_goals
    go_ret
    exact ⟨ret_int (by unfold clip; first | omega | (split at * <;> omega)), rfl⟩
theorem times_any (g n : Int) (w : World) (h1 : -1000 ≤ n) (h2 : n ≤ 1000) (g1 : 1 ≤ g) (g2 : g ≤ 4096) : Calls Try.prog 40 #[.int .i64 g, .int .i64 n] w fun e w' => e = .returned (.int .i64 ((n * g).tdiv 256)) ∧ w = w' := by
  have hm := mul_bd h1 h2 g1 g2
  have ht := tdiv_bd hm.1 hm.2
  have e1 : wrap64 (n * g) = n * g := IntWalk.wrap64_in _ ⟨by omega, by omega⟩
  have e2 : wrap64 ((n * g).tdiv 256) = (n * g).tdiv 256 := IntWalk.wrap64_in _ ⟨by omega, by omega⟩
  have E1 := hid e1
  have E2 := hid e2
  clear e1 e2 hm ht
  go_enter Try.func40, Try.ntmps40
  go_wp2
  go_ret
  exact ⟨ret_int (by first | rfl | (rw [E1.out]; first | rfl | rw [E2.out])), rfl⟩

theorem applyGain_impl (g : Int) (A : Option Addr) (n c B : Nat) (xs : List Int) (w : World) (h : RI w B A n xs) (hB : B ≤ w.heap.size) (hn : n ≤ 1000000000) :
    Calls Try.prog 20 #[.int .i64 g, .slice A n c] w fun e w' => RetI 3 w e w' (applyGain g xs) := by
  have HL := hid (RI.len h)
  obtain ⟨i0, hi0, hz0, hz1, hz2⟩ := info_parts infoI
  by_cases hg1 : 1 ≤ g
  · by_cases hg2 : g ≤ 4096
    · have hsv := seqValid_impl A n c B xs w h hn
      cases hv : seqValid xs
      · rw [hv] at hsv
        have HV := hid hv
        clear hv
        go_enter Try.func20, Try.ntmps20
        go_wp2_with (first | (go_at_call 25; refine hsv.mono ?_; rintro e w1 ⟨rfl, rfl⟩) | go_in)
        go_ret
        rw [applyGain, if_neg (by rw [HV.out]; simp)]
        exact retI_nil _ _
      · rw [hv] at hsv
        have HA := hid (withinB_iff.1 hv).2
        have hl64 := (withinB_iff.1 hv).1
        have hn64 : n ≤ 64 := by have := HL.out; omega
        have HV := hid hv
        clear hv hl64
        have hmk := run_make0 (P := Try.prog) 22 3 (.int .i64 0) 8 Try.underlying22 infoI rfl .i64 .i64 n (by omega) (by omega)
        go_enter Try.func20, Try.ntmps20
        go_wp2_with (first | (go_at_call 25; refine hsv.mono ?_; rintro e w1 ⟨rfl, rfl⟩) | go_in)
        clear hsv
        go_loopw [6, 23] (fun v i wr => ∃ (k cc : Nat) (AA : Option Addr), k ≤ n ∧ i = .int .i64 k ∧ v = .slice AA k cc ∧ wr.ownsRow w.heap.size 3 1 (.slice AA k cc) k (((xs.take k).map (gain1 g)).map (Value.int .i64)) ∧ Below w.heap.size w wr)
          (fun _ i _ => n - (intOf i).toNat)
        case atStart => exact ⟨0, n, _, Nat.zero_le _, rfl, rfl, by simpa using own_made0 _ _ _ (Nat.le_refl _) (by unfold maxLen; omega), (Below.refl _ _).alloc (Nat.le_refl _) _⟩
        case round =>
          obtain ⟨k, cc, AA, hk, rfl, rfl, hown, hbel⟩ := hrel
          have hsz := hbel.size
          by_cases hlt : k < n
          · obtain ⟨p, o, x, rfl, hb, hx, hc⟩ := RI.at_ (RV.below h (hbel.mono hB)) hlt
            obtain ⟨hx1, hx2⟩ := allIn_get HA.out hx
            have HX := hid hx
            clear hx
            go_wp2_with (first | (go_at_call 40; refine (times_any g x _ hx1 hx2 hg1 hg2).mono ?_; rintro e w1 ⟨rfl, rfl⟩) | (go_at_call 39; refine (clamp_any _ _ _ _).mono ?_; rintro e w1 ⟨rfl, rfl⟩) | (at_builtin; refine wpList_push rfl _ _ _ rfl w.heap.size 3 i0 _ 8 Try.underlying22 hi0 hz0 hz1 hz2 rfl (by omega) _ _ AA k cc _ rfl hown rfl rfl (by omega) (by omega) ?_; intro g' cap w1 hown1 hgrow1 hlies1 hlt1))
            have hbel1 := below_push hbel hown (Nat.le_refl _) (by omega) hgrow1
            go_roundw
            case rel => exact ⟨k + 1, cap, _, by omega, by go_num, rfl, by rw [map_snoc HX.out, List.map_append]; exact hown1, hbel1⟩
            case measure => simp [intOf]; omega
          · have e : k = n := by omega
            subst e
            clear hlt
            go_wp2
            go_ret
            refine retI_of (n := k) ?_ hbel
            rw [applyGain, if_pos ⟨hg1, hg2, HV.out⟩]
            rwa [List.take_of_length_le (by rw [HL.out]; omega)] at hown
    · go_enter Try.func20, Try.ntmps20
      go_wp2
      go_ret
      rw [applyGain, if_neg (by omega)]
      exact retI_nil _ _
  · go_enter Try.func20, Try.ntmps20
    go_wp2
    go_ret
    rw [applyGain, if_neg (by omega)]
    exact retI_nil _ _
theorem applyGain_spec (g : Int) (A : Option Addr) (n c B : Nat) (xs : List Int) (w : World) (h : RI w B A n xs) (hB : B ≤ w.heap.size) (hn : n ≤ 1000000000) :
    Calls Try.prog 19 #[.int .i64 g, .slice A n c] w fun e w' => RetI 3 w e w' (applyGain g xs) := by
  have HL := hid (RI.len h)
  obtain ⟨i0, hi0, hz0, hz1, hz2⟩ := info_parts infoI
  have hsv := seqValid_spec A n c B xs
  cases hv : seqValid xs
  · rw [hv] at hsv
    have HV := hid hv
    clear hv
    go_enter Try.func19, Try.ntmps19
    go_wp2_with (first | (go_at_call 32; refine (hsv _ (RV.alloc h hB _) hn).mono ?_; rintro e w1 ⟨rfl, rfl⟩) | (go_at_call 36; refine (l1In_yes _ _ _ _ (by omega) (by omega)).mono ?_; rintro e w1 ⟨rfl, rfl⟩))
    go_ret
    rw [applyGain, if_neg (by rw [HV.out]; simp)]
    exact retI_lit0 _ _
  · rw [hv] at hsv
    have HA := hid (withinB_iff.1 hv).2
    have hl64 := (withinB_iff.1 hv).1
    have hn64 : n ≤ 64 := by have := HL.out; omega
    have HV := hid hv
    clear hv hl64
    by_cases hg1 : 1 ≤ g
    · by_cases hg2 : g ≤ 4096
      · go_enter Try.func19, Try.ntmps19
        go_wp2_with (first | (go_at_call 32; refine (hsv _ (RV.alloc h hB _) hn).mono ?_; rintro e w1 ⟨rfl, rfl⟩) | (go_at_call 36; refine (l1In_yes _ _ _ _ (by omega) (by omega)).mono ?_; rintro e w1 ⟨rfl, rfl⟩))
        clear hsv
        go_loopw [5, 6] (fun v i wr => ∃ (k cc : Nat) (AA : Option Addr), k ≤ n ∧ i = .int .i64 k ∧ v = .slice AA k cc ∧ wr.ownsRow w.heap.size 3 1 (.slice AA k cc) k (((xs.take k).map (gain1 g)).map (Value.int .i64)) ∧ Below w.heap.size w wr)
          (fun _ i _ => n - (intOf i).toNat)
        case atStart => exact ⟨0, 0, _, Nat.zero_le _, rfl, rfl, by simpa using own_lit0 _ (Nat.le_refl _), (Below.refl _ _).alloc (Nat.le_refl _) _⟩
        case round =>
          obtain ⟨k, cc, AA, hk, rfl, rfl, hown, hbel⟩ := hrel
          have hsz := hbel.size
          by_cases hlt : k < n
          · obtain ⟨p, o, x, rfl, hb, hx, hc⟩ := RI.at_ (RV.below h (hbel.mono hB)) hlt
            obtain ⟨hx1, hx2⟩ := allIn_get HA.out hx
            have HX := hid hx
            clear hx
            have hm := mul_bd hx1 hx2 hg1 hg2
            have ht := tdiv_bd hm.1 hm.2
            obtain ⟨hm1, hm2⟩ := hm
            obtain ⟨ht1, ht2⟩ := ht
            go_wp2_with (first | (go_at_call 37; refine (l1Clip_any _ _ _ _ (by omega)).mono ?_; rintro e w1 ⟨rfl, rfl⟩) | (at_builtin; refine wpList_push rfl _ _ _ rfl w.heap.size 3 i0 _ 8 Try.underlying22 hi0 hz0 hz1 hz2 rfl (by omega) _ _ AA k cc _ rfl hown rfl rfl (by omega) (by omega) ?_; intro g' cap w1 hown1 hgrow1 hlies1 hlt1))
            have hbel1 := below_push hbel hown (Nat.le_refl _) (by omega) hgrow1
            go_roundw
            case rel => exact ⟨k + 1, cap, _, by omega, by go_num, rfl, by rw [map_snoc HX.out, List.map_append]; exact hown1, hbel1⟩
            case measure => simp [intOf]; omega
          · have e : k = n := by omega
            subst e
            clear hlt
            go_wp2
            go_ret
            refine retI_of (n := k) ?_ hbel
            rw [applyGain, if_pos ⟨hg1, hg2, HV.out⟩]
            rwa [List.take_of_length_le (by rw [HL.out]; omega)] at hown
      · go_enter Try.func19, Try.ntmps19
        go_wp2_with (first | (go_at_call 32; refine (hsv _ (RV.alloc h hB _) hn).mono ?_; rintro e w1 ⟨rfl, rfl⟩) | (go_at_call 36; refine (l1In_no _ _ _ _ (by omega)).mono ?_; rintro e w1 ⟨rfl, rfl⟩))
        go_ret
        rw [applyGain, if_neg (by omega)]
        exact retI_lit0 _ _
    · go_enter Try.func19, Try.ntmps19
      go_wp2_with (first | (go_at_call 32; refine (hsv _ (RV.alloc h hB _) hn).mono ?_; rintro e w1 ⟨rfl, rfl⟩) | (go_at_call 36; refine (l1In_no _ _ _ _ (by omega)).mono ?_; rintro e w1 ⟨rfl, rfl⟩))
      go_ret
      rw [applyGain, if_neg (by omega)]
      exact retI_lit0 _ _

end Go.Proofs.Ytdcljfpgjifijaa
