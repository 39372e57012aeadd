/-
  RemoveMean and GainStep, the program's and the reference's, walked.
-/
import Derived.Test.YtdcljfpgjifijaaGain
namespace Go.Proofs.Ytdcljfpgjifijaa
open Go.RowKit
set_option linter.unusedVariables false

def sumF (xs : List Int) : Int := xs.foldl (fun p x => p + x) 0
def mean1 (t n x : Int) : Int := clip (x - t.tdiv n) (-1000) 1000
def removeMean (xs : List Int) : List Int := if seqValid xs = true ∧ xs ≠ [] then xs.map (mean1 (sumF xs) xs.length) else []
theorem sumF_snoc {xs : List Int} {k : Nat} {x : Int} (hx : xs[k]? = some x) : sumF (xs.take (k + 1)) = sumF (xs.take k) + x := by
  rw [take_snoc _ _ _ hx]
  simp [sumF, List.foldl_append]
theorem tdiv_bd2 {p : Int} {n : Nat} (h1 : -64000 ≤ p) (h2 : p ≤ 64000) (hn : 0 < n) : -64000 ≤ p.tdiv (n : Int) ∧ p.tdiv (n : Int) ≤ 64000 := by
  rcases Int.le_total 0 p with h | h
  · rw [Int.tdiv_eq_ediv_of_nonneg h]
    have a := Int.ediv_le_self (n : Int) h
    have b := Int.ediv_nonneg h (show (0 : Int) ≤ n by omega)
    omega
  · have e : p.tdiv (n : Int) = -((-p).tdiv (n : Int)) := by rw [Int.neg_tdiv, Int.neg_neg]
    rw [e, Int.tdiv_eq_ediv_of_nonneg (by omega)]
    have a := Int.ediv_le_self (n : Int) (show 0 ≤ -p by omega)
    have b := Int.ediv_nonneg (show 0 ≤ -p by omega) (show (0 : Int) ≤ n by omega)
    omega

theorem removeMean_impl (A : Option Addr) (n c B : Nat) (xs : List Int) (w : World) (h : RI w B A n xs) (hB : B ≤ w.heap.size) (hn : n ≤ 1000000000) :
    Calls Try.prog 27 #[.slice A n c] w fun e w' => RetI 3 w e w' (removeMean xs) := by
  have HL := hid (RI.len h)
  obtain ⟨i0, hi0, hz0, hz1, hz2⟩ := info_parts infoI
  have hsv := seqValid_impl A n c B xs w h hn
  cases hv : seqValid xs
  · rw [hv] at hsv
    have HV := hid hv
    clear hv
    go_enter Try.func27, Try.ntmps27
    go_wp2_with (first | (go_at_call 25; refine hsv.mono ?_; rintro e w1 ⟨rfl, rfl⟩))
    go_ret
    rw [removeMean, if_neg (by rw [HV.out]; simp)]
    exact retI_nil _ _
  · rw [hv] at hsv
    have HA := hid (withinB_iff.1 hv).2
    have hl64 := (withinB_iff.1 hv).1
    have hn64 : n ≤ 64 := by have := HL.out; omega
    have HV := hid hv
    clear hv hl64
    rcases Nat.eq_zero_or_pos n with rfl | hpos
    · have h0 : xs = [] := List.eq_nil_of_length_eq_zero HL.out
      have H0 := hid h0
      clear h0
      go_enter Try.func27, Try.ntmps27
      go_wp2_with (first | (go_at_call 25; refine hsv.mono ?_; rintro e w1 ⟨rfl, rfl⟩))
      go_ret
      rw [removeMean, if_neg (by rw [H0.out]; simp)]
      exact retI_nil _ _
    · have hne : ((n : Int) == 0) = false := by simp; omega
      have hmk := run_make0 (P := Try.prog) 22 3 (.int .i64 0) 8 Try.underlying22 infoI rfl .i64 .i64 n (by omega) (by omega)
      go_enter Try.func27, Try.ntmps27
      go_wp2_with (first | (go_at_call 25; refine hsv.mono ?_; rintro e w1 ⟨rfl, rfl⟩))
      clear hsv
      go_loop [3, 19] (fun p i => ∃ (k : Nat) (q : Int), k ≤ n ∧ i = .int .i64 k ∧ p = .int .i64 q ∧ -(1000 * (k : Int)) ≤ q ∧ q ≤ 1000 * k ∧ Hid (q = sumF (xs.take k))) (fun _ i => n - (intOf i).toNat)
      case atStart => exact ⟨0, 0, Nat.zero_le _, rfl, rfl, by omega, by omega, hid (by simp [sumF])⟩
      case round =>
        obtain ⟨k, q, hk, rfl, rfl, hq0, hq1, HQ⟩ := hrel
        by_cases hlt : k < n
        · obtain ⟨p, o, x, rfl, hb, hx, hc⟩ := RI.at_ h hlt
          obtain ⟨hx1, hx2⟩ := allIn_get HA.out hx
          have HX := hid hx
          clear hx
          go_wp2
          go_round
          case rel => exact ⟨k + 1, q + x, by omega, by go_num, rfl, by omega, by omega, hid (by rw [sumF_snoc HX.out, ← HQ.out])⟩
          case measure => simp [intOf]; omega
        · have e : k = n := by omega
          subst e
          clear hlt
          have HQ' : Hid (q = sumF xs) := hid (by have := HQ.out; rwa [List.take_of_length_le (by rw [HL.out]; omega)] at this)
          clear HQ
          obtain ⟨hd1, hd2⟩ := tdiv_bd2 (p := q) (n := k) (by omega) (by omega) hpos
          go_wp2
          go_loopw [6, 32] (fun v i wr => ∃ (j cc : Nat) (AA : Option Addr), j ≤ k ∧ i = .int .i64 j ∧ v = .slice AA j cc ∧ wr.ownsRow w.heap.size 3 1 (.slice AA j cc) j (((xs.take j).map (mean1 q k)).map (Value.int .i64)) ∧ Below w.heap.size w wr)
            (fun _ i _ => k - (intOf i).toNat)
          case atStart => exact ⟨0, k, _, Nat.zero_le _, rfl, rfl, by simpa using own_made0 _ _ _ (Nat.le_refl _) (by unfold maxLen; omega), (Below.refl _ _).alloc (Nat.le_refl _) _⟩
          case round =>
            obtain ⟨j, cc, AA, hj, rfl, rfl, hown, hbel⟩ := hrel
            have hsz := hbel.size
            by_cases hlt : j < k
            · obtain ⟨p, o, x, rfl, hb, hx, hc⟩ := RI.at_ (RV.below h (hbel.mono hB)) hlt
              obtain ⟨hx1, hx2⟩ := allIn_get HA.out hx
              have HX := hid hx
              clear hx
              go_wp2_with (first | (go_at_call 39; refine (clamp_any _ _ _ _).mono ?_; rintro e w1 ⟨rfl, rfl⟩) | (at_builtin; refine wpList_push rfl _ _ _ rfl w.heap.size 3 i0 _ 8 Try.underlying22 hi0 hz0 hz1 hz2 rfl (by omega) _ _ AA j cc _ rfl hown rfl rfl (by omega) (by omega) ?_; intro g' cap w1 hown1 hgrow1 hlies1 hlt1))
              have hbel1 := below_push hbel hown (Nat.le_refl _) (by omega) hgrow1
              go_roundw
              case rel => exact ⟨j + 1, cap, _, by omega, by go_num, rfl, by rw [map_snoc HX.out, List.map_append]; exact hown1, hbel1⟩
              case measure => simp [intOf]; omega
            · have e : j = k := by omega
              subst e
              clear hlt
              go_wp2
              go_ret
              refine retI_of (n := j) ?_ hbel
              rw [removeMean, if_pos ⟨HV.out, by have := HL.out; rintro rfl; simp at this; omega⟩]
              rw [List.take_of_length_le (by rw [HL.out]; omega), HQ'.out] at hown
              rwa [HL.out]

set_option maxHeartbeats 800000 in
theorem removeMean_spec (A : Option Addr) (n c B : Nat) (xs : List Int) (w : World) (h : RI w B A n xs) (hB : B ≤ w.heap.size) (hn : n ≤ 1000000000) :
    Calls Try.prog 26 #[.slice A n c] w fun e w' => RetI 3 w e w' (removeMean xs) := by
  have HL := hid (RI.len h)
  obtain ⟨i0, hi0, hz0, hz1, hz2⟩ := info_parts infoI
  have hsv := seqValid_spec A n c B xs
  cases hv : seqValid xs
  · rw [hv] at hsv
    have HV := hid hv
    clear hv
    go_enter Try.func26, Try.ntmps26
    go_wp2_with (first | (go_at_call 32; refine (hsv _ (RV.alloc h hB _) hn).mono ?_; rintro e w1 ⟨rfl, rfl⟩))
    go_ret
    rw [removeMean, if_neg (by rw [HV.out]; simp)]
    exact retI_lit0 _ _
  · rw [hv] at hsv
    have HA := hid (withinB_iff.1 hv).2
    have hl64 := (withinB_iff.1 hv).1
    have hn64 : n ≤ 64 := by have := HL.out; omega
    have HV := hid hv
    clear hv hl64
    rcases Nat.eq_zero_or_pos n with rfl | hpos
    · have h0 : xs = [] := List.eq_nil_of_length_eq_zero HL.out
      have H0 := hid h0
      clear h0
      go_enter Try.func26, Try.ntmps26
      go_wp2_with (first | (go_at_call 32; refine (hsv _ (RV.alloc h hB _) hn).mono ?_; rintro e w1 ⟨rfl, rfl⟩))
      go_ret
      rw [removeMean, if_neg (by rw [H0.out]; simp)]
      exact retI_lit0 _ _
    · have hne : ((n : Int) == 0) = false := by simp; omega
      go_enter Try.func26, Try.ntmps26
      go_wp2_with (first | (go_at_call 32; refine (hsv _ (RV.alloc h hB _) hn).mono ?_; rintro e w1 ⟨rfl, rfl⟩))
      clear hsv
      have h' : RI (w.alloc (.cells #[] 3)) B A n xs := RV.alloc h hB _
      go_loop [4, 5] (fun p i => ∃ (k : Nat) (q : Int), k ≤ n ∧ i = .int .i64 k ∧ p = .int .i64 q ∧ -(1000 * (k : Int)) ≤ q ∧ q ≤ 1000 * k ∧ Hid (q = sumF (xs.take k))) (fun _ i => n - (intOf i).toNat)
      case atStart => exact ⟨0, 0, Nat.zero_le _, rfl, rfl, by omega, by omega, hid (by simp [sumF])⟩
      case round =>
        obtain ⟨k, q, hk, rfl, rfl, hq0, hq1, HQ⟩ := hrel
        by_cases hlt : k < n
        · obtain ⟨p, o, x, rfl, hb, hx, hc⟩ := RI.at_ h' hlt
          obtain ⟨hx1, hx2⟩ := allIn_get HA.out hx
          have HX := hid hx
          clear hx
          go_wp2
          go_round
          case rel => exact ⟨k + 1, q + x, by omega, by go_num, rfl, by omega, by omega, hid (by rw [sumF_snoc HX.out, ← HQ.out])⟩
          case measure => simp [intOf]; omega
        · have e : k = n := by omega
          subst e
          clear hlt
          have HQ' : Hid (q = sumF xs) := hid (by have := HQ.out; rwa [List.take_of_length_le (by rw [HL.out]; omega)] at this)
          clear HQ
          obtain ⟨hd1, hd2⟩ := tdiv_bd2 (p := q) (n := k) (by omega) (by omega) hpos
          go_wp2
          go_loopw [3, 6] (fun v i wr => ∃ (j cc : Nat) (AA : Option Addr), j ≤ k ∧ i = .int .i64 j ∧ v = .slice AA j cc ∧ wr.ownsRow w.heap.size 3 1 (.slice AA j cc) j (((xs.take j).map (mean1 q k)).map (Value.int .i64)) ∧ Below w.heap.size w wr)
            (fun _ i _ => k - (intOf i).toNat)
          case atStart => exact ⟨0, 0, _, Nat.zero_le _, rfl, rfl, by simpa using own_lit0 _ (Nat.le_refl _), (Below.refl _ _).alloc (Nat.le_refl _) _⟩
          case round =>
            obtain ⟨j, cc, AA, hj, rfl, rfl, hown, hbel⟩ := hrel
            have hsz := hbel.size
            by_cases hlt : j < k
            · obtain ⟨p, o, x, rfl, hb, hx, hc⟩ := RI.at_ (RV.below h (hbel.mono hB)) hlt
              obtain ⟨hx1, hx2⟩ := allIn_get HA.out hx
              have HX := hid hx
              clear hx h'
              have hj0 : (0 : Int) ≤ (j : Int) := by omega
              have hjk : (j : Int) < (k : Int) := by omega
              have hw1 : IntKind.i64.wrap (q.tdiv (k : Int)) = q.tdiv (k : Int) := IntWalk.i64_in _ (by omega)
              have hw2 : IntKind.i64.wrap (x - q.tdiv (k : Int)) = x - q.tdiv (k : Int) := IntWalk.i64_in _ (by omega)
              have hk1 : ¬ k = 0 := by omega
              have hown' := hown.alloc (.cells #[.int .i64 (clip (x - q.tdiv (k : Int)) (-1000) 1000)] 3)
              have hcell' := cell_new0 wr (.int .i64 (clip (x - q.tdiv (k : Int)) (-1000) 1000)) 3
              have hcA : (wr.alloc (.cells #[.int .i64 (clip (x - q.tdiv (k : Int)) (-1000) 1000)] 3)).cell? ⟨p, o + j, none⟩ = some (.int .i64 x) := (World.cell?_alloc_lt wr _ _ (by show p < _; omega)).trans hc
              have hneA : some (⟨p, o + j, none⟩ : Addr).block ≠ Value.ownBlock (.slice AA j cc) := fun e => by have := (hown.lt p e.symm).1; omega
              have hj9 : j ≤ 1000000000 := by omega
              have hsz' : w.heap.size ≤ (wr.alloc (.cells #[.int .i64 (clip (x - q.tdiv (k : Int)) (-1000) 1000)] 3)).heap.size := by simp; omega
              go_wp2
              go_region_held3 (fun w' => w'.cell? ⟨p, o + j, none⟩ = some (.int .i64 x)) (first | go_keep | exact hgrow1.cell hcA hneA) (first | (go_at_call 37; refine (l1Clip_any _ _ _ _ (by omega)).mono ?_; rintro e w1 ⟨rfl, rfl⟩) | ((refine step_push (o := ⟨some 47, _, _, _, _, _⟩) rfl (.tmp 35) (.tmp 46) 22 (by rfl) w.heap.size 3 i0 (.int .i64 0) 8 Try.underlying22 hi0 hz0 hz1 hz2 rfl (by decide) (.int .i64 (clip (x - q.tdiv (k : Int)) (-1000) 1000)) wr.heap.size AA j cc (((xs.take j).map (mean1 q k)).map (Value.int .i64)) (by rfl) hown' (by rfl) hcell' rfl hj9 hsz' ?_; intro g' cap w1 hown1 hgrow1 hlies1 hlt1)))
              have hbel1 := below_push (hbel.alloc (by omega) _) hown' (Nat.le_refl _) hsz' (grown_undrew hgrow1)
              go_wp2
              go_roundw
              case rel => exact ⟨j + 1, cap, _, by omega, by go_num, rfl, by rw [map_snoc HX.out, List.map_append]; exact hown1, hbel1⟩
              case measure => simp [intOf]; omega
            · have e : j = k := by omega
              subst e
              clear hlt
              go_wp2
              go_ret
              refine retI_of (n := j) ?_ hbel
              rw [removeMean, if_pos ⟨HV.out, by have := HL.out; rintro rfl; simp at this; omega⟩]
              rw [List.take_of_length_le (by rw [HL.out]; omega), HQ'.out] at hown
              rwa [HL.out]
end Go.Proofs.Ytdcljfpgjifijaa
