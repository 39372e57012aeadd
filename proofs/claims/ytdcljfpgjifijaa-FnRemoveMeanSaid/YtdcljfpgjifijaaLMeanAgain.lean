/-
  FnMeanAgain, walked: removing the mean again changes nothing, if no number is at the end of the range.
-/
import Derived.Test.YtdcljfpgjifijaaDraws
import Derived.Test.YtdcljfpgjifijaaAlive
import Derived.Test.YtdcljfpgjifijaaStep
namespace Go.Proofs.Ytdcljfpgjifijaa
open Go.RowKit
set_option linter.unusedVariables false

/-! The plain law. -/
theorem sumF_acc : ∀ (xs : List Int) (a : Int), xs.foldl (fun p x => p + x) a = a + sumF xs := by
  intro xs
  induction xs with
  | nil => intro a; simp [sumF]
  | cons x xs ih =>
    intro a
    have h1 := ih (a + x)
    have h2 := ih (0 + x)
    simp only [sumF, List.foldl_cons]
    rw [h1, h2]; omega
theorem sumF_cons (x : Int) (xs : List Int) : sumF (x :: xs) = x + sumF xs := by
  have := sumF_acc xs (0 + x)
  simp only [sumF, List.foldl_cons] at this ⊢
  rw [this]; omega
theorem sumF_sub (t : Int) : ∀ xs : List Int, sumF (xs.map fun x => x - t) = sumF xs - xs.length * t := by
  intro xs
  induction xs with
  | nil => simp [sumF]
  | cons x xs ih =>
    rw [List.map_cons, sumF_cons, sumF_cons, ih, List.length_cons]
    have : ((xs.length + 1 : Nat) : Int) * t = xs.length * t + t := by rw [Int.natCast_add, Int.add_mul]; simp
    rw [this]; omega
theorem tmod_small (S : Int) (n : Nat) (hn : 0 < n) : (S - n * S.tdiv n).tdiv n = 0 := by
  have h1 : S - n * S.tdiv n = S.tmod n := by rw [Int.tmod_def]
  rw [h1]
  have h2 := Int.tmod_lt_of_pos S (show (0 : Int) < n by omega)
  rcases Int.le_total 0 S with h | h
  · have h3 := Int.tmod_nonneg (n : Int) h
    exact Int.tdiv_eq_zero_of_lt h3 h2
  · have h3 : S.tmod n = -((-S).tmod n) := by rw [Int.neg_tmod, Int.neg_neg]
    have h4 := Int.tmod_nonneg (n : Int) (show 0 ≤ -S by omega)
    have h5 := Int.tmod_lt_of_pos (-S) (show (0 : Int) < n by omega)
    rw [h3, Int.neg_tdiv, Int.tdiv_eq_zero_of_lt h4 h5]; rfl
theorem peak_ge_all : ∀ (xs : List Int) (p : Int), p ≤ xs.foldl (fun p x => max p (max x (-x))) p ∧ ∀ x ∈ xs, max x (-x) ≤ xs.foldl (fun p x => max p (max x (-x))) p := by
  intro xs
  induction xs with
  | nil => intro p; exact ⟨Int.le_refl _, fun x hx => by cases hx⟩
  | cons y ys ih =>
    intro p
    obtain ⟨h1, h2⟩ := ih (max p (max y (-y)))
    simp only [List.foldl_cons]
    refine ⟨by omega, fun x hx => ?_⟩
    rcases List.mem_cons.1 hx with rfl | hx
    · omega
    · exact h2 x hx
theorem clip_bd (x : Int) : -1000 ≤ clip x (-1000) 1000 ∧ clip x (-1000) 1000 ≤ 1000 := by unfold clip; omega
theorem removeMean_valid (xs : List Int) : seqValid (removeMean xs) = true := by
  unfold removeMean
  split
  · rename_i h
    refine withinB_iff.2 ⟨by rw [List.length_map]; exact (withinB_iff.1 h.1).1, fun y hy => ?_⟩
    obtain ⟨x, _, rfl⟩ := List.mem_map.1 hy
    exact clip_bd _
  · decide
theorem mean_again {xs : List Int} (h0 : removeMean xs ≠ []) (hp : peakOf (removeMean xs) ≠ 1000) : removeMean (removeMean xs) = removeMean xs := by
  have hc : seqValid xs = true ∧ xs ≠ [] := by
    unfold removeMean at h0
    split at h0
    · assumption
    · exact absurd rfl h0
  have hv := removeMean_valid xs
  have hlen : (removeMean xs).length = xs.length := by rw [removeMean, if_pos hc, List.length_map]
  have hn : 0 < xs.length := List.length_pos_iff.2 hc.2
  -- nothing was moved to the range
  have hlt : ∀ y ∈ removeMean xs, -1000 < y ∧ y < 1000 := fun y hy => by
    have h1 := (peak_ge_all (removeMean xs) 0).2 y hy
    have h2 : peakOf (removeMean xs) = (removeMean xs).foldl (fun p x => max p (max x (-x))) 0 := by rw [peakOf, if_pos hv]; rfl
    have h3 := (withinB_iff.1 hv).2
    have h4 := peakF_bd (b := 1000) (by omega) h3 0 (by omega) (by omega)
    rw [h2] at hp
    omega
  have hraw : removeMean xs = xs.map fun x => x - (sumF xs).tdiv xs.length := by
    rw [removeMean, if_pos hc] at hlt ⊢
    apply List.map_congr_left
    intro x hx
    have := hlt _ (List.mem_map.2 ⟨x, hx, rfl⟩)
    unfold mean1 clip at this ⊢
    omega
  have hs : sumF (removeMean xs) = sumF xs - xs.length * (sumF xs).tdiv xs.length := by rw [hraw, sumF_sub]
  have hz : (sumF (removeMean xs)).tdiv ((removeMean xs).length : Int) = 0 := by rw [hlen, hs]; exact tmod_small _ _ hn
  have hne : removeMean xs ≠ [] := h0
  rw [show removeMean (removeMean xs) = (removeMean xs).map (mean1 (sumF (removeMean xs)) (removeMean xs).length) from if_pos ⟨hv, hne⟩]
  have hid' : ∀ y ∈ removeMean xs, mean1 (sumF (removeMean xs)) (removeMean xs).length y = y := fun y hy => by
    have := hlt y hy
    unfold mean1 clip
    rw [hz]; omega
  exact (List.map_congr_left hid').trans (List.map_id' _)

set_option maxHeartbeats 1600000 in
theorem fnMeanAgain_walk {A : Option Addr} {n c : Nat} {bs : List Int} (w : World) (h : RV w w.heap.size A n (bs.map (Value.int .u8))) (wf : ∀ x ∈ bs, (Lit.int .u8 x).wf = true) (hl : n ≤ c) (hm : c ≤ maxLen) :
    Calls Try.prog 9 #[.slice A n c] w fun e w' => e = .returned (.bool true) ∧ Below w.heap.size w w' := by
  unfold maxLen at hm
  by_cases hn : n ≤ 1048576
  · have hd := drawRemoveMean_any A n c w.heap.size bs w h (Nat.le_refl _) hl hn (fun x hx => bounds_u8 (wf x hx))
    clear wf h
    have hbel : Below w.heap.size w w := Below.refl _ _
    go_enter Try.func9, Try.ntmps9
    go_wp2_with fail
    refine (hd).mono ?_
    rintro e w1 ⟨A1, n1, c1, xs, rfl, hown, hz1, hb⟩
    have nL := OwnI.ri hown
    have hbel_ := Below.next hbel hb; clear hbel; have hbel := hbel_; clear hbel_
    clear hb
    have rL := nL; clear nL
    clear hd hown
    have HN := hid (RI.len rL)
    obtain ⟨V, hV⟩ : ∃ V, V = removeMean xs := ⟨_, rfl⟩
    have HV := hid hV
    clear hV
    go_wp2_with fail
    refine (removeMean_impl _ _ _ _ xs _ rL (Nat.le_refl _) (by omega)).mono ?_
    rintro e w2 ⟨A2, n2, c2, rfl, hown, hb⟩
    have nX := OwnI.ri (by rw [← HV.out] at hown; exact hown)
    have hbel_ := Below.next hbel hb; clear hbel; have hbel := hbel_; clear hbel_
    have rL_ := RV.next rL hb; clear rL; have rL := rL_; clear rL_
    clear hb
    have rX := nX; clear nX
    clear hown
    go_wp2_with fail
    refine (removeMean_spec _ _ _ _ xs _ rL (Nat.le_refl _) (by omega)).mono ?_
    rintro e w3 ⟨A3, n3, c3, rfl, hown, hb⟩
    have nY := OwnI.ri (by rw [← HV.out] at hown; exact hown)
    have hbel_ := Below.next hbel hb; clear hbel; have hbel := hbel_; clear hbel_
    have rL_ := RV.next rL hb; clear rL; have rL := rL_; clear rL_
    have rX_ := RV.next rX hb; clear rX; have rX := rX_; clear rX_
    clear hb
    have rY := nY; clear nY
    clear hown
    have hz2 : n2 ≤ 2000 := by
      have h1 := RI.len rX
      have h2 := HV.out
      have h3 : V.length ≤ xs.length := by rw [h2]; unfold removeMean; split <;> simp
      have := HN.out
      omega
    go_wp2_with fail
    refine (sameInts_yes _ _ _ _ _ _ _ _ _ _ rX rY (by omega)).mono ?_
    rintro e w4 ⟨rfl, hs⟩
    have hb := Same.ofn hs
    have hbel_ := Below.next hbel hb; clear hbel; have hbel := hbel_; clear hbel_
    have rL_ := RV.next rL hb; clear rL; have rL := rL_; clear rL_
    have rX_ := RV.next rX hb; clear rX; have rX := rX_; clear rX_
    have rY_ := RV.next rY hb; clear rY; have rY := rY_; clear rY_
    clear hb
    clear hs
    rcases Nat.eq_zero_or_pos n2 with hz | hpos
    · have hb0 : ((n2 : Int) == 0) = true := by simp; omega
      clear hz
      go_wp2_with fail
      refine (alive_any _).mono ?_
      rintro e w5 ⟨rfl, hb⟩
      have hbel_ := Below.next hbel hb; clear hbel; have hbel := hbel_; clear hbel_
      have rL_ := RV.next rL hb; clear rL; have rL := rL_; clear rL_
      have rX_ := RV.next rX hb; clear rX; have rX := rX_; clear rX_
      have rY_ := RV.next rY hb; clear rY; have rY := rY_; clear rY_
      clear hb
      go_wp2
      go_ret
      exact ⟨rfl, hbel⟩
    · have hb0 : ((n2 : Int) == 0) = false := by simp; omega
      obtain ⟨p, hp⟩ : ∃ p, p = peakOf V := ⟨_, rfl⟩
      have HP := hid hp
      clear hp
      go_wp2_with fail
      refine (peakOf_impl _ _ _ _ V _ rX (by omega)).mono ?_
      rintro e w5 ⟨rfl, hs⟩
      have hb := Same.ofe hs
      have hbel_ := Below.next hbel hb; clear hbel; have hbel := hbel_; clear hbel_
      have rL_ := RV.next rL hb; clear rL; have rL := rL_; clear rL_
      have rX_ := RV.next rX hb; clear rX; have rX := rX_; clear rX_
      have rY_ := RV.next rY hb; clear rY; have rY := rY_; clear rY_
      clear hb
      clear hs
      rw [← HP.out]
      by_cases hp1 : p = 1000
      · have hpb : (p == 1000) = true := by simpa using hp1
        clear hp1
        go_wp2_with fail
        refine (alive_any _).mono ?_
        rintro e w6 ⟨rfl, hb⟩
        have hbel_ := Below.next hbel hb; clear hbel; have hbel := hbel_; clear hbel_
        have rL_ := RV.next rL hb; clear rL; have rL := rL_; clear rL_
        have rX_ := RV.next rX hb; clear rX; have rX := rX_; clear rX_
        have rY_ := RV.next rY hb; clear rY; have rY := rY_; clear rY_
        clear hb
        go_wp2
        go_ret
        exact ⟨rfl, hbel⟩
      · have hpb : (p == 1000) = false := by simpa using hp1
        have ha : removeMean V = V := by
          rw [HV.out]
          refine mean_again ?_ ?_
          · rw [← HV.out]; have := RI.len rX; rintro rfl; simp at this; omega
          · rw [← HV.out, ← HP.out]; exact hp1
        have HA := hid ha
        clear ha hp1
        go_wp2_with fail
        refine (removeMean_impl _ _ _ _ V _ rX (Nat.le_refl _) (by omega)).mono ?_
        rintro e w6 ⟨A4, n4, c4, rfl, hown, hb⟩
        have nZ := OwnI.ri (by rw [HA.out] at hown; exact hown)
        have hbel_ := Below.next hbel hb; clear hbel; have hbel := hbel_; clear hbel_
        have rL_ := RV.next rL hb; clear rL; have rL := rL_; clear rL_
        have rX_ := RV.next rX hb; clear rX; have rX := rX_; clear rX_
        have rY_ := RV.next rY hb; clear rY; have rY := rY_; clear rY_
        clear hb
        have rZ := nZ; clear nZ
        clear hown
        go_wp2_with fail
        refine (sameInts_yes _ _ _ _ _ _ _ _ _ _ rZ rX (by have := RI.len rZ; have := RI.len rX; omega)).mono ?_
        rintro e w7 ⟨rfl, hs⟩
        have hb := Same.ofn hs
        have hbel_ := Below.next hbel hb; clear hbel; have hbel := hbel_; clear hbel_
        have rL_ := RV.next rL hb; clear rL; have rL := rL_; clear rL_
        have rX_ := RV.next rX hb; clear rX; have rX := rX_; clear rX_
        have rY_ := RV.next rY hb; clear rY; have rY := rY_; clear rY_
        have rZ_ := RV.next rZ hb; clear rZ; have rZ := rZ_; clear rZ_
        clear hb
        clear hs
        go_wp2
        go_ret
        exact ⟨rfl, hbel⟩
  · go_enter Try.func9, Try.ntmps9
    go_wp2
    go_ret
    exact ⟨rfl, Below.refl _ _⟩
end Go.Proofs.Ytdcljfpgjifijaa
