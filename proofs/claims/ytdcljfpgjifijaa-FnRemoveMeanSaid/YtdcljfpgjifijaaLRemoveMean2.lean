/-
  FnRemoveMean, walked: the sum of the result is small if no number had to be moved to the range; equal numbers become 0.
-/
import Derived.Test.YtdcljfpgjifijaaLPeakOf
import Derived.Test.YtdcljfpgjifijaaLMeanAgain
import Derived.Deep.RegionHeld3
import Derived.Deep.RegionLaw
import Derived.Test.YtdcljfpgjifijaaReg
import Derived.Test.YtdcljfpgjifijaaIs
namespace Go.Proofs.Ytdcljfpgjifijaa
open Go.RowKit
set_option linter.unusedVariables false

/-! The plain law. -/
def edgeB (xs : List Int) : Bool := xs.any fun x => absI x == 1000
theorem edgeB_snoc {xs : List Int} {k : Nat} {x : Int} (hx : xs[k]? = some x) : edgeB (xs.take (k + 1)) = (edgeB (xs.take k) || (absI x == 1000)) := by
  unfold edgeB
  rw [take_snoc _ _ _ hx, List.any_append]
  simp
theorem removeMean_len {xs : List Int} (h : removeMean xs ≠ []) : (removeMean xs).length = xs.length ∧ seqValid xs = true ∧ xs ≠ [] := by
  unfold removeMean at h ⊢
  split at h
  · rename_i hc; rw [if_pos hc]; exact ⟨by simp, hc.1, hc.2⟩
  · exact absurd rfl h
theorem sum_small {xs : List Int} (h : removeMean xs ≠ []) (he : edgeB (removeMean xs) = false) : absI (sumF (removeMean xs)) < (removeMean xs).length := by
  obtain ⟨hlen, hv, hne⟩ := removeMean_len h
  have hlt : ∀ y ∈ removeMean xs, -1000 < y ∧ y < 1000 := fun y hy => by
    have h1 := (withinB_iff.1 (removeMean_valid xs)).2 y hy
    have h2 : (absI y == 1000) = false := by
      cases hb : (absI y == 1000)
      · rfl
      · have : edgeB (removeMean xs) = true := List.any_eq_true.2 ⟨y, hy, hb⟩
        rw [this] at he; cases he
    have h3 : absI y ≠ 1000 := by simpa using h2
    unfold absI at h3
    omega
  have hraw : removeMean xs = xs.map fun x => x - (sumF xs).tdiv xs.length := by
    rw [removeMean, if_pos ⟨hv, hne⟩] at hlt ⊢
    apply List.map_congr_left
    intro x hx
    have := hlt _ (List.mem_map.2 ⟨x, hx, rfl⟩)
    unfold mean1 clip at this ⊢
    omega
  have hn : 0 < xs.length := List.length_pos_iff.2 hne
  rw [hlen, hraw, sumF_sub]
  have h1 : sumF xs - xs.length * (sumF xs).tdiv xs.length = (sumF xs).tmod xs.length := by rw [Int.tmod_def]
  rw [h1]
  have h2 := Int.tmod_lt_of_pos (sumF xs) (show (0 : Int) < xs.length by omega)
  unfold absI
  rcases Int.le_total 0 (sumF xs) with h | h
  · have h3 := Int.tmod_nonneg (xs.length : Int) h
    omega
  · have h3 : (sumF xs).tmod xs.length = -((-sumF xs).tmod xs.length) := by rw [Int.neg_tmod, Int.neg_neg]
    have h4 := Int.tmod_nonneg (xs.length : Int) (show 0 ≤ -sumF xs by omega)
    have h5 := Int.tmod_lt_of_pos (-sumF xs) (show (0 : Int) < xs.length by omega)
    omega
theorem sumF_replicate (a : Int) (n : Nat) : sumF (List.replicate n a) = n * a := by
  induction n with
  | zero => simp [sumF]
  | succ n ih => rw [List.replicate_succ, sumF_cons, ih, Int.natCast_add, Int.add_mul]; simp; omega
theorem removeMean_flat {a : Int} {n : Nat} (h1 : -1000 ≤ a) (h2 : a ≤ 1000) (hn : 0 < n) (hm : n ≤ 64) : removeMean (List.replicate n a) = List.replicate n 0 := by
  have hv : seqValid (List.replicate n a) = true := withinB_iff.2 ⟨by simp; omega, fun x hx => by rw [List.eq_of_mem_replicate hx]; omega⟩
  rw [removeMean, if_pos ⟨hv, by intro h; have := congrArg List.length h; simp at this; omega⟩, sumF_replicate, List.length_replicate]
  have : ((n : Int) * a).tdiv n = a := Int.mul_tdiv_cancel_left a (by omega)
  rw [List.map_replicate]
  congr 1
  unfold mean1 clip
  rw [this]
  omega

theorem seqValid_yes (A : Option Addr) (n c B : Nat) (xs : List Int) (w : World) (h : RI w B A n xs) (hn : n ≤ 1000000000) (hv : seqValid xs = true) :
    Calls Try.prog 25 #[.slice A n c] w fun e w' => e = .returned (.bool true) ∧ w = w' :=
  (seqValid_impl A n c B xs w h hn).mono fun _ _ ⟨he, hw⟩ => ⟨he.trans (ret_bool hv), hw⟩
theorem removeMean_zero (A : Option Addr) (n c B : Nat) (a : Int) (w : World) (h : RI w B A n (List.replicate n a)) (hB : B ≤ w.heap.size) (hn : n ≤ 1000000000) (hr : removeMean (List.replicate n a) = List.replicate n 0) :
    Calls Try.prog 27 #[.slice A n c] w fun e w' => RetI 3 w e w' (List.replicate n 0) :=
  (removeMean_impl A n c B _ w h hB hn).mono fun _ _ hh => by rwa [hr] at hh
theorem sameInts_end (A : Option Addr) (n c B g n' c' t : Nat) (m : Nat) (w : World) (h : RI w B A n (List.replicate m 0)) (h' : Blk w g t (madeCells #[.int .i64 0] m)) (hn : m ≤ 1000000000) :
    Calls Try.prog 24 #[.slice A n c, .slice (some ⟨g, 0, none⟩) m m] w fun e w' => e = .returned (.bool true) ∧ Below w.heap.size w w' := by
  have e : (madeCells #[Value.int .i64 0] m) = ((List.replicate m (0 : Int)).map (Value.int .i64)).toArray := by
    apply Array.toList_inj.1
    rw [toList_madeCells_one]
    simp
  rw [e] at h'
  exact (sameInts_yes _ _ _ _ _ _ _ _ _ _ h (h'.rv (n := m) (by simp)) (by have := RI.len h; simp at this; omega)).mono fun _ _ ⟨he, hw⟩ => ⟨he, Same.ofn hw⟩

set_option maxHeartbeats 3200000 in
theorem fnRemoveMean_walk {A : Option Addr} {n c : Nat} {bs : List Int} (w : World) (h : RV w w.heap.size A n (bs.map (Value.int .u8))) (wf : ∀ x ∈ bs, (Lit.int .u8 x).wf = true) (hl : n ≤ c) (hm : c ≤ maxLen) :
    Calls Try.prog 8 #[.slice A n c] w fun e w' => e = .returned (.bool true) ∧ Below w.heap.size w w' := by
  unfold maxLen at hm
  by_cases hn : n ≤ 1048576
  · have hd := drawRemoveMean_any A n c w.heap.size bs w h (Nat.le_refl _) hl hn (fun x hx => bounds_u8 (wf x hx))
    obtain ⟨i0, hi0, hz0, hz1, hz2⟩ := info_parts infoI
    clear wf h
    have hbel : Below w.heap.size w w := Below.refl _ _
    go_enter Try.func8, Try.ntmps8
    go_wp2_with fail
    refine (hd).mono ?_
    rintro e w1 ⟨A1, n1, c1, xs, rfl, hown, hzL, hb⟩
    have nL := OwnI.ri hown
    have hbel_ := Below.next hbel hb; clear hbel; have hbel := hbel_; clear hbel_
    clear hb
    have rL := nL; clear nL
    clear hd hown
    have HN := hid (RI.len rL)
    obtain ⟨V, hV⟩ : ∃ V, V = removeMean xs := ⟨_, rfl⟩
    have HV := hid hV
    clear hV
    go_wp2_with fail
    refine (removeMean_impl _ _ _ _ xs _ rL (Nat.le_refl _) (by omega)).mono ?_
    rintro e w2 ⟨A2, n2, c2, rfl, hown, hb⟩
    have nX := OwnI.ri (by rw [← HV.out] at hown; exact hown)
    have hbel_ := Below.next hbel hb; clear hbel; have hbel := hbel_; clear hbel_
    have rL_ := RV.next rL hb; clear rL; have rL := rL_; clear rL_
    clear hb
    have rX := nX; clear nX
    clear hown
    go_wp2_with fail
    refine (removeMean_spec _ _ _ _ xs _ rL (Nat.le_refl _) (by omega)).mono ?_
    rintro e w3 ⟨A3, n3, c3, rfl, hown, hb⟩
    have nY := OwnI.ri (by rw [← HV.out] at hown; exact hown)
    have hbel_ := Below.next hbel hb; clear hbel; have hbel := hbel_; clear hbel_
    have rL_ := RV.next rL hb; clear rL; have rL := rL_; clear rL_
    have rX_ := RV.next rX hb; clear rX; have rX := rX_; clear rX_
    clear hb
    have rY := nY; clear nY
    clear hown
    have hzX : n2 ≤ 2000 := by
      have h1 := RI.len rX
      have h2 := HV.out
      have h3 : V.length ≤ xs.length := by rw [h2]; unfold removeMean; split <;> simp
      have := HN.out
      omega
    go_wp2_with fail
    refine (sameInts_yes _ _ _ _ _ _ _ _ _ _ rX rY (by omega)).mono ?_
    rintro e w4 ⟨rfl, hs⟩
    have hb := Same.ofn hs
    have hbel_ := Below.next hbel hb; clear hbel; have hbel := hbel_; clear hbel_
    have rL_ := RV.next rL hb; clear rL; have rL := rL_; clear rL_
    have rX_ := RV.next rX hb; clear rX; have rX := rX_; clear rX_
    have rY_ := RV.next rY hb; clear rY; have rY := rY_; clear rY_
    clear hb
    clear hs
    rcases Nat.eq_zero_or_pos n2 with hz | hpos
    · have hb0 : ((n2 : Int) == 0) = true := by simp; omega
      clear hz
      go_wp2_with fail
      refine (alive_any _).mono ?_
      rintro e w5 ⟨rfl, hb⟩
      have hbel_ := Below.next hbel hb; clear hbel; have hbel := hbel_; clear hbel_
      have rL_ := RV.next rL hb; clear rL; have rL := rL_; clear rL_
      have rX_ := RV.next rX hb; clear rX; have rX := rX_; clear rX_
      have rY_ := RV.next rY hb; clear rY; have rY := rY_; clear rY_
      clear hb
      go_wp2
      go_ret
      exact ⟨rfl, hbel⟩
    · have hb0 : ((n2 : Int) == 0) = false := by simp; omega
      have hVne : removeMean xs ≠ [] := by rw [← HV.out]; have := RI.len rX; rintro rfl; simp at this; omega
      obtain ⟨hlen, hvx, hxne⟩ := removeMean_len hVne
      have hVv : seqValid V = true := by rw [HV.out]; exact removeMean_valid xs
      have hn12 : n1 = n2 := by rw [← HN.out, ← hlen, ← HV.out]; exact RI.len rX
      subst hn12
      have hn64 : n1 ≤ 64 := by have := (withinB_iff.1 hvx).1; have := HN.out; omega
      have HA := hid (withinB_iff.1 hVv).2
      obtain ⟨pb, po, a, hAe, hpb, ha0, hca⟩ := RI.at_ rL hpos
      obtain ⟨a0, a1⟩ := allIn_get (withinB_iff.1 hvx).2 ha0
      have HVN := hid (RI.len rX)
      have HSM := hid (fun he => sum_small hVne he)
      have HRP := hid (removeMean_flat a0 a1 hpos hn64)
      subst hAe
      have hca0 : w4.cell? ⟨pb, po, none⟩ = some (.int .i64 a) := by simpa using hca
      clear hlen hvx hxne hca ha0 hVne rY
      have HVV := hid hVv
      clear hVv
      go_wp2
      go_loopw [5, 6, 7, 8] (fun s e f k wr => ∃ (j : Nat) (q : Int) (b : Bool) (cc : Nat) (AA : Option Addr), k = .int .i64 j ∧ j ≤ n1 ∧ s = .int .i64 q ∧ -(1000 * (j : Int)) ≤ q ∧ q ≤ 1000 * j ∧ Hid (q = sumF (V.take j)) ∧ e = .bool b ∧ Hid (b = edgeB (V.take j)) ∧
          f = .slice AA j cc ∧ wr.ownsRow w4.heap.size 3 1 (.slice AA j cc) j ((List.replicate j a).map (Value.int .i64)) ∧ Below w4.heap.size w4 wr)
        (fun _ _ _ k _ => n1 - (intOf k).toNat)
      case atStart => exact ⟨0, 0, false, 0, _, rfl, Nat.zero_le _, rfl, by omega, by omega, hid (by simp [sumF]), rfl, hid (by simp [edgeB]), rfl, own_lit0 _ (Nat.le_refl _), (Below.refl _ _).alloc (Nat.le_refl _) _⟩
      case round =>
        obtain ⟨j, q, b, cc, AA, rfl, hj, rfl, hq0, hq1, HQ, rfl, HE, rfl, hown, hbr⟩ := hrel
        have hsz := hbr.size
        by_cases hlt : j < n1
        · obtain ⟨pb', po', x, rfl, hpb', hx, hc⟩ := RI.at_ (RV.below rX hbr) hlt
          obtain ⟨x0, x1⟩ := allIn_get HA.out hx
          have hcr : wr.cell? ⟨pb, po, none⟩ = some (.int .i64 a) := (hbr.cell (p := ⟨pb, po, none⟩) hpb).trans hca0
          have HQ' : Hid (q + x = sumF (V.take (j + 1))) := hid (by rw [sumF_snoc hx, HQ.out])
          have HE' : Hid ((b || (absI x == 1000)) = edgeB (V.take (j + 1))) := hid (by rw [edgeB_snoc hx, HE.out])
          clear hx HQ HE
          cases b
          · cases hbp : (absI x == 1000)
            all_goals
              rw [hbp] at HE'
              go_wp2_with (first | (go_at_call 18; refine (abs_any x _ (by omega) (by omega)).mono ?_; rintro e w3 ⟨rfl, rfl⟩) | (at_builtin; refine wpList_push rfl _ _ _ rfl w4.heap.size 3 i0 _ 8 Try.underlying22 hi0 hz0 hz1 hz2 rfl (by omega) _ _ AA j cc _ rfl hown rfl rfl (by omega) (by omega) ?_; intro g' cap wz hown1 hgrow1 hlies1 hlt1))
              have hbr1 := below_push hbr hown (Nat.le_refl _) (by omega) hgrow1
              go_roundw
              case rel => exact ⟨j + 1, q + x, _, cap, _, by go_num, by omega, rfl, by omega, by omega, HQ', rfl, HE', rfl, by rw [List.replicate_succ', List.map_append]; exact hown1, hbr1⟩
              case measure => simp [intOf]; omega
          · go_wp2_with (first | (go_at_call 18; refine (abs_any x _ (by omega) (by omega)).mono ?_; rintro e w3 ⟨rfl, rfl⟩) | (at_builtin; refine wpList_push rfl _ _ _ rfl w4.heap.size 3 i0 _ 8 Try.underlying22 hi0 hz0 hz1 hz2 rfl (by omega) _ _ AA j cc _ rfl hown rfl rfl (by omega) (by omega) ?_; intro g' cap wz hown1 hgrow1 hlies1 hlt1))
            have hbr1 := below_push hbr hown (Nat.le_refl _) (by omega) hgrow1
            go_roundw
            case rel => exact ⟨j + 1, q + x, true, cap, _, by go_num, by omega, rfl, by omega, by omega, HQ', rfl, by simpa using HE', rfl, by rw [List.replicate_succ', List.map_append]; exact hown1, hbr1⟩
            case measure => simp [intOf]; omega
        · have e : j = n1 := by omega
          subst e
          clear hlt
          have hb6 := Below.next hbel hbr
          have rX6 := RV.next rX hbr
          obtain ⟨AF, cF, hFv, hF⟩ := ownV_of hown
          have rF := RV.more (OwnI.ri hF) (Nat.le_refl _)
          injection hFv with hF1 _ hF2
          subst hF1 hF2
          have hVt : V.take j = V := List.take_of_length_le (by rw [HVN.out]; omega)
          have HS : Hid (b = true ∨ absI q < j) := hid (by
            cases hb : b
            · right
              have h1 := HSM.out (by rw [← HV.out]; have := HE.out; rw [hVt, hb] at this; exact this.symm)
              rw [← HV.out, HVN.out] at h1
              rw [HQ.out, hVt]; exact h1
            · exact .inl rfl)
          have hmk := run_make_row' (P := Try.prog) 22 3 (.int .i64 0) 8 Try.underlying22 infoI rfl .i64 .i64 j (by omega) (by omega)
          have rX7 := rX6
          clear HQ HE hVt hown hF rX rX6 rL hca0 hbr hbel
          have hj9 : j ≤ 1000000000 := by omega
          have HMK := hid hmk
          clear hmk
          have hq8 : -1000000000000 ≤ q ∧ q ≤ 1000000000000 := by omega
          go_wp2
          cases b
          · have hq : absI q < (j : Int) := by
              rcases HS.out with h | h
              · cases h
              · exact h
            refine wp_region_g (by kernel_rfl) [[], [0], [1], [2], [2, 3], [4], [4, 5], [4], [4, 7], [4, 6, 8], [2, 4, 9], [2, 10], [11], [12], [12, 13], [12], [12, 15], [12, 16], [12, 14, 17], [12, 18], [19]] (by kernel_rfl) 21 (by rfl) [some 53, some 54, some 55, some 56, some 57, some 58, some 59, some 60, some 61, some 62, some 63, some 64, some 65, some 66, some 67, some 68, some 69, some 70, some 71, some 72, some 2] (by rfl)
              [fun v x _ => v = .slice A2 j c2,
               fun v x _ => v = .bool true,
               fun v x _ => v = .bool true,
               fun v x _ => v = .bool false,
               fun v x _ => v = .bool false,
               fun v x _ => v = .int .i64 q,
               fun v x _ => v = .int .i64 (absI q),
               fun v x _ => v = .slice A2 j c2,
               fun v x _ => v = .int .i64 j,
               fun v x _ => v = .bool true,
               fun v x _ => v = .bool true,
               fun v x _ => v = .bool true,
               fun v x _ => v = .bool true,
               fun v x _ => v = .slice AA j cc,
               fun v x w' => IsI w' v (List.replicate j 0),
               fun v x _ => v = .slice A2 j c2,
               fun v x _ => v = .int .i64 j,
               fun v x w' => IsI w' v (List.replicate j 0),
               fun v x _ => v = .bool true,
               fun v x _ => v = .bool true,
               fun v x _ => v = .bool true]
              (fun _ w' => Below wr.heap.size wr w') (fun w w' => Below w.heap.size w w') (fun _ => Below.refl _ _) ((Below.refl _ _).drew) ?loc ?ob ?fin
            case loc =>
              refine ⟨⟨⟨⟨⟨⟨⟨⟨⟨⟨⟨⟨⟨⟨⟨⟨⟨⟨⟨⟨⟨trivial, ?_⟩, ?_⟩, ?_⟩, ?_⟩, ?_⟩, ?_⟩, ?_⟩, ?_⟩, ?_⟩, ?_⟩, ?_⟩, ?_⟩, ?_⟩, ?_⟩, ?_⟩, ?_⟩, ?_⟩, ?_⟩, ?_⟩, ?_⟩, ?_⟩
              · exact fun _ _ _ _ _ _ _ h => h
              · exact fun _ _ _ _ _ _ _ h => h
              · exact fun _ _ _ _ _ _ _ h => h
              · exact fun _ _ _ _ _ _ _ h => h
              · exact fun _ _ _ _ _ _ _ h => h
              · exact fun _ _ _ _ _ _ _ h => h
              · exact fun _ _ _ _ _ _ _ h => h
              · exact fun _ _ _ _ _ _ _ h => h
              · exact fun _ _ _ _ _ _ _ h => h
              · exact fun _ _ _ _ _ _ _ h => h
              · exact fun _ _ _ _ _ _ _ h => h
              · exact fun _ _ _ _ _ _ _ h => h
              · exact fun _ _ _ _ _ _ _ h => h
              · exact fun _ _ _ _ _ _ _ h => h
              · intro v x x' w w' hx hR h
                revert h
                show (fun v x w' => IsI w' v (List.replicate j 0)) v x w → (fun v x w' => IsI w' v (List.replicate j 0)) v x' w'
                intro h
                exact h.below hR
              · exact fun _ _ _ _ _ _ _ h => h
              · exact fun _ _ _ _ _ _ _ h => h
              · intro v x x' w w' hx hR h
                revert h
                show (fun v x w' => IsI w' v (List.replicate j 0)) v x w → (fun v x w' => IsI w' v (List.replicate j 0)) v x' w'
                intro h
                exact h.below hR
              · exact fun _ _ _ _ _ _ _ h => h
              · exact fun _ _ _ _ _ _ _ h => h
              · exact fun _ _ _ _ _ _ _ h => h
            case ob =>
              refine ⟨⟨⟨⟨⟨⟨⟨⟨⟨⟨⟨⟨⟨⟨⟨⟨⟨⟨⟨⟨⟨trivial, ?_⟩, ?_⟩, ?_⟩, ?_⟩, ?_⟩, ?_⟩, ?_⟩, ?_⟩, ?_⟩, ?_⟩, ?_⟩, ?_⟩, ?_⟩, ?_⟩, ?_⟩, ?_⟩, ?_⟩, ?_⟩, ?_⟩, ?_⟩, ?_⟩
              · intro c hc x W hS hd KO hK
                clear hd
                simp only [List.getD_cons_zero, fillL, Nat.reduceAdd, Act.put, List.setIfInBounds_toArray, List.set_cons_zero, List.set_cons_succ] at hK ⊢
                refine wpOp_plain rfl rfl ?_
                go_simp
                exact hK _ _ hS (Below.refl _ _) rfl
              · intro c hc x W hS hd KO hK
                have h0 : (fun v x _ => v = .slice A2 j c2) (x 0) x W := hd 0 (by decide)
                have e0 : x 0 = .slice A2 j c2 := h0
                clear h0
                clear hd
                simp only [List.getD_cons_zero, List.getD_cons_succ, fillL, Nat.reduceAdd, Act.put, List.setIfInBounds_toArray, List.set_cons_zero, List.set_cons_succ, e0] at hK ⊢
                refine wpOp_plain rfl rfl ?_
                go_simp
                refine (seqValid_yes A2 j c2 wr.heap.size V _ (RV.below rX7 hS) hj9 HVV.out).mono ?_
                rintro e W1 ⟨rfl, rfl⟩
                go_wp2_with fail
                exact hK _ _ hS (Below.refl _ _) rfl
              · intro c hc x W hS hd KO hK
                have h1 : (fun v x _ => v = .bool true) (x 1) x W := hd 1 (by decide)
                have e1 : x 1 = .bool true := h1
                clear h1
                clear hd
                simp only [List.getD_cons_zero, List.getD_cons_succ, fillL, Nat.reduceAdd, Act.put, List.setIfInBounds_toArray, List.set_cons_zero, List.set_cons_succ, e1] at hK ⊢
                refine wpOp_plain rfl rfl ?_
                go_simp
                exact hK _ _ hS (Below.refl _ _) rfl
              · intro c hc x W hS hd KO hK
                have h2 : (fun v x _ => v = .bool true) (x 2) x W := hd 2 (by decide)
                have e2 : x 2 = .bool true := h2
                clear h2
                clear hd
                simp only [List.getD_cons_zero, List.getD_cons_succ, fillL, Nat.reduceAdd, Act.put, List.setIfInBounds_toArray, List.set_cons_zero, List.set_cons_succ, e2] at hK ⊢
                refine wpOp_yes rfl rfl rfl rfl ?_
                go_simp
                exact hK _ _ hS (Below.refl _ _) rfl
              · intro c hc x W hS hd KO hK
                have h2 : (fun v x _ => v = .bool true) (x 2) x W := hd 2 (by decide)
                have e2 : x 2 = .bool true := h2
                clear h2
                have h3 : (fun v x _ => v = .bool false) (x 3) x W := hd 3 (by decide)
                have e3 : x 3 = .bool false := h3
                clear h3
                clear hd
                simp only [List.getD_cons_zero, List.getD_cons_succ, fillL, Nat.reduceAdd, Act.put, List.setIfInBounds_toArray, List.set_cons_zero, List.set_cons_succ, e2, e3] at hK ⊢
                refine wpOp_yes rfl rfl rfl rfl ?_
                go_simp
                exact hK _ _ hS (Below.refl _ _) rfl
              · intro c hc x W hS hd KO hK
                have h4 : (fun v x _ => v = .bool false) (x 4) x W := hd 4 (by decide)
                have e4 : x 4 = .bool false := h4
                clear h4
                clear hd
                simp only [List.getD_cons_zero, List.getD_cons_succ, fillL, Nat.reduceAdd, Act.put, List.setIfInBounds_toArray, List.set_cons_zero, List.set_cons_succ, e4] at hK ⊢
                refine wpOp_yes rfl rfl rfl rfl ?_
                go_simp
                exact hK _ _ hS (Below.refl _ _) rfl
              · intro c hc x W hS hd KO hK
                have h4 : (fun v x _ => v = .bool false) (x 4) x W := hd 4 (by decide)
                have e4 : x 4 = .bool false := h4
                clear h4
                have h5 : (fun v x _ => v = .int .i64 q) (x 5) x W := hd 5 (by decide)
                have e5 : x 5 = .int .i64 q := h5
                clear h5
                clear hd
                simp only [List.getD_cons_zero, List.getD_cons_succ, fillL, Nat.reduceAdd, Act.put, List.setIfInBounds_toArray, List.set_cons_zero, List.set_cons_succ, e4, e5] at hK ⊢
                refine wpOp_yes rfl rfl rfl rfl ?_
                go_simp
                refine (abs_any q _ hq8.1 hq8.2).mono ?_
                rintro e W1 ⟨rfl, rfl⟩
                go_wp2_with fail
                exact hK _ _ hS (Below.refl _ _) rfl
              · intro c hc x W hS hd KO hK
                have h4 : (fun v x _ => v = .bool false) (x 4) x W := hd 4 (by decide)
                have e4 : x 4 = .bool false := h4
                clear h4
                clear hd
                simp only [List.getD_cons_zero, List.getD_cons_succ, fillL, Nat.reduceAdd, Act.put, List.setIfInBounds_toArray, List.set_cons_zero, List.set_cons_succ, e4] at hK ⊢
                refine wpOp_yes rfl rfl rfl rfl ?_
                go_simp
                exact hK _ _ hS (Below.refl _ _) rfl
              · intro c hc x W hS hd KO hK
                have h4 : (fun v x _ => v = .bool false) (x 4) x W := hd 4 (by decide)
                have e4 : x 4 = .bool false := h4
                clear h4
                have h7 : (fun v x _ => v = .slice A2 j c2) (x 7) x W := hd 7 (by decide)
                have e7 : x 7 = .slice A2 j c2 := h7
                clear h7
                clear hd
                simp only [List.getD_cons_zero, List.getD_cons_succ, fillL, Nat.reduceAdd, Act.put, List.setIfInBounds_toArray, List.set_cons_zero, List.set_cons_succ, e4, e7] at hK ⊢
                refine wpOp_yes rfl rfl rfl rfl ?_
                go_simp
                exact hK _ _ hS (Below.refl _ _) rfl
              · intro c hc x W hS hd KO hK
                have h4 : (fun v x _ => v = .bool false) (x 4) x W := hd 4 (by decide)
                have e4 : x 4 = .bool false := h4
                clear h4
                have h6 : (fun v x _ => v = .int .i64 (absI q)) (x 6) x W := hd 6 (by decide)
                have e6 : x 6 = .int .i64 (absI q) := h6
                clear h6
                have h8 : (fun v x _ => v = .int .i64 j) (x 8) x W := hd 8 (by decide)
                have e8 : x 8 = .int .i64 j := h8
                clear h8
                clear hd
                simp only [List.getD_cons_zero, List.getD_cons_succ, fillL, Nat.reduceAdd, Act.put, List.setIfInBounds_toArray, List.set_cons_zero, List.set_cons_succ, e4, e6, e8] at hK ⊢
                refine wpOp_yes rfl rfl rfl rfl ?_
                go_simp
                exact hK _ _ hS (Below.refl _ _) rfl
              · intro c hc x W hS hd KO hK
                have h2 : (fun v x _ => v = .bool true) (x 2) x W := hd 2 (by decide)
                have e2 : x 2 = .bool true := h2
                clear h2
                have h4 : (fun v x _ => v = .bool false) (x 4) x W := hd 4 (by decide)
                have e4 : x 4 = .bool false := h4
                clear h4
                have h9 : (fun v x _ => v = .bool true) (x 9) x W := hd 9 (by decide)
                have e9 : x 9 = .bool true := h9
                clear h9
                clear hd
                simp only [List.getD_cons_zero, List.getD_cons_succ, fillL, Nat.reduceAdd, Act.put, List.setIfInBounds_toArray, List.set_cons_zero, List.set_cons_succ, e2, e4, e9] at hK ⊢
                refine wpOp_yes rfl rfl rfl rfl ?_
                go_simp
                exact hK _ _ hS (Below.refl _ _) rfl
              · intro c hc x W hS hd KO hK
                have h2 : (fun v x _ => v = .bool true) (x 2) x W := hd 2 (by decide)
                have e2 : x 2 = .bool true := h2
                clear h2
                have h10 : (fun v x _ => v = .bool true) (x 10) x W := hd 10 (by decide)
                have e10 : x 10 = .bool true := h10
                clear h10
                clear hd
                simp only [List.getD_cons_zero, List.getD_cons_succ, fillL, Nat.reduceAdd, Act.put, List.setIfInBounds_toArray, List.set_cons_zero, List.set_cons_succ, e2, e10] at hK ⊢
                refine wpOp_plain rfl rfl ?_
                go_simp
                exact hK _ _ hS (Below.refl _ _) rfl
              · intro c hc x W hS hd KO hK
                have h11 : (fun v x _ => v = .bool true) (x 11) x W := hd 11 (by decide)
                have e11 : x 11 = .bool true := h11
                clear h11
                clear hd
                simp only [List.getD_cons_zero, List.getD_cons_succ, fillL, Nat.reduceAdd, Act.put, List.setIfInBounds_toArray, List.set_cons_zero, List.set_cons_succ, e11] at hK ⊢
                refine wpOp_plain rfl rfl ?_
                go_simp
                exact hK _ _ hS (Below.refl _ _) rfl
              · intro c hc x W hS hd KO hK
                have h12 : (fun v x _ => v = .bool true) (x 12) x W := hd 12 (by decide)
                have e12 : x 12 = .bool true := h12
                clear h12
                clear hd
                simp only [List.getD_cons_zero, List.getD_cons_succ, fillL, Nat.reduceAdd, Act.put, List.setIfInBounds_toArray, List.set_cons_zero, List.set_cons_succ, e12] at hK ⊢
                refine wpOp_yes rfl rfl rfl rfl ?_
                go_simp
                exact hK _ _ hS (Below.refl _ _) rfl
              · intro c hc x W hS hd KO hK
                have h12 : (fun v x _ => v = .bool true) (x 12) x W := hd 12 (by decide)
                have e12 : x 12 = .bool true := h12
                clear h12
                have h13 : (fun v x _ => v = .slice AA j cc) (x 13) x W := hd 13 (by decide)
                have e13 : x 13 = .slice AA j cc := h13
                clear h13
                clear hd
                simp only [List.getD_cons_zero, List.getD_cons_succ, fillL, Nat.reduceAdd, Act.put, List.setIfInBounds_toArray, List.set_cons_zero, List.set_cons_succ, e12, e13] at hK ⊢
                refine wpOp_yes rfl rfl rfl rfl ?_
                go_simp
                refine (isI_call HRP.out (removeMean_impl _ _ _ _ (List.replicate j a) W (RV.below rF hS) hS.size hj9)).mono ?_
                rintro e W1 ⟨v1, rfl, hi1, hb1⟩
                go_wp2_with fail
                exact hK _ _ (hS.trans (hb1.mono hS.size)) hb1 hi1
              · intro c hc x W hS hd KO hK
                have h12 : (fun v x _ => v = .bool true) (x 12) x W := hd 12 (by decide)
                have e12 : x 12 = .bool true := h12
                clear h12
                clear hd
                simp only [List.getD_cons_zero, List.getD_cons_succ, fillL, Nat.reduceAdd, Act.put, List.setIfInBounds_toArray, List.set_cons_zero, List.set_cons_succ, e12] at hK ⊢
                refine wpOp_yes rfl rfl rfl rfl ?_
                go_simp
                exact hK _ _ hS (Below.refl _ _) rfl
              · intro c hc x W hS hd KO hK
                have h12 : (fun v x _ => v = .bool true) (x 12) x W := hd 12 (by decide)
                have e12 : x 12 = .bool true := h12
                clear h12
                have h15 : (fun v x _ => v = .slice A2 j c2) (x 15) x W := hd 15 (by decide)
                have e15 : x 15 = .slice A2 j c2 := h15
                clear h15
                clear hd
                simp only [List.getD_cons_zero, List.getD_cons_succ, fillL, Nat.reduceAdd, Act.put, List.setIfInBounds_toArray, List.set_cons_zero, List.set_cons_succ, e12, e15] at hK ⊢
                refine wpOp_yes rfl rfl rfl rfl ?_
                go_simp
                exact hK _ _ hS (Below.refl _ _) rfl
              · intro c hc x W hS hd KO hK
                have h12 : (fun v x _ => v = .bool true) (x 12) x W := hd 12 (by decide)
                have e12 : x 12 = .bool true := h12
                clear h12
                have h16 : (fun v x _ => v = .int .i64 j) (x 16) x W := hd 16 (by decide)
                have e16 : x 16 = .int .i64 j := h16
                clear h16
                clear hd
                have hmk := HMK.out
                simp only [List.getD_cons_zero, List.getD_cons_succ, fillL, Nat.reduceAdd, Act.put, List.setIfInBounds_toArray, List.set_cons_zero, List.set_cons_succ, e12, e16] at hK ⊢
                refine wpOp_yes rfl rfl rfl rfl ?_
                go_simp
                exact hK _ _ (hS.trans (((Below.refl _ _).alloc (Nat.le_refl _) _).mono hS.size)) ((Below.refl _ _).alloc (Nat.le_refl _) _) (isI_made W _ j (by unfold maxLen; omega))
              · intro c hc x W hS hd KO hK
                have h12 : (fun v x _ => v = .bool true) (x 12) x W := hd 12 (by decide)
                have e12 : x 12 = .bool true := h12
                clear h12
                have h14 : (fun v x w' => IsI w' v (List.replicate j 0)) (x 14) x W := hd 14 (by decide)
                have h17 : (fun v x w' => IsI w' v (List.replicate j 0)) (x 17) x W := hd 17 (by decide)
                clear hd
                simp only [List.getD_cons_zero, List.getD_cons_succ, fillL, Nat.reduceAdd, Act.put, List.setIfInBounds_toArray, List.set_cons_zero, List.set_cons_succ, e12] at hK ⊢
                refine wpOp_yes rfl rfl rfl rfl ?_
                obtain ⟨A0, n0, c0, e0, r0⟩ := h14
                obtain ⟨A1, n1, c1, e1, r1⟩ := h17
                simp only [e0, e1] at hK ⊢
                go_simp
                refine (sameInts_same _ _ _ _ _ _ _ _ (List.replicate j 0) W r0 r1 (by simp; omega)).mono ?_
                rintro e W1 ⟨rfl, hb1⟩
                go_wp2_with fail
                exact hK _ _ (hS.trans (hb1.mono hS.size)) hb1 rfl
              · intro c hc x W hS hd KO hK
                have h12 : (fun v x _ => v = .bool true) (x 12) x W := hd 12 (by decide)
                have e12 : x 12 = .bool true := h12
                clear h12
                have h18 : (fun v x _ => v = .bool true) (x 18) x W := hd 18 (by decide)
                have e18 : x 18 = .bool true := h18
                clear h18
                clear hd
                simp only [List.getD_cons_zero, List.getD_cons_succ, fillL, Nat.reduceAdd, Act.put, List.setIfInBounds_toArray, List.set_cons_zero, List.set_cons_succ, e12, e18] at hK ⊢
                refine wpOp_plain rfl rfl ?_
                go_simp
                exact hK _ _ hS (Below.refl _ _) rfl
              · intro c hc x W hS hd KO hK
                have h19 : (fun v x _ => v = .bool true) (x 19) x W := hd 19 (by decide)
                have e19 : x 19 = .bool true := h19
                clear h19
                clear hd
                simp only [List.getD_cons_zero, List.getD_cons_succ, fillL, Nat.reduceAdd, Act.put, List.setIfInBounds_toArray, List.set_cons_zero, List.set_cons_succ, e19] at hK ⊢
                refine wpOp_plain rfl rfl ?_
                go_simp
                exact hK _ _ hS (Below.refl _ _) rfl
            case fin =>
              intro x W hS hd
              have h0 : (fun v x _ => v = .slice A2 j c2) (x 0) x W := hd 0 (by decide)
              have e0 : x 0 = .slice A2 j c2 := h0
              clear h0
              have h1 : (fun v x _ => v = .bool true) (x 1) x W := hd 1 (by decide)
              have e1 : x 1 = .bool true := h1
              clear h1
              have h2 : (fun v x _ => v = .bool true) (x 2) x W := hd 2 (by decide)
              have e2 : x 2 = .bool true := h2
              clear h2
              have h3 : (fun v x _ => v = .bool false) (x 3) x W := hd 3 (by decide)
              have e3 : x 3 = .bool false := h3
              clear h3
              have h4 : (fun v x _ => v = .bool false) (x 4) x W := hd 4 (by decide)
              have e4 : x 4 = .bool false := h4
              clear h4
              have h5 : (fun v x _ => v = .int .i64 q) (x 5) x W := hd 5 (by decide)
              have e5 : x 5 = .int .i64 q := h5
              clear h5
              have h6 : (fun v x _ => v = .int .i64 (absI q)) (x 6) x W := hd 6 (by decide)
              have e6 : x 6 = .int .i64 (absI q) := h6
              clear h6
              have h7 : (fun v x _ => v = .slice A2 j c2) (x 7) x W := hd 7 (by decide)
              have e7 : x 7 = .slice A2 j c2 := h7
              clear h7
              have h8 : (fun v x _ => v = .int .i64 j) (x 8) x W := hd 8 (by decide)
              have e8 : x 8 = .int .i64 j := h8
              clear h8
              have h9 : (fun v x _ => v = .bool true) (x 9) x W := hd 9 (by decide)
              have e9 : x 9 = .bool true := h9
              clear h9
              have h10 : (fun v x _ => v = .bool true) (x 10) x W := hd 10 (by decide)
              have e10 : x 10 = .bool true := h10
              clear h10
              have h11 : (fun v x _ => v = .bool true) (x 11) x W := hd 11 (by decide)
              have e11 : x 11 = .bool true := h11
              clear h11
              have h12 : (fun v x _ => v = .bool true) (x 12) x W := hd 12 (by decide)
              have e12 : x 12 = .bool true := h12
              clear h12
              have h13 : (fun v x _ => v = .slice AA j cc) (x 13) x W := hd 13 (by decide)
              have e13 : x 13 = .slice AA j cc := h13
              clear h13
              have h14 : (fun v x w' => IsI w' v (List.replicate j 0)) (x 14) x W := hd 14 (by decide)
              have h15 : (fun v x _ => v = .slice A2 j c2) (x 15) x W := hd 15 (by decide)
              have e15 : x 15 = .slice A2 j c2 := h15
              clear h15
              have h16 : (fun v x _ => v = .int .i64 j) (x 16) x W := hd 16 (by decide)
              have e16 : x 16 = .int .i64 j := h16
              clear h16
              have h17 : (fun v x w' => IsI w' v (List.replicate j 0)) (x 17) x W := hd 17 (by decide)
              have h18 : (fun v x _ => v = .bool true) (x 18) x W := hd 18 (by decide)
              have e18 : x 18 = .bool true := h18
              clear h18
              have h19 : (fun v x _ => v = .bool true) (x 19) x W := hd 19 (by decide)
              have e19 : x 19 = .bool true := h19
              clear h19
              have h20 : (fun v x _ => v = .bool true) (x 20) x W := hd 20 (by decide)
              have e20 : x 20 = .bool true := h20
              clear h20
              clear hd
              simp only [fillL, Nat.reduceAdd, Act.put, List.setIfInBounds_toArray, List.set_cons_zero, List.set_cons_succ, e0, e1, e2, e3, e4, e5, e6, e7, e8, e9, e10, e11, e12, e13, e15, e16, e18, e19, e20]
              clear e0 e1 e2 e3 e4 e5 e6 e7 e8 e9 e10 e11 e12 e13 e15 e16 e18 e19 e20
              go_wp2
              go_ret
              exact ⟨rfl, hb6.trans (hS.mono hb6.size)⟩
          · skip
            refine wp_region_g (by kernel_rfl) [[], [0], [1], [2], [2, 3], [4], [4, 5], [4], [4, 7], [4, 6, 8], [2, 4, 9], [2, 10], [11], [12], [12, 13], [12], [12, 15], [12, 16], [12, 14, 17], [12, 18], [19]] (by kernel_rfl) 21 (by rfl) [some 53, some 54, some 55, some 56, some 57, some 58, some 59, some 60, some 61, some 62, some 63, some 64, some 65, some 66, some 67, some 68, some 69, some 70, some 71, some 72, some 2] (by rfl)
              [fun v x _ => v = .slice A2 j c2,
               fun v x _ => v = .bool true,
               fun v x _ => v = .bool true,
               fun v x _ => v = .bool true,
               fun v x _ => v = .bool true,
               fun v x _ => v = undef,
               fun v x _ => v = undef,
               fun v x _ => v = undef,
               fun v x _ => v = undef,
               fun v x _ => v = undef,
               fun v x _ => v = .bool true,
               fun v x _ => v = .bool true,
               fun v x _ => v = .bool true,
               fun v x _ => v = .slice AA j cc,
               fun v x w' => IsI w' v (List.replicate j 0),
               fun v x _ => v = .slice A2 j c2,
               fun v x _ => v = .int .i64 j,
               fun v x w' => IsI w' v (List.replicate j 0),
               fun v x _ => v = .bool true,
               fun v x _ => v = .bool true,
               fun v x _ => v = .bool true]
              (fun _ w' => Below wr.heap.size wr w') (fun w w' => Below w.heap.size w w') (fun _ => Below.refl _ _) ((Below.refl _ _).drew) ?loc ?ob ?fin
            case loc =>
              refine ⟨⟨⟨⟨⟨⟨⟨⟨⟨⟨⟨⟨⟨⟨⟨⟨⟨⟨⟨⟨⟨trivial, ?_⟩, ?_⟩, ?_⟩, ?_⟩, ?_⟩, ?_⟩, ?_⟩, ?_⟩, ?_⟩, ?_⟩, ?_⟩, ?_⟩, ?_⟩, ?_⟩, ?_⟩, ?_⟩, ?_⟩, ?_⟩, ?_⟩, ?_⟩, ?_⟩
              · exact fun _ _ _ _ _ _ _ h => h
              · exact fun _ _ _ _ _ _ _ h => h
              · exact fun _ _ _ _ _ _ _ h => h
              · exact fun _ _ _ _ _ _ _ h => h
              · exact fun _ _ _ _ _ _ _ h => h
              · exact fun _ _ _ _ _ _ _ h => h
              · exact fun _ _ _ _ _ _ _ h => h
              · exact fun _ _ _ _ _ _ _ h => h
              · exact fun _ _ _ _ _ _ _ h => h
              · exact fun _ _ _ _ _ _ _ h => h
              · exact fun _ _ _ _ _ _ _ h => h
              · exact fun _ _ _ _ _ _ _ h => h
              · exact fun _ _ _ _ _ _ _ h => h
              · exact fun _ _ _ _ _ _ _ h => h
              · intro v x x' w w' hx hR h
                revert h
                show (fun v x w' => IsI w' v (List.replicate j 0)) v x w → (fun v x w' => IsI w' v (List.replicate j 0)) v x' w'
                intro h
                exact h.below hR
              · exact fun _ _ _ _ _ _ _ h => h
              · exact fun _ _ _ _ _ _ _ h => h
              · intro v x x' w w' hx hR h
                revert h
                show (fun v x w' => IsI w' v (List.replicate j 0)) v x w → (fun v x w' => IsI w' v (List.replicate j 0)) v x' w'
                intro h
                exact h.below hR
              · exact fun _ _ _ _ _ _ _ h => h
              · exact fun _ _ _ _ _ _ _ h => h
              · exact fun _ _ _ _ _ _ _ h => h
            case ob =>
              refine ⟨⟨⟨⟨⟨⟨⟨⟨⟨⟨⟨⟨⟨⟨⟨⟨⟨⟨⟨⟨⟨trivial, ?_⟩, ?_⟩, ?_⟩, ?_⟩, ?_⟩, ?_⟩, ?_⟩, ?_⟩, ?_⟩, ?_⟩, ?_⟩, ?_⟩, ?_⟩, ?_⟩, ?_⟩, ?_⟩, ?_⟩, ?_⟩, ?_⟩, ?_⟩, ?_⟩
              · intro c hc x W hS hd KO hK
                clear hd
                simp only [List.getD_cons_zero, fillL, Nat.reduceAdd, Act.put, List.setIfInBounds_toArray, List.set_cons_zero, List.set_cons_succ] at hK ⊢
                refine wpOp_plain rfl rfl ?_
                go_simp
                exact hK _ _ hS (Below.refl _ _) rfl
              · intro c hc x W hS hd KO hK
                have h0 : (fun v x _ => v = .slice A2 j c2) (x 0) x W := hd 0 (by decide)
                have e0 : x 0 = .slice A2 j c2 := h0
                clear h0
                clear hd
                simp only [List.getD_cons_zero, List.getD_cons_succ, fillL, Nat.reduceAdd, Act.put, List.setIfInBounds_toArray, List.set_cons_zero, List.set_cons_succ, e0] at hK ⊢
                refine wpOp_plain rfl rfl ?_
                go_simp
                refine (seqValid_yes A2 j c2 wr.heap.size V _ (RV.below rX7 hS) hj9 HVV.out).mono ?_
                rintro e W1 ⟨rfl, rfl⟩
                go_wp2_with fail
                exact hK _ _ hS (Below.refl _ _) rfl
              · intro c hc x W hS hd KO hK
                have h1 : (fun v x _ => v = .bool true) (x 1) x W := hd 1 (by decide)
                have e1 : x 1 = .bool true := h1
                clear h1
                clear hd
                simp only [List.getD_cons_zero, List.getD_cons_succ, fillL, Nat.reduceAdd, Act.put, List.setIfInBounds_toArray, List.set_cons_zero, List.set_cons_succ, e1] at hK ⊢
                refine wpOp_plain rfl rfl ?_
                go_simp
                exact hK _ _ hS (Below.refl _ _) rfl
              · intro c hc x W hS hd KO hK
                have h2 : (fun v x _ => v = .bool true) (x 2) x W := hd 2 (by decide)
                have e2 : x 2 = .bool true := h2
                clear h2
                clear hd
                simp only [List.getD_cons_zero, List.getD_cons_succ, fillL, Nat.reduceAdd, Act.put, List.setIfInBounds_toArray, List.set_cons_zero, List.set_cons_succ, e2] at hK ⊢
                refine wpOp_yes rfl rfl rfl rfl ?_
                go_simp
                exact hK _ _ hS (Below.refl _ _) rfl
              · intro c hc x W hS hd KO hK
                have h2 : (fun v x _ => v = .bool true) (x 2) x W := hd 2 (by decide)
                have e2 : x 2 = .bool true := h2
                clear h2
                have h3 : (fun v x _ => v = .bool true) (x 3) x W := hd 3 (by decide)
                have e3 : x 3 = .bool true := h3
                clear h3
                clear hd
                simp only [List.getD_cons_zero, List.getD_cons_succ, fillL, Nat.reduceAdd, Act.put, List.setIfInBounds_toArray, List.set_cons_zero, List.set_cons_succ, e2, e3] at hK ⊢
                refine wpOp_yes rfl rfl rfl rfl ?_
                go_simp
                exact hK _ _ hS (Below.refl _ _) rfl
              · intro c hc x W hS hd KO hK
                have h4 : (fun v x _ => v = .bool true) (x 4) x W := hd 4 (by decide)
                have e4 : x 4 = .bool true := h4
                clear h4
                clear hd
                simp only [List.getD_cons_zero, List.getD_cons_succ, fillL, Nat.reduceAdd, Act.put, List.setIfInBounds_toArray, List.set_cons_zero, List.set_cons_succ, e4] at hK ⊢
                refine wpOp_no rfl rfl rfl rfl ?_
                exact hK _ _ hS (Below.refl _ _) rfl
              · intro c hc x W hS hd KO hK
                have h4 : (fun v x _ => v = .bool true) (x 4) x W := hd 4 (by decide)
                have e4 : x 4 = .bool true := h4
                clear h4
                have h5 : (fun v x _ => v = undef) (x 5) x W := hd 5 (by decide)
                have e5 : x 5 = undef := h5
                clear h5
                clear hd
                simp only [List.getD_cons_zero, List.getD_cons_succ, fillL, Nat.reduceAdd, Act.put, List.setIfInBounds_toArray, List.set_cons_zero, List.set_cons_succ, e4, e5] at hK ⊢
                refine wpOp_no rfl rfl rfl rfl ?_
                exact hK _ _ hS (Below.refl _ _) rfl
              · intro c hc x W hS hd KO hK
                have h4 : (fun v x _ => v = .bool true) (x 4) x W := hd 4 (by decide)
                have e4 : x 4 = .bool true := h4
                clear h4
                clear hd
                simp only [List.getD_cons_zero, List.getD_cons_succ, fillL, Nat.reduceAdd, Act.put, List.setIfInBounds_toArray, List.set_cons_zero, List.set_cons_succ, e4] at hK ⊢
                refine wpOp_no rfl rfl rfl rfl ?_
                exact hK _ _ hS (Below.refl _ _) rfl
              · intro c hc x W hS hd KO hK
                have h4 : (fun v x _ => v = .bool true) (x 4) x W := hd 4 (by decide)
                have e4 : x 4 = .bool true := h4
                clear h4
                have h7 : (fun v x _ => v = undef) (x 7) x W := hd 7 (by decide)
                have e7 : x 7 = undef := h7
                clear h7
                clear hd
                simp only [List.getD_cons_zero, List.getD_cons_succ, fillL, Nat.reduceAdd, Act.put, List.setIfInBounds_toArray, List.set_cons_zero, List.set_cons_succ, e4, e7] at hK ⊢
                refine wpOp_no rfl rfl rfl rfl ?_
                exact hK _ _ hS (Below.refl _ _) rfl
              · intro c hc x W hS hd KO hK
                have h4 : (fun v x _ => v = .bool true) (x 4) x W := hd 4 (by decide)
                have e4 : x 4 = .bool true := h4
                clear h4
                have h6 : (fun v x _ => v = undef) (x 6) x W := hd 6 (by decide)
                have e6 : x 6 = undef := h6
                clear h6
                have h8 : (fun v x _ => v = undef) (x 8) x W := hd 8 (by decide)
                have e8 : x 8 = undef := h8
                clear h8
                clear hd
                simp only [List.getD_cons_zero, List.getD_cons_succ, fillL, Nat.reduceAdd, Act.put, List.setIfInBounds_toArray, List.set_cons_zero, List.set_cons_succ, e4, e6, e8] at hK ⊢
                refine wpOp_no rfl rfl rfl rfl ?_
                exact hK _ _ hS (Below.refl _ _) rfl
              · intro c hc x W hS hd KO hK
                have h2 : (fun v x _ => v = .bool true) (x 2) x W := hd 2 (by decide)
                have e2 : x 2 = .bool true := h2
                clear h2
                have h4 : (fun v x _ => v = .bool true) (x 4) x W := hd 4 (by decide)
                have e4 : x 4 = .bool true := h4
                clear h4
                have h9 : (fun v x _ => v = undef) (x 9) x W := hd 9 (by decide)
                have e9 : x 9 = undef := h9
                clear h9
                clear hd
                simp only [List.getD_cons_zero, List.getD_cons_succ, fillL, Nat.reduceAdd, Act.put, List.setIfInBounds_toArray, List.set_cons_zero, List.set_cons_succ, e2, e4, e9] at hK ⊢
                refine wpOp_yes rfl rfl rfl rfl ?_
                go_simp
                exact hK _ _ hS (Below.refl _ _) rfl
              · intro c hc x W hS hd KO hK
                have h2 : (fun v x _ => v = .bool true) (x 2) x W := hd 2 (by decide)
                have e2 : x 2 = .bool true := h2
                clear h2
                have h10 : (fun v x _ => v = .bool true) (x 10) x W := hd 10 (by decide)
                have e10 : x 10 = .bool true := h10
                clear h10
                clear hd
                simp only [List.getD_cons_zero, List.getD_cons_succ, fillL, Nat.reduceAdd, Act.put, List.setIfInBounds_toArray, List.set_cons_zero, List.set_cons_succ, e2, e10] at hK ⊢
                refine wpOp_plain rfl rfl ?_
                go_simp
                exact hK _ _ hS (Below.refl _ _) rfl
              · intro c hc x W hS hd KO hK
                have h11 : (fun v x _ => v = .bool true) (x 11) x W := hd 11 (by decide)
                have e11 : x 11 = .bool true := h11
                clear h11
                clear hd
                simp only [List.getD_cons_zero, List.getD_cons_succ, fillL, Nat.reduceAdd, Act.put, List.setIfInBounds_toArray, List.set_cons_zero, List.set_cons_succ, e11] at hK ⊢
                refine wpOp_plain rfl rfl ?_
                go_simp
                exact hK _ _ hS (Below.refl _ _) rfl
              · intro c hc x W hS hd KO hK
                have h12 : (fun v x _ => v = .bool true) (x 12) x W := hd 12 (by decide)
                have e12 : x 12 = .bool true := h12
                clear h12
                clear hd
                simp only [List.getD_cons_zero, List.getD_cons_succ, fillL, Nat.reduceAdd, Act.put, List.setIfInBounds_toArray, List.set_cons_zero, List.set_cons_succ, e12] at hK ⊢
                refine wpOp_yes rfl rfl rfl rfl ?_
                go_simp
                exact hK _ _ hS (Below.refl _ _) rfl
              · intro c hc x W hS hd KO hK
                have h12 : (fun v x _ => v = .bool true) (x 12) x W := hd 12 (by decide)
                have e12 : x 12 = .bool true := h12
                clear h12
                have h13 : (fun v x _ => v = .slice AA j cc) (x 13) x W := hd 13 (by decide)
                have e13 : x 13 = .slice AA j cc := h13
                clear h13
                clear hd
                simp only [List.getD_cons_zero, List.getD_cons_succ, fillL, Nat.reduceAdd, Act.put, List.setIfInBounds_toArray, List.set_cons_zero, List.set_cons_succ, e12, e13] at hK ⊢
                refine wpOp_yes rfl rfl rfl rfl ?_
                go_simp
                refine (isI_call HRP.out (removeMean_impl _ _ _ _ (List.replicate j a) W (RV.below rF hS) hS.size hj9)).mono ?_
                rintro e W1 ⟨v1, rfl, hi1, hb1⟩
                go_wp2_with fail
                exact hK _ _ (hS.trans (hb1.mono hS.size)) hb1 hi1
              · intro c hc x W hS hd KO hK
                have h12 : (fun v x _ => v = .bool true) (x 12) x W := hd 12 (by decide)
                have e12 : x 12 = .bool true := h12
                clear h12
                clear hd
                simp only [List.getD_cons_zero, List.getD_cons_succ, fillL, Nat.reduceAdd, Act.put, List.setIfInBounds_toArray, List.set_cons_zero, List.set_cons_succ, e12] at hK ⊢
                refine wpOp_yes rfl rfl rfl rfl ?_
                go_simp
                exact hK _ _ hS (Below.refl _ _) rfl
              · intro c hc x W hS hd KO hK
                have h12 : (fun v x _ => v = .bool true) (x 12) x W := hd 12 (by decide)
                have e12 : x 12 = .bool true := h12
                clear h12
                have h15 : (fun v x _ => v = .slice A2 j c2) (x 15) x W := hd 15 (by decide)
                have e15 : x 15 = .slice A2 j c2 := h15
                clear h15
                clear hd
                simp only [List.getD_cons_zero, List.getD_cons_succ, fillL, Nat.reduceAdd, Act.put, List.setIfInBounds_toArray, List.set_cons_zero, List.set_cons_succ, e12, e15] at hK ⊢
                refine wpOp_yes rfl rfl rfl rfl ?_
                go_simp
                exact hK _ _ hS (Below.refl _ _) rfl
              · intro c hc x W hS hd KO hK
                have h12 : (fun v x _ => v = .bool true) (x 12) x W := hd 12 (by decide)
                have e12 : x 12 = .bool true := h12
                clear h12
                have h16 : (fun v x _ => v = .int .i64 j) (x 16) x W := hd 16 (by decide)
                have e16 : x 16 = .int .i64 j := h16
                clear h16
                clear hd
                have hmk := HMK.out
                simp only [List.getD_cons_zero, List.getD_cons_succ, fillL, Nat.reduceAdd, Act.put, List.setIfInBounds_toArray, List.set_cons_zero, List.set_cons_succ, e12, e16] at hK ⊢
                refine wpOp_yes rfl rfl rfl rfl ?_
                go_simp
                exact hK _ _ (hS.trans (((Below.refl _ _).alloc (Nat.le_refl _) _).mono hS.size)) ((Below.refl _ _).alloc (Nat.le_refl _) _) (isI_made W _ j (by unfold maxLen; omega))
              · intro c hc x W hS hd KO hK
                have h12 : (fun v x _ => v = .bool true) (x 12) x W := hd 12 (by decide)
                have e12 : x 12 = .bool true := h12
                clear h12
                have h14 : (fun v x w' => IsI w' v (List.replicate j 0)) (x 14) x W := hd 14 (by decide)
                have h17 : (fun v x w' => IsI w' v (List.replicate j 0)) (x 17) x W := hd 17 (by decide)
                clear hd
                simp only [List.getD_cons_zero, List.getD_cons_succ, fillL, Nat.reduceAdd, Act.put, List.setIfInBounds_toArray, List.set_cons_zero, List.set_cons_succ, e12] at hK ⊢
                refine wpOp_yes rfl rfl rfl rfl ?_
                obtain ⟨A0, n0, c0, e0, r0⟩ := h14
                obtain ⟨A1, n1, c1, e1, r1⟩ := h17
                simp only [e0, e1] at hK ⊢
                go_simp
                refine (sameInts_same _ _ _ _ _ _ _ _ (List.replicate j 0) W r0 r1 (by simp; omega)).mono ?_
                rintro e W1 ⟨rfl, hb1⟩
                go_wp2_with fail
                exact hK _ _ (hS.trans (hb1.mono hS.size)) hb1 rfl
              · intro c hc x W hS hd KO hK
                have h12 : (fun v x _ => v = .bool true) (x 12) x W := hd 12 (by decide)
                have e12 : x 12 = .bool true := h12
                clear h12
                have h18 : (fun v x _ => v = .bool true) (x 18) x W := hd 18 (by decide)
                have e18 : x 18 = .bool true := h18
                clear h18
                clear hd
                simp only [List.getD_cons_zero, List.getD_cons_succ, fillL, Nat.reduceAdd, Act.put, List.setIfInBounds_toArray, List.set_cons_zero, List.set_cons_succ, e12, e18] at hK ⊢
                refine wpOp_plain rfl rfl ?_
                go_simp
                exact hK _ _ hS (Below.refl _ _) rfl
              · intro c hc x W hS hd KO hK
                have h19 : (fun v x _ => v = .bool true) (x 19) x W := hd 19 (by decide)
                have e19 : x 19 = .bool true := h19
                clear h19
                clear hd
                simp only [List.getD_cons_zero, List.getD_cons_succ, fillL, Nat.reduceAdd, Act.put, List.setIfInBounds_toArray, List.set_cons_zero, List.set_cons_succ, e19] at hK ⊢
                refine wpOp_plain rfl rfl ?_
                go_simp
                exact hK _ _ hS (Below.refl _ _) rfl
            case fin =>
              intro x W hS hd
              have h0 : (fun v x _ => v = .slice A2 j c2) (x 0) x W := hd 0 (by decide)
              have e0 : x 0 = .slice A2 j c2 := h0
              clear h0
              have h1 : (fun v x _ => v = .bool true) (x 1) x W := hd 1 (by decide)
              have e1 : x 1 = .bool true := h1
              clear h1
              have h2 : (fun v x _ => v = .bool true) (x 2) x W := hd 2 (by decide)
              have e2 : x 2 = .bool true := h2
              clear h2
              have h3 : (fun v x _ => v = .bool true) (x 3) x W := hd 3 (by decide)
              have e3 : x 3 = .bool true := h3
              clear h3
              have h4 : (fun v x _ => v = .bool true) (x 4) x W := hd 4 (by decide)
              have e4 : x 4 = .bool true := h4
              clear h4
              have h5 : (fun v x _ => v = undef) (x 5) x W := hd 5 (by decide)
              have e5 : x 5 = undef := h5
              clear h5
              have h6 : (fun v x _ => v = undef) (x 6) x W := hd 6 (by decide)
              have e6 : x 6 = undef := h6
              clear h6
              have h7 : (fun v x _ => v = undef) (x 7) x W := hd 7 (by decide)
              have e7 : x 7 = undef := h7
              clear h7
              have h8 : (fun v x _ => v = undef) (x 8) x W := hd 8 (by decide)
              have e8 : x 8 = undef := h8
              clear h8
              have h9 : (fun v x _ => v = undef) (x 9) x W := hd 9 (by decide)
              have e9 : x 9 = undef := h9
              clear h9
              have h10 : (fun v x _ => v = .bool true) (x 10) x W := hd 10 (by decide)
              have e10 : x 10 = .bool true := h10
              clear h10
              have h11 : (fun v x _ => v = .bool true) (x 11) x W := hd 11 (by decide)
              have e11 : x 11 = .bool true := h11
              clear h11
              have h12 : (fun v x _ => v = .bool true) (x 12) x W := hd 12 (by decide)
              have e12 : x 12 = .bool true := h12
              clear h12
              have h13 : (fun v x _ => v = .slice AA j cc) (x 13) x W := hd 13 (by decide)
              have e13 : x 13 = .slice AA j cc := h13
              clear h13
              have h14 : (fun v x w' => IsI w' v (List.replicate j 0)) (x 14) x W := hd 14 (by decide)
              have h15 : (fun v x _ => v = .slice A2 j c2) (x 15) x W := hd 15 (by decide)
              have e15 : x 15 = .slice A2 j c2 := h15
              clear h15
              have h16 : (fun v x _ => v = .int .i64 j) (x 16) x W := hd 16 (by decide)
              have e16 : x 16 = .int .i64 j := h16
              clear h16
              have h17 : (fun v x w' => IsI w' v (List.replicate j 0)) (x 17) x W := hd 17 (by decide)
              have h18 : (fun v x _ => v = .bool true) (x 18) x W := hd 18 (by decide)
              have e18 : x 18 = .bool true := h18
              clear h18
              have h19 : (fun v x _ => v = .bool true) (x 19) x W := hd 19 (by decide)
              have e19 : x 19 = .bool true := h19
              clear h19
              have h20 : (fun v x _ => v = .bool true) (x 20) x W := hd 20 (by decide)
              have e20 : x 20 = .bool true := h20
              clear h20
              clear hd
              simp only [fillL, Nat.reduceAdd, Act.put, List.setIfInBounds_toArray, List.set_cons_zero, List.set_cons_succ, e0, e1, e2, e3, e4, e5, e6, e7, e8, e9, e10, e11, e12, e13, e15, e16, e18, e19, e20]
              clear e0 e1 e2 e3 e4 e5 e6 e7 e8 e9 e10 e11 e12 e13 e15 e16 e18 e19 e20
              go_wp2
              go_ret
              exact ⟨rfl, hb6.trans (hS.mono hb6.size)⟩
    
  · go_enter Try.func8, Try.ntmps8
    go_wp2
    go_ret
    exact ⟨rfl, Below.refl _ _⟩
end Go.Proofs.Ytdcljfpgjifijaa
