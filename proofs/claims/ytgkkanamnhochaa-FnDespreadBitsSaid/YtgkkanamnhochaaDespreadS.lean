/-
  DespreadSums, the reference's, walked.
-/
import Derived.Test.YtgkkanamnhochaaDespread
namespace Go.Proofs.Ytgkkanamnhochaa
open Go.RowKit
set_option linter.unusedVariables false

def dpart (xs : List Int) (k i : Nat) : Nat → Int
  | 0 => 0
  | j + 1 => dpart xs k i j + xs.getD (8 * i + j) 0 * wsign k j
theorem dpart_dot (xs : List Int) (k i : Nat) : dpart xs k i 8 = dot8 (block8 xs i) k := by
  have e : ∀ j, j < 8 → (block8 xs i).getD j 0 = xs.getD (8 * i + j) 0 := by
    intro j hj
    rw [List.getD_eq_getElem?_getD, List.getD_eq_getElem?_getD, block8_get hj]
  unfold dot8
  rw [e 0 (by omega), e 1 (by omega), e 2 (by omega), e 3 (by omega), e 4 (by omega), e 5 (by omega), e 6 (by omega), e 7 (by omega)]
  simp only [dpart]
  omega

set_option maxHeartbeats 1600000 in
theorem despread_spec (A : Option Addr) (n c B : Nat) (xs : List Int) (k : Int) (w : World) (h : RI w B A n xs) (hB : B ≤ w.heap.size) (hn : n ≤ 1000000000) :
    Calls Try.prog 26 #[.slice A n c, .int .i64 k] w fun e w' => RetI 3 w e w' (despread xs k) := by
  have HL := hid (RI.len h)
  obtain ⟨i0, hi0, hz0, hz1, hz2⟩ := info_parts infoI
  by_cases h8 : n % 8 = 0
  · by_cases hle : n ≤ 256
    · by_cases hk : 0 ≤ k ∧ k ≤ 7
      · obtain ⟨k0, k1⟩ := hk
        obtain ⟨K, rfl⟩ := Int.eq_ofNat_of_zero_le k0
        obtain ⟨N, hN⟩ : ∃ N, n = 8 * N := ⟨n / 8, by omega⟩
        subst hN
        have hmod : (8 * (N : Int)) % 8 = 0 := by omega
        clear h8
        go_enter Try.func26, Try.ntmps26
        go_wp2_with (go_at_call 36; refine (l1In_yes _ _ _ _ (by omega) (by omega)).mono ?_; rintro e w1 ⟨rfl, rfl⟩)
        go_loopw [5, 6] (fun v av wr => ∃ (i cc : Nat) (AA : Option Addr), i ≤ N ∧ av = .int .i64 (8 * (i : Int)) ∧ v = .slice AA i cc ∧ wr.ownsRow w.heap.size 3 1 (.slice AA i cc) i ((despL xs K i).map (Value.int .i64)) ∧ Below w.heap.size w wr ∧ Hid (AllIn 8000 (xs.take (8 * i))))
          (fun _ av _ => 8 * N - (intOf av).toNat)
        case atStart => exact ⟨0, 0, _, Nat.zero_le _, rfl, rfl, own_lit0 _ (Nat.le_refl _), (Below.refl _ _).alloc (Nat.le_refl _) _, hid (by simp [AllIn])⟩
        case round =>
          obtain ⟨i, cc, AA, hi, rfl, rfl, hown, hbel, HE⟩ := hrel
          have hsz := hbel.size
          by_cases hlt : i < N
          · obtain ⟨wo, rfl⟩ : ∃ wo : World, wo = wr := ⟨_, rfl⟩
            go_wp2
            go_loopw [7, 8] (fun sv jv wr => ∃ (j m : Nat) (s : Int), j ≤ 8 ∧ jv = .int .i64 j ∧ sv = .int .i64 s ∧ Hid (s = dpart xs K i j) ∧ -8000 * (j : Int) ≤ s ∧ s ≤ 8000 * (j : Int) ∧ wr = wo.drewN m ∧ Hid (AllIn 8000 (xs.take (8 * i + j))))
              (fun _ jv _ => 8 - (intOf jv).toNat)
            case atStart => exact ⟨0, 0, 0, by omega, rfl, rfl, hid rfl, by omega, by omega, rfl, HE⟩
            case round =>
              obtain ⟨j, m, s, hj, rfl, rfl, HS, hs0, hs1, rfl, HE'⟩ := hrel
              have hbelm : Below w.heap.size w (wo.drewN m) := ⟨hbel.os, hbel.tape, hbel.output, hbel.size, hbel.block⟩
              by_cases hlt' : j < 8
              · obtain ⟨pb, po, x, rfl, hpb, hx, hcell⟩ := h.at_ (k := 8 * i + j) (by omega)
                have hcr : wo.cell? ⟨pb, po + (8 * i + j), none⟩ = some (.int .i64 x) := (hbel.cell (p := ⟨pb, po + (8 * i + j), none⟩) (by show pb < _; omega)).trans hcell
                have HX := hid hx
                have a0 : (0 : Int) ≤ 8 * (i : Int) + (j : Int) := by omega
                have a1 : 8 * (i : Int) + (j : Int) < 8 * (N : Int) := by omega
                have a2 : (8 * (i : Int) + (j : Int)).toNat = 8 * i + j := by omega
                have r0 : IntKind.i64.wrap (8 * (i : Int) + (j : Int)) = 8 * (i : Int) + (j : Int) := IntWalk.i64_in _ (by omega)
                clear hx hcell
                by_cases hin : -8000 ≤ x ∧ x ≤ 8000
                · obtain ⟨x0, x1⟩ := hin
                  obtain ⟨y, hye⟩ : ∃ y, y = wsign K j := ⟨_, rfl⟩
                  have hm : -8000 ≤ x * y ∧ x * y ≤ 8000 := by
                    rcases wsign_pm K j with e | e <;> rw [hye, e] <;> omega
                  obtain ⟨hm0, hm1⟩ := hm
                  have hsg := l12Sign_any K j
                  rw [← hye] at hsg
                  have HY := hid hye
                  clear hye
                  have r1 : IntKind.i64.wrap (x * y) = x * y := IntWalk.i64_in _ (by omega)
                  have r2 : IntKind.i64.wrap (s + x * y) = s + x * y := IntWalk.i64_in _ (by omega)
                  go_wp2_with (go_at_call 36; refine (l1In_yes _ _ _ _ (by omega) (by omega)).mono ?_; rintro e w1 ⟨rfl, rfl⟩)
                  go_region_held3 (fun w' => w'.cell? ⟨pb, po + (8 * i + j), none⟩ = some (.int .i64 x)) (first | go_keep | exact hcr) ((go_at_call 37; refine (hsg _ (by omega) (by omega)).mono ?_; rintro e w1 ⟨rfl, rfl⟩))
                  go_wp2
                  go_roundw
                  case rel =>
                    refine ⟨j + 1, m + 1, s + x * y, by omega, by go_num, rfl, hid ?_, by omega, by omega, rfl, hid (allIn_snoc (k := 8 * i + j) HE'.out HX.out (by omega) (by omega))⟩
                    simp only [dpart]
                    rw [HS.out, HY.out, List.getD_eq_getElem?_getD, HX.out]; rfl
                  case measure => simp [intOf]; omega
                · go_wp2_with (go_at_call 36; refine (l1In_no _ _ _ _ (by omega)).mono ?_; rintro e w1 ⟨rfl, rfl⟩)
                  go_ret
                  rw [desp_no (.inr (.inr (.inr (withinB_no fun hh => hin (allIn_get hh.2 HX.out)))))]
                  exact retI_of (own_lit0 _ hsz) (hbelm.alloc hsz _)
              · have e : j = 8 := by omega
                subst e
                clear hlt'
                have hownm : (wo.drewN m).ownsRow w.heap.size 3 1 (.slice AA i cc) i ((despL xs K i).map (Value.int .i64)) := hown
                go_wp2_with (at_builtin; refine wpList_push rfl _ _ _ rfl w.heap.size 3 i0 _ 8 Try.underlying22 hi0 hz0 hz1 hz2 rfl (by omega) _ _ AA i cc _ rfl hownm rfl rfl (by omega) (by simpa using hsz) ?_; intro g' cap w3 hown3 hgrow3 hlies3 hlt3)
                have hbel3 := below_push hbelm hownm (Nat.le_refl _) hbelm.size hgrow3
                go_roundw
                case rel =>
                  refine ⟨i + 1, cap, _, by omega, by go_num, rfl, ?_, hbel3, HE'⟩
                  have e : (despL xs K (i + 1)).map (Value.int .i64) = (despL xs K i).map (Value.int .i64) ++ [.int .i64 s] := by
                    rw [HS.out, dpart_dot]; simp [despL, List.range_succ]
                  rw [e]
                  exact hown3
                case measure => simp [intOf]; omega
          · have e : i = N := by omega
            subst e
            clear hlt
            go_wp2
            go_ret
            refine retI_of (n := i) ?_ hbel
            have HA : AllIn 8000 xs := by
              have := HE.out
              rwa [List.take_of_length_le (by rw [HL.out]; exact Nat.le_refl _)] at this
            rw [despread, if_pos ⟨by omega, by omega, by rw [HL.out]; omega, withinB_iff.2 ⟨by rw [HL.out]; omega, HA⟩⟩, Int.toNat_natCast, HL.out, Nat.mul_div_cancel_left _ (by omega : 0 < 8)]
            exact hown
      · have HK := hid hk
        have hk' : k < 0 ∨ 7 < k := by omega
        clear hk
        have hmod : (n : Int) % 8 = 0 := by omega
        clear h8
        go_enter Try.func26, Try.ntmps26
        go_wp2_with (go_at_call 36; refine (l1In_no _ _ _ _ (by omega)).mono ?_; rintro e w1 ⟨rfl, rfl⟩)
        go_ret
        rw [desp_no (by omega)]
        exact retI_lit0 _ _
    · have hmod : (n : Int) % 8 = 0 := by omega
      clear h8
      go_enter Try.func26, Try.ntmps26
      go_wp2
      go_ret
      rw [desp_no (.inr (.inr (.inr (withinB_no fun hh => by have := HL.out; omega))))]
      exact retI_lit0 _ _
  · have hmod : ¬ (n : Int) % 8 = 0 := by omega
    have H8 := hid h8
    clear h8
    go_enter Try.func26, Try.ntmps26
    go_wp2
    go_ret
    rw [desp_no (.inr (.inr (.inl (by rw [HL.out]; exact H8.out))))]
    exact retI_lit0 _ _
end Go.Proofs.Ytgkkanamnhochaa
