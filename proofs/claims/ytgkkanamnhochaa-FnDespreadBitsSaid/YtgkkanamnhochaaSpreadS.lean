/-
  The reference's BitsValid and SpreadBits, walked.
-/
import Derived.Test.YtgkkanamnhochaaSpread
namespace Go.Proofs.Ytgkkanamnhochaa
open Go.RowKit
set_option linter.unusedVariables false

theorem bitsValid_spec (A : Option Addr) (n c B : Nat) (xs : List Int) (w : World) (h : RI w B A n xs) (hn : n ≤ 1000000000) :
    Calls Try.prog 46 #[.slice A n c] w fun e w' => e = .returned (.bool (bitsValid xs)) ∧ w = w' := by
  have HL := hid (RI.len h)
  go_enter Try.func46, Try.ntmps46
  go_wp2
  go_loop [3] (fun i => ∃ k : Nat, k ≤ n ∧ i = .int .i64 k ∧ Hid (AllBit (xs.take k))) (fun i => n - (intOf i).toNat)
  case atStart => exact ⟨0, Nat.zero_le _, rfl, hid (by rw [List.take_zero]; exact allBit_nil)⟩
  case round =>
    obtain ⟨k, hk, rfl, HE⟩ := hrel
    by_cases hlt : k < n
    · obtain ⟨p, o, x, rfl, hb, hx, hc⟩ := RI.at_ h hlt
      have HX := hid hx
      clear hx
      by_cases h1 : 0 ≤ x ∧ x ≤ 1
      · obtain ⟨h1, h2⟩ := h1
        go_wp2_with (go_at_call 36; refine (l1In_yes _ _ _ _ (by omega) (by omega)).mono ?_; rintro e w1 ⟨rfl, rfl⟩)
        go_round
        case rel => exact ⟨k + 1, by omega, by go_num, hid (allBit_snoc HE.out HX.out (by omega))⟩
        case measure => simp [intOf]; omega
      · go_wp2_with (go_at_call 36; refine (l1In_no _ _ _ _ (by omega)).mono ?_; rintro e w1 ⟨rfl, rfl⟩)
        go_ret
        exact ⟨ret_bool (bitsValid_no fun hh => by have := allBit_get hh.2 HX.out; omega).symm, rfl⟩
    · by_cases hl : n ≤ 1024
      · go_wp2
        go_ret
        refine ⟨ret_bool ?_, rfl⟩
        rw [bitsValid_iff.2 ⟨by rw [HL.out]; exact hl, allBit_whole HE.out HL.out (by omega)⟩]
        simp; omega
      · go_wp2
        go_ret
        refine ⟨ret_bool ?_, rfl⟩
        rw [bitsValid_no fun hh => by rw [HL.out] at hh; omega]
        simp; omega

set_option maxHeartbeats 1600000 in
theorem spreadBits_spec (A : Option Addr) (n c B : Nat) (bits : List Int) (k : Int) (w : World) (h : RI w B A n bits) (hB : B ≤ w.heap.size) (hn : n ≤ 1000000000) :
    Calls Try.prog 29 #[.slice A n c, .int .i64 k] w fun e w' => RetI 3 w e w' (spreadBits bits k) := by
  have HL := hid (RI.len h)
  obtain ⟨i0, hi0, hz0, hz1, hz2⟩ := info_parts infoI
  have hbv := fun wx hx => bitsValid_spec A n c B bits wx hx hn
  cases hv : bitsValid bits
  · have HVB := hid hv
    rw [hv] at hbv
    clear hv
    go_enter Try.func29, Try.ntmps29
    go_wp2_with (go_at_call 46; refine (hbv _ (RV.alloc h hB _)).mono ?_; rintro e w1 ⟨rfl, rfl⟩)
    go_ret
    rw [spread_no (.inl HVB.out)]
    exact retI_lit0 _ _
  · have HVB := hid hv
    rw [hv] at hbv
    clear hv
    by_cases h32 : n ≤ 32
    · by_cases hk : 0 ≤ k ∧ k ≤ 7
      · obtain ⟨K, rfl⟩ := Int.eq_ofNat_of_zero_le hk.1
        have hK : K ≤ 7 := by omega
        have hAB := hid (bitsValid_iff.1 HVB.out).2
        clear hk
        go_enter Try.func29, Try.ntmps29
        go_wp2_with (first | (go_at_call 46; refine (hbv _ (RV.alloc h hB _)).mono ?_; rintro e w1 ⟨rfl, rfl⟩) | (go_at_call 36; refine (l1In_yes _ _ _ _ (by omega) (by omega)).mono ?_; rintro e w1 ⟨rfl, rfl⟩))
        clear hbv
        go_loopw [5, 6] (fun v iv wr => ∃ (i cc : Nat) (AA : Option Addr), i ≤ n ∧ iv = .int .i64 i ∧ v = .slice AA (8 * i) cc ∧ wr.ownsRow w.heap.size 3 1 (.slice AA (8 * i) cc) (8 * i) ((spreadL K (bits.take i)).map (Value.int .i64)) ∧ Below w.heap.size w wr)
          (fun _ iv _ => n - (intOf iv).toNat)
        case atStart => exact ⟨0, 0, _, by omega, rfl, rfl, own_lit0 _ (Nat.le_refl _), (Below.refl _ _).alloc (Nat.le_refl _) _⟩
        case round =>
          obtain ⟨i, cc, AA, hi, rfl, rfl, hown, hbel⟩ := hrel
          obtain ⟨wo, rfl⟩ : ∃ wo : World, wo = wr := ⟨_, rfl⟩
          by_cases hlt : i < n
          · obtain ⟨pb, po, b, rfl, hpb, hx, hc⟩ := RI.at_ h hlt
            have hb01 := allBit_get hAB.out hx
            have hb0 : 0 ≤ b := by omega
            have hb1 : b ≤ 1 := by omega
            have HX := hid (spreadL_snoc (k := K) hx)
            clear hx hb01
            go_wp2
            go_loopw [5, 7] (fun v jv wr => ∃ (j cc : Nat) (AA : Option Addr), j ≤ 8 ∧ jv = .int .i64 j ∧ v = .slice AA (8 * i + j) cc ∧ wr.ownsRow w.heap.size 3 1 (.slice AA (8 * i + j) cc) (8 * i + j) ((spreadL K (bits.take i) ++ ((walsh K).take j).map (chip1 b)).map (Value.int .i64)) ∧ Below w.heap.size w wr)
              (fun _ jv _ => 8 - (intOf jv).toNat)
            case atStart => exact ⟨0, cc, AA, by omega, rfl, rfl, by simpa using hown, hbel⟩
            case round =>
              obtain ⟨j, cc', AA', hj, rfl, rfl, hown', hbel'⟩ := hrel
              have hsz' := hbel'.size
              by_cases hlt' : j < 8
              · have hcr : wr.cell? ⟨pb, po + i, none⟩ = some (.int .i64 b) := (hbel'.cell (p := ⟨pb, po + i, none⟩) (by show pb < _; omega)).trans hc
                obtain ⟨x, hxe⟩ : ∃ x, x = wsign K j := ⟨_, rfl⟩
                have hpm : x = 1 ∨ x = -1 := by rw [hxe]; exact wsign_pm _ _
                have hm : -1 ≤ (2 * b - 1) * x ∧ (2 * b - 1) * x ≤ 1 := by
                  rcases hpm with rfl | rfl <;> omega
                obtain ⟨hm0, hm1⟩ := hm
                have hsg := l12Sign_any K j
                rw [← hxe] at hsg
                have HXE := hid hxe
                clear hxe hpm hown
                have i0' : (0 : Int) ≤ (i : Int) := by omega
                have i1' : (i : Int) < (n : Int) := by omega
                have r1 : IntKind.i64.wrap (2 * b) = 2 * b := IntWalk.i64_in _ (by omega)
                have r2 : IntKind.i64.wrap (2 * b - 1) = 2 * b - 1 := IntWalk.i64_in _ (by omega)
                have r3 : IntKind.i64.wrap ((2 * b - 1) * x) = (2 * b - 1) * x := IntWalk.i64_in _ (by omega)
                have hownA := hown'.alloc (.cells #[.int .i64 ((2 * b - 1) * x)] 3)
                have hcellA := cell_new0 wr (.int .i64 ((2 * b - 1) * x)) 3
                have hcA : (wr.alloc (.cells #[.int .i64 ((2 * b - 1) * x)] 3)).cell? ⟨pb, po + i, none⟩ = some (.int .i64 b) := (World.cell?_alloc_lt wr _ _ (by show pb < _; omega)).trans hcr
                have hneA : some (⟨pb, po + i, none⟩ : Addr).block ≠ Value.ownBlock (.slice AA' (8 * i + j) cc') := fun e => by have := (hown'.lt pb e.symm).1; omega
                have hj9 : 8 * i + j ≤ 1000000000 := by omega
                have hsz'' : w.heap.size ≤ (wr.alloc (.cells #[.int .i64 ((2 * b - 1) * x)] 3)).heap.size := by simp; omega
                go_wp2
                go_region_held3 (fun w' => w'.cell? ⟨pb, po + i, none⟩ = some (.int .i64 b)) (first | go_keep | exact hgrow1.cell hcA hneA) (first | (go_at_call 37; refine (hsg _ (by omega) (by omega)).mono ?_; rintro e w1 ⟨rfl, rfl⟩) | ((refine step_push (o := ⟨some 45, _, _, _, _, _⟩) rfl (.tmp 33) (.tmp 44) 22 (by rfl) w.heap.size 3 i0 (.int .i64 0) 8 Try.underlying22 hi0 hz0 hz1 hz2 rfl (by decide) (.int .i64 ((2 * b - 1) * x)) wr.heap.size AA' (8 * i + j) cc' ((spreadL K (bits.take i) ++ ((walsh K).take j).map (chip1 b)).map (Value.int .i64)) (by rfl) hownA (by rfl) hcellA rfl hj9 hsz'' ?_; intro g' cap w1 hown1 hgrow1 hlies1 hlt1)))
                have hbel1 := below_push (hbel'.alloc (by omega) _) hownA (Nat.le_refl _) hsz'' (grown_undrew hgrow1)
                go_wp2
                go_roundw
                case rel =>
                  refine ⟨j + 1, cap, _, by omega, by go_num, rfl, ?_, hbel1⟩
                  have e : (spreadL K (bits.take i) ++ ((walsh K).take (j + 1)).map (chip1 b)).map (Value.int .i64) = (spreadL K (bits.take i) ++ ((walsh K).take j).map (chip1 b)).map (Value.int .i64) ++ [.int .i64 ((2 * b - 1) * x)] := by
                    rw [take_snoc _ _ _ (walsh_get hlt'), HXE.out]; simp [chip1, Int.mul_comm]
                  rw [e]
                  exact hown1
                case measure => simp [intOf]; omega
              · have e : j = 8 := by omega
                subst e
                clear hlt'
                go_wp2
                go_roundw
                case rel =>
                  refine ⟨i + 1, cc', AA', by omega, by go_num, rfl, ?_, hbel'⟩
                  rw [show (walsh K).take 8 = walsh K from List.take_of_length_le (by rw [walsh_len]; exact Nat.le_refl _), ← HX.out] at hown'
                  exact hown'
                case measure => simp [intOf]; omega
          · have e : i = n := by omega
            subst e
            clear hlt
            go_wp2
            go_ret
            refine retI_of (n := 8 * i) ?_ hbel
            rw [spreadBits, if_pos ⟨HVB.out, by rw [HL.out]; exact h32, by omega, by omega⟩, Int.toNat_natCast]
            rwa [List.take_of_length_le (by rw [HL.out]; exact Nat.le_refl _)] at hown
      · have HK := hid hk
        have hk' : k < 0 ∨ 7 < k := by omega
        clear hk
        go_enter Try.func29, Try.ntmps29
        go_wp2_with (first | (go_at_call 46; refine (hbv _ (RV.alloc h hB _)).mono ?_; rintro e w1 ⟨rfl, rfl⟩) | (go_at_call 36; refine (l1In_no _ _ _ _ (by omega)).mono ?_; rintro e w1 ⟨rfl, rfl⟩))
        go_ret
        rw [spread_no (.inr (.inr HK.out))]
        exact retI_lit0 _ _
    · go_enter Try.func29, Try.ntmps29
      go_wp2_with (first | (go_at_call 46; refine (hbv _ (RV.alloc h hB _)).mono ?_; rintro e w1 ⟨rfl, rfl⟩))
      go_ret
      rw [spread_no (.inr (.inl (by rw [HL.out]; omega)))]
      exact retI_lit0 _ _
end Go.Proofs.Ytgkkanamnhochaa
