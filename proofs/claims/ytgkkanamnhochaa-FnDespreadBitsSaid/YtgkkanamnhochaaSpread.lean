/-
  SpreadBits, the program's and the reference's, walked.
-/
import Derived.Test.YtgkkanamnhochaaWalshI
import Derived.Test.YtgkkanamnhochaaBits
import Derived.Deep.RegionHeld3
namespace Go.Proofs.Ytgkkanamnhochaa
open Go.RowKit
set_option linter.unusedVariables false

def chip1 (b c : Int) : Int := c * (2 * b - 1)
def spreadL (k : Nat) (bits : List Int) : List Int := bits.flatMap fun b => (walsh k).map (chip1 b)
def spreadBits (bits : List Int) (k : Int) : List Int := if bitsValid bits = true ∧ bits.length ≤ 32 ∧ 0 ≤ k ∧ k ≤ 7 then spreadL k.toNat bits else []
theorem spreadL_len (k : Nat) (bits : List Int) : (spreadL k bits).length = 8 * bits.length := by
  induction bits with
  | nil => rfl
  | cons b bs ih => simp only [spreadL, List.flatMap_cons, List.length_append, List.length_map, walsh_len, List.length_cons] at ih ⊢; omega
theorem spreadL_snoc {k : Nat} {bits : List Int} {i : Nat} {b : Int} (h : bits[i]? = some b) : spreadL k (bits.take (i + 1)) = spreadL k (bits.take i) ++ (walsh k).map (chip1 b) := by
  rw [take_snoc _ _ _ h]
  simp [spreadL]
theorem walsh_get {k j : Nat} (hj : j < 8) : (walsh k)[j]? = some (wsign k j) := by simp [walsh, hj]

theorem walshCode_nil (k : Int) (w : World) (h : ¬ (0 ≤ k ∧ k ≤ 7)) : Calls Try.prog 15 #[.int .i64 k] w fun e w' => e = .returned (.slice none 0 0) ∧ w = w' := by
  by_cases h0 : 0 ≤ k
  · have h1 : ¬ k < 8 := by omega
    go_enter Try.func15, Try.ntmps15
    go_wp2
    go_ret
    exact ⟨rfl, rfl⟩
  · go_enter Try.func15, Try.ntmps15
    go_wp2
    go_ret
    exact ⟨rfl, rfl⟩

theorem spread_no {bits : List Int} {k : Int} (h : bitsValid bits = false ∨ 32 < bits.length ∨ ¬ (0 ≤ k ∧ k ≤ 7)) : spreadBits bits k = [] := by
  rw [spreadBits, if_neg]
  rintro ⟨h1, h2, h3⟩
  rcases h with h | h | h
  · rw [h1] at h; cases h
  · omega
  · exact h h3

set_option maxHeartbeats 1600000 in
theorem spreadBits_impl (A : Option Addr) (n c B : Nat) (bits : List Int) (k : Int) (w : World) (h : RI w B A n bits) (hB : B ≤ w.heap.size) (hn : n ≤ 1000000000) :
    Calls Try.prog 30 #[.slice A n c, .int .i64 k] w fun e w' => RetI 3 w e w' (spreadBits bits k) := by
  have HL := hid (RI.len h)
  obtain ⟨i0, hi0, hz0, hz1, hz2⟩ := info_parts infoI
  have hnil := fun (wx : World) (a : Option Addr) (l cc : Nat) => Lib.run_eql_slice_nil (P := Try.prog) wx 22 3 a l cc 0 0 Try.underlying22
  by_cases hk : 0 ≤ k ∧ k ≤ 7
  · obtain ⟨K, rfl⟩ := Int.eq_ofNat_of_zero_le hk.1
    have hK : K ≤ 7 := by omega
    have HNIL := hid hnil
    clear hnil
    have hws := walshCode_impl (K : Int) w
    rw [walshCode, if_pos hk, Int.toNat_natCast] at hws
    obtain ⟨V, hV⟩ : ∃ V, V = walsh K := ⟨_, rfl⟩
    rw [← hV] at hws
    have HV := hid hV
    clear hV hk
    cases hv : bitsValid bits
    · have HVB := hid hv
      clear hv
      go_enter Try.func30, Try.ntmps30
      go_wp2_with fail
      refine hws.mono ?_
      rintro e w1 ⟨A1, n1, c1, rfl, hown, hb1⟩
      have hr := OwnI.ri hown
      have hn1 : n1 = 8 := by rw [← RI.len hr, HV.out, walsh_len]
      subst hn1
      obtain ⟨g, o, hA1, _⟩ := hr.2 (by omega)
      subst hA1
      have h1 : RI w1 B A n bits := RV.below h (hb1.mono hB)
      have hbv := (bitsValid_impl A n c B bits w1 h1 hn)
      rw [HVB.out] at hbv
      have hnil := HNIL.out
      clear hown hr
      have HB1 := hid hb1
      clear hb1
      go_wp2_with (go_at_call 47; refine hbv.mono ?_; rintro e w2 ⟨rfl, rfl⟩)
      go_ret
      rw [spread_no (.inl HVB.out)]
      exact retI_of (n := 0) (World.ownsRow_nil _ _ _ _) HB1.out
    · have HVB := hid hv
      clear hv
      by_cases h32 : n ≤ 32
      · have hmk : ∀ w, (Instr.makeSlice 22 (.int .i64 0) (.int .i64 ((n : Int) * 8))).run Try.prog w = .ok (.slice (some ⟨w.heap.size, 0, none⟩) 0 (n * 8)) (w.alloc (.cells (madeCells #[.int .i64 0] (n * 8)) 3)) := fun w => by
          have := run_make0 (P := Try.prog) 22 3 (.int .i64 0) 8 Try.underlying22 infoI rfl .i64 .i64 (n * 8) (by omega) (by omega) w
          rwa [show (((n * 8 : Nat)) : Int) = (n : Int) * 8 by omega] at this
        have HMK := hid hmk
        clear hmk
        go_enter Try.func30, Try.ntmps30
        go_wp2_with fail
        refine hws.mono ?_
        rintro e w1 ⟨A1, n1, c1, rfl, hown, hb1⟩
        have hr := OwnI.ri hown
        have hn1 : n1 = 8 := by rw [← RI.len hr, HV.out, walsh_len]
        subst hn1
        obtain ⟨g, o, hA1, hrest⟩ := hr.2 (by omega)
        subst hA1
        clear hrest
        have h1 : RI w1 B A n bits := RV.below h (hb1.mono hB)
        have hbv := (bitsValid_impl A n c B bits w1 h1 hn)
        rw [HVB.out] at hbv
        have hAB := hid (bitsValid_iff.1 HVB.out).2
        have hnil := HNIL.out
        have hmk := HMK.out
        have hB1 : B ≤ w1.heap.size := Nat.le_trans hB hb1.size
        have HB1 := hid hb1
        clear hown hb1 h hws
        go_wp2_with (go_at_call 47; refine hbv.mono ?_; rintro e w2 ⟨rfl, rfl⟩)
        clear hbv
        go_loopw [6, 31] (fun v iv wr => ∃ (i cc : Nat) (AA : Option Addr), i ≤ n ∧ iv = .int .i64 i ∧ v = .slice AA (8 * i) cc ∧ wr.ownsRow w1.heap.size 3 1 (.slice AA (8 * i) cc) (8 * i) ((spreadL K (bits.take i)).map (Value.int .i64)) ∧ Below w1.heap.size w1 wr)
          (fun _ iv _ => n - (intOf iv).toNat)
        case atStart => exact ⟨0, n * 8, _, by omega, rfl, rfl, own_made0 _ _ _ (Nat.le_refl _) (by unfold maxLen; omega), (Below.refl _ _).alloc (Nat.le_refl _) _⟩
        case round =>
          obtain ⟨i, cc, AA, hi, rfl, rfl, hown, hbel⟩ := hrel
          obtain ⟨wo, rfl⟩ : ∃ wo : World, wo = wr := ⟨_, rfl⟩
          by_cases hlt : i < n
          · obtain ⟨pb, po, b, rfl, hpb, hx, hc⟩ := RI.at_ (RV.below h1 (hbel.mono hB1)) hlt
            have hb01 := allBit_get hAB.out hx
            have hb0 : 0 ≤ b := by omega
            have hb1 : b ≤ 1 := by omega
            have HX := hid (spreadL_snoc (k := K) hx)
            clear hx hb01
            go_wp2
            go_loopw [6, 37] (fun v jv wr => ∃ (j cc : Nat) (AA : Option Addr), j ≤ 8 ∧ jv = .int .i64 j ∧ v = .slice AA (8 * i + j) cc ∧ wr.ownsRow w1.heap.size 3 1 (.slice AA (8 * i + j) cc) (8 * i + j) ((spreadL K (bits.take i) ++ (V.take j).map (chip1 b)).map (Value.int .i64)) ∧ Below w1.heap.size w1 wr)
              (fun _ jv _ => 8 - (intOf jv).toNat)
            case atStart => exact ⟨0, cc, AA, by omega, rfl, rfl, by simpa using hown, hbel⟩
            case round =>
              obtain ⟨j, cc', AA', hj, rfl, rfl, hown', hbel'⟩ := hrel
              have hsz' := hbel'.size
              by_cases hlt' : j < 8
              · obtain ⟨qb, qo, x, hqe, hqb, hx', hc'⟩ := RI.at_ (RV.below hr hbel') hlt'
                injection hqe with hqe
                injection hqe with hq1 hq2
                subst hq1 hq2
                have hpm : x = 1 ∨ x = -1 := by
                  have := hx'
                  rw [HV.out, walsh_get hlt'] at this
                  injection this with this
                  rw [← this]; exact wsign_pm _ _
                have hx0 : -1 ≤ x := by omega
                have hx1 : x ≤ 1 := by omega
                have hm : -1 ≤ x * (2 * b - 1) ∧ x * (2 * b - 1) ≤ 1 := by
                  rcases hpm with rfl | rfl <;> omega
                obtain ⟨hm0, hm1⟩ := hm
                have HX' := hid hx'
                clear hx' hpm
                go_wp2_with (at_builtin; refine wpList_push rfl _ _ _ rfl w1.heap.size 3 i0 _ 8 Try.underlying22 hi0 hz0 hz1 hz2 rfl (by omega) _ _ AA' (8 * i + j) cc' _ rfl hown' rfl rfl (by omega) (by omega) ?_; intro g' cap w3 hown3 hgrow3 hlies3 hlt3)
                have hbel3 := below_push hbel' hown' (Nat.le_refl _) (by omega) hgrow3
                go_roundw
                case rel =>
                  refine ⟨j + 1, cap, _, by omega, by go_num, rfl, ?_, hbel3⟩
                  have e : (spreadL K (bits.take i) ++ (V.take (j + 1)).map (chip1 b)).map (Value.int .i64) = (spreadL K (bits.take i) ++ (V.take j).map (chip1 b)).map (Value.int .i64) ++ [.int .i64 (x * (2 * b - 1))] := by
                    rw [take_snoc _ _ _ HX'.out]; simp [chip1]
                  rw [e]
                  exact hown3
                case measure => simp [intOf]; omega
              · have e : j = 8 := by omega
                subst e
                clear hlt'
                go_wp2
                go_roundw
                case rel =>
                  refine ⟨i + 1, cc', AA', by omega, by go_num, rfl, ?_, hbel'⟩
                  rw [show V.take 8 = V from List.take_of_length_le (by rw [HV.out, walsh_len]; exact Nat.le_refl _), HV.out, ← HX.out] at hown'
                  exact hown'
                case measure => simp [intOf]; omega
          · have e : i = n := by omega
            subst e
            clear hlt
            go_wp2
            go_ret
            refine retI_of (n := 8 * i) ?_ (Below.next HB1.out hbel)
            rw [spreadBits, if_pos ⟨HVB.out, by rw [HL.out]; exact h32, by omega, by omega⟩, Int.toNat_natCast]
            rw [List.take_of_length_le (by rw [HL.out]; exact Nat.le_refl _)] at hown
            exact own_base hown HB1.out.size
      · go_enter Try.func30, Try.ntmps30
        go_wp2_with fail
        refine hws.mono ?_
        rintro e w1 ⟨A1, n1, c1, rfl, hown, hb1⟩
        have hr := OwnI.ri hown
        have hn1 : n1 = 8 := by rw [← RI.len hr, HV.out, walsh_len]
        subst hn1
        obtain ⟨g, o, hA1, _⟩ := hr.2 (by omega)
        subst hA1
        have h1 : RI w1 B A n bits := RV.below h (hb1.mono hB)
        have hbv := (bitsValid_impl A n c B bits w1 h1 hn)
        rw [HVB.out] at hbv
        have hnil := HNIL.out
        clear hown hr
        have HB1 := hid hb1
        clear hb1
        go_wp2_with (go_at_call 47; refine hbv.mono ?_; rintro e w2 ⟨rfl, rfl⟩)
        go_ret
        rw [spread_no (.inr (.inl (by rw [HL.out]; omega)))]
        exact retI_of (n := 0) (World.ownsRow_nil _ _ _ _) HB1.out
  · have hws := walshCode_nil k w hk
    have HK := hid hk
    clear hk
    go_enter Try.func30, Try.ntmps30
    go_wp2_with (go_at_call 15; refine hws.mono ?_; rintro e w1 ⟨rfl, rfl⟩)
    go_ret
    rw [spread_no (.inr (.inr HK.out))]
    exact retI_nil _ _
end Go.Proofs.Ytgkkanamnhochaa
