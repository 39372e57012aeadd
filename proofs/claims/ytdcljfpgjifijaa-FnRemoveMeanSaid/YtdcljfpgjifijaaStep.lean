/-
  GainStep, the program's and the reference's, walked.
-/
import Derived.Test.YtdcljfpgjifijaaMean
namespace Go.Proofs.Ytdcljfpgjifijaa
open Go.RowKit
set_option linter.unusedVariables false

theorem peakF_bd {b : Int} (hb : 0 ≤ b) {xs : List Int} (h : AllIn b xs) : ∀ p : Int, 0 ≤ p → p ≤ b → 0 ≤ xs.foldl (fun p x => max p (max x (-x))) p ∧ xs.foldl (fun p x => max p (max x (-x))) p ≤ b := by
  induction xs with
  | nil => intro p h0 h1; exact ⟨h0, h1⟩
  | cons x xs ih =>
    intro p h0 h1
    have hx := h x (by simp)
    exact ih (fun y hy => h y (by simp [hy])) (max p (max x (-x))) (by omega) (by omega)
theorem peakOf_bd (xs : List Int) : peakOf xs = -1 ∨ (0 ≤ peakOf xs ∧ peakOf xs ≤ 1000) := by
  unfold peakOf
  split
  · rename_i h
    exact .inr (peakF_bd (by omega) (withinB_iff.1 h).2 0 (by omega) (by omega))
  · exact .inl rfl
/-- One step of the gain g, with the peak p, to the wanted peak t. -/
def step1 (g p t : Int) : Int :=
  if p < 0 ∨ g < 1 ∨ 4096 < g ∨ t < 1 ∨ 1000 < t then 0
  else if p = 0 then g
  else if (p * g).tdiv 256 < t then clip (g + max (g / 16) 1) 1 4096
  else if t < (p * g).tdiv 256 then clip (g - max (g / 16) 1) 1 4096
  else g
def gainStep (g : Int) (xs : List Int) (t : Int) : Int := step1 g (peakOf xs) t

theorem step1_no {g p t : Int} (h : p < 0 ∨ g < 1 ∨ 4096 < g ∨ t < 1 ∨ 1000 < t) : step1 g p t = 0 := by rw [step1, if_pos h]
theorem step1_zero {g t : Int} (h1 : 1 ≤ g) (h2 : g ≤ 4096) (h3 : 1 ≤ t) (h4 : t ≤ 1000) : step1 g 0 t = g := by rw [step1, if_neg (by omega), if_pos rfl]
theorem step1_up {g p t : Int} (h1 : 1 ≤ g) (h2 : g ≤ 4096) (h3 : 1 ≤ t) (h4 : t ≤ 1000) (h5 : 1 ≤ p) (h : (p * g).tdiv 256 < t) : step1 g p t = clip (g + max (g / 16) 1) 1 4096 := by
  rw [step1, if_neg (by omega), if_neg (by omega), if_pos h]
theorem step1_down {g p t : Int} (h1 : 1 ≤ g) (h2 : g ≤ 4096) (h3 : 1 ≤ t) (h4 : t ≤ 1000) (h5 : 1 ≤ p) (h : t < (p * g).tdiv 256) : step1 g p t = clip (g - max (g / 16) 1) 1 4096 := by
  rw [step1, if_neg (by omega), if_neg (by omega), if_neg (by omega), if_pos h]
theorem step1_same {g p t : Int} (h1 : 1 ≤ g) (h2 : g ≤ 4096) (h3 : 1 ≤ t) (h4 : t ≤ 1000) (h5 : 1 ≤ p) (h : t = (p * g).tdiv 256) : step1 g p t = g := by
  rw [step1, if_neg (by omega), if_neg (by omega), if_neg (by omega), if_neg (by omega)]

set_option maxHeartbeats 1600000 in
theorem gainStep_impl (g : Int) (A : Option Addr) (n c B : Nat) (xs : List Int) (t : Int) (w : World) (h : RI w B A n xs) (hn : n ≤ 1000000000) :
    Calls Try.prog 30 #[.int .i64 g, .slice A n c, .int .i64 t] w fun e w' => e = .returned (.int .i64 (gainStep g xs t)) ∧ w = w' := by
  have hp := peakOf_impl A n c B xs w h hn
  have hb := peakOf_bd xs
  unfold gainStep
  generalize peakOf xs = p at hp hb
  by_cases g1 : 1 ≤ g
  · by_cases g2 : g ≤ 4096
    · by_cases p0 : 0 ≤ p
      · by_cases t1 : 1 ≤ t
        · by_cases t2 : t ≤ 1000
          · by_cases pz : p = 0
            · subst pz
              go_enter Try.func30, Try.ntmps30
              go_wp2_with (first | (go_at_call 14; refine hp.mono ?_; rintro e w1 ⟨rfl, rfl⟩) | (go_at_call 40; refine (times_any g p _ (by omega) (by omega) g1 g2).mono ?_; rintro e w1 ⟨rfl, rfl⟩) | (go_at_call 39; refine (clamp_any _ _ _ _).mono ?_; rintro e w1 ⟨rfl, rfl⟩) | go_in)
              go_ret
              exact ⟨ret_int (step1_zero g1 g2 t1 t2).symm, rfl⟩
            · have hpz : (p == 0) = false := by simpa using pz
              have hp1 : p ≤ 1000 := by omega
              have hp5 : 1 ≤ p := by omega
              have hm := mul_bd (n := p) (g := g) (by omega) hp1 g1 g2
              obtain ⟨hm1, hm2⟩ := hm
              have ht := tdiv_bd hm1 hm2
              obtain ⟨ht1, ht2⟩ := ht
              clear hb
              rcases Int.lt_trichotomy ((p * g).tdiv 256) t with l1 | l1 | l1
              · have hne : (((p * g).tdiv 256 == t)) = false := by simp; omega
                have hne2 : ¬ ((p * g).tdiv 256 = t) := by omega
                by_cases d1 : 1 ≤ g / 16
                all_goals
                  go_enter Try.func30, Try.ntmps30
                  go_wp2_with (first | (go_at_call 14; refine hp.mono ?_; rintro e w1 ⟨rfl, rfl⟩) | (go_at_call 40; refine (times_any g p _ (by omega) (by omega) g1 g2).mono ?_; rintro e w1 ⟨rfl, rfl⟩) | (go_at_call 39; refine (clamp_any _ _ _ _).mono ?_; rintro e w1 ⟨rfl, rfl⟩) | go_in)
                  go_ret
                  exact ⟨ret_int (by rw [step1_up g1 g2 t1 t2 hp5 l1]; first | (congr 1; omega) | (congr 1; done)), rfl⟩
              · have L1 := hid l1
                have hne : (((p * g).tdiv 256 == t)) = true := by simpa using l1
                have hle : ¬ ((p * g).tdiv 256 < t) := by omega
                have hle2 : ¬ (t < (p * g).tdiv 256) := by omega
                clear l1
                by_cases d1 : 1 ≤ g / 16
                all_goals
                  go_enter Try.func30, Try.ntmps30
                  go_wp2_with (first | (go_at_call 14; refine hp.mono ?_; rintro e w1 ⟨rfl, rfl⟩) | (go_at_call 40; refine (times_any g p _ (by omega) (by omega) g1 g2).mono ?_; rintro e w1 ⟨rfl, rfl⟩) | (go_at_call 39; refine (clamp_any _ _ _ _).mono ?_; rintro e w1 ⟨rfl, rfl⟩) | go_in)
                  go_ret
                  exact ⟨ret_int (by first | (rw [step1_same g1 g2 t1 t2 hp5 L1.out.symm]; done) | (rw [step1_same g1 g2 t1 t2 hp5 L1.out.symm]; unfold clip; omega)), rfl⟩
              · have hne : (((p * g).tdiv 256 == t)) = false := by simp; omega
                have hne2 : ¬ ((p * g).tdiv 256 = t) := by omega
                by_cases d1 : 1 ≤ g / 16
                all_goals
                  go_enter Try.func30, Try.ntmps30
                  go_wp2_with (first | (go_at_call 14; refine hp.mono ?_; rintro e w1 ⟨rfl, rfl⟩) | (go_at_call 40; refine (times_any g p _ (by omega) (by omega) g1 g2).mono ?_; rintro e w1 ⟨rfl, rfl⟩) | (go_at_call 39; refine (clamp_any _ _ _ _).mono ?_; rintro e w1 ⟨rfl, rfl⟩) | go_in)
                  go_ret
                  exact ⟨ret_int (by rw [step1_down g1 g2 t1 t2 hp5 l1]; first | (congr 1; omega) | (congr 1; done)), rfl⟩
          · go_enter Try.func30, Try.ntmps30
            go_wp2_with (first | (go_at_call 14; refine hp.mono ?_; rintro e w1 ⟨rfl, rfl⟩) | (go_at_call 40; refine (times_any g p _ (by omega) (by omega) g1 g2).mono ?_; rintro e w1 ⟨rfl, rfl⟩) | (go_at_call 39; refine (clamp_any _ _ _ _).mono ?_; rintro e w1 ⟨rfl, rfl⟩) | go_in)
            go_ret
            exact ⟨ret_int (step1_no (by omega)).symm, rfl⟩
        · go_enter Try.func30, Try.ntmps30
          go_wp2_with (first | (go_at_call 14; refine hp.mono ?_; rintro e w1 ⟨rfl, rfl⟩) | (go_at_call 40; refine (times_any g p _ (by omega) (by omega) g1 g2).mono ?_; rintro e w1 ⟨rfl, rfl⟩) | (go_at_call 39; refine (clamp_any _ _ _ _).mono ?_; rintro e w1 ⟨rfl, rfl⟩) | go_in)
          go_ret
          exact ⟨ret_int (step1_no (by omega)).symm, rfl⟩
      · go_enter Try.func30, Try.ntmps30
        go_wp2_with (first | (go_at_call 14; refine hp.mono ?_; rintro e w1 ⟨rfl, rfl⟩) | (go_at_call 40; refine (times_any g p _ (by omega) (by omega) g1 g2).mono ?_; rintro e w1 ⟨rfl, rfl⟩) | (go_at_call 39; refine (clamp_any _ _ _ _).mono ?_; rintro e w1 ⟨rfl, rfl⟩) | go_in)
        go_ret
        exact ⟨ret_int (step1_no (by omega)).symm, rfl⟩
    · go_enter Try.func30, Try.ntmps30
      go_wp2_with (first | (go_at_call 14; refine hp.mono ?_; rintro e w1 ⟨rfl, rfl⟩) | (go_at_call 40; refine (times_any g p _ (by omega) (by omega) g1 g2).mono ?_; rintro e w1 ⟨rfl, rfl⟩) | (go_at_call 39; refine (clamp_any _ _ _ _).mono ?_; rintro e w1 ⟨rfl, rfl⟩) | go_in)
      all_goals
        go_ret
        exact ⟨ret_int (step1_no (by omega)).symm, rfl⟩
  · go_enter Try.func30, Try.ntmps30
    go_wp2_with (first | (go_at_call 14; refine hp.mono ?_; rintro e w1 ⟨rfl, rfl⟩) | (go_at_call 40; refine (times_any g p _ (by omega) (by omega) g1 g2).mono ?_; rintro e w1 ⟨rfl, rfl⟩) | (go_at_call 39; refine (clamp_any _ _ _ _).mono ?_; rintro e w1 ⟨rfl, rfl⟩) | go_in)
    all_goals
      go_ret
      exact ⟨ret_int (step1_no (by omega)).symm, rfl⟩

set_option maxHeartbeats 1600000 in
theorem gainStep_spec (g : Int) (A : Option Addr) (n c B : Nat) (xs : List Int) (t : Int) (w : World) (h : RI w B A n xs) (hn : n ≤ 1000000000) :
    Calls Try.prog 29 #[.int .i64 g, .slice A n c, .int .i64 t] w fun e w' => e = .returned (.int .i64 (gainStep g xs t)) ∧ ∃ m, w' = w.drewN m := by
  have hp := peakOf_spec A n c B xs w h hn
  have hb := peakOf_bd xs
  unfold gainStep
  generalize peakOf xs = p at hp hb
  by_cases g1 : 1 ≤ g
  · by_cases g2 : g ≤ 4096
    · by_cases p0 : 0 ≤ p
      · by_cases t1 : 1 ≤ t
        · by_cases t2 : t ≤ 1000
          · by_cases pz : p = 0
            · subst pz
              go_enter Try.func29, Try.ntmps29
              go_wp2_with (first | (go_at_call 12; refine hp.mono ?_; rintro e w1 ⟨rfl, m, rfl⟩) | (go_at_call 36; refine (l1In_yes _ _ _ _ (by omega) (by omega)).mono ?_; rintro e w1 ⟨rfl, rfl⟩) | (go_at_call 36; refine (l1In_no _ _ _ _ (by omega)).mono ?_; rintro e w1 ⟨rfl, rfl⟩) | (go_at_call 37; refine (l1Clip_any _ _ _ _ (by omega)).mono ?_; rintro e w1 ⟨rfl, rfl⟩))
              all_goals
                go_ret
                exact ⟨ret_int (step1_zero g1 g2 t1 t2).symm, _, rfl⟩
            · have hpz : (p == 0) = false := by simpa using pz
              have hp1 : p ≤ 1000 := by omega
              have hp5 : 1 ≤ p := by omega
              have hm := mul_bd (n := p) (g := g) (by omega) hp1 g1 g2
              obtain ⟨hm1, hm2⟩ := hm
              have ht := tdiv_bd hm1 hm2
              obtain ⟨ht1, ht2⟩ := ht
              clear hb
              rcases Int.lt_trichotomy ((p * g).tdiv 256) t with l1 | l1 | l1
              · have hne : (((p * g).tdiv 256 == t)) = false := by simp; omega
                have hne2 : ¬ ((p * g).tdiv 256 = t) := by omega
                by_cases d1 : 1 < g / 16
                all_goals
                  go_enter Try.func29, Try.ntmps29
                  go_wp2_with (first | (go_at_call 12; refine hp.mono ?_; rintro e w1 ⟨rfl, m, rfl⟩) | (go_at_call 36; refine (l1In_yes _ _ _ _ (by omega) (by omega)).mono ?_; rintro e w1 ⟨rfl, rfl⟩) | (go_at_call 36; refine (l1In_no _ _ _ _ (by omega)).mono ?_; rintro e w1 ⟨rfl, rfl⟩) | (go_at_call 37; refine (l1Clip_any _ _ _ _ (by omega)).mono ?_; rintro e w1 ⟨rfl, rfl⟩))
                  all_goals
                    go_ret
                    exact ⟨ret_int (by rw [step1_up g1 g2 t1 t2 hp5 l1]; first | (congr 1; omega) | (congr 1; done)), _, rfl⟩
              · have L1 := hid l1
                have hne : (((p * g).tdiv 256 == t)) = true := by simpa using l1
                have hle : ¬ ((p * g).tdiv 256 < t) := by omega
                have hle2 : ¬ (t < (p * g).tdiv 256) := by omega
                clear l1
                by_cases d1 : 1 < g / 16
                all_goals
                  go_enter Try.func29, Try.ntmps29
                  go_wp2_with (first | (go_at_call 12; refine hp.mono ?_; rintro e w1 ⟨rfl, m, rfl⟩) | (go_at_call 36; refine (l1In_yes _ _ _ _ (by omega) (by omega)).mono ?_; rintro e w1 ⟨rfl, rfl⟩) | (go_at_call 36; refine (l1In_no _ _ _ _ (by omega)).mono ?_; rintro e w1 ⟨rfl, rfl⟩) | (go_at_call 37; refine (l1Clip_any _ _ _ _ (by omega)).mono ?_; rintro e w1 ⟨rfl, rfl⟩))
                  all_goals
                    go_ret
                    exact ⟨ret_int (by first | (rw [step1_same g1 g2 t1 t2 hp5 L1.out.symm]; done) | (rw [step1_same g1 g2 t1 t2 hp5 L1.out.symm]; unfold clip; omega)), _, rfl⟩
              · have hne : (((p * g).tdiv 256 == t)) = false := by simp; omega
                have hne2 : ¬ ((p * g).tdiv 256 = t) := by omega
                by_cases d1 : 1 < g / 16
                all_goals
                  go_enter Try.func29, Try.ntmps29
                  go_wp2_with (first | (go_at_call 12; refine hp.mono ?_; rintro e w1 ⟨rfl, m, rfl⟩) | (go_at_call 36; refine (l1In_yes _ _ _ _ (by omega) (by omega)).mono ?_; rintro e w1 ⟨rfl, rfl⟩) | (go_at_call 36; refine (l1In_no _ _ _ _ (by omega)).mono ?_; rintro e w1 ⟨rfl, rfl⟩) | (go_at_call 37; refine (l1Clip_any _ _ _ _ (by omega)).mono ?_; rintro e w1 ⟨rfl, rfl⟩))
                  all_goals
                    go_ret
                    exact ⟨ret_int (by rw [step1_down g1 g2 t1 t2 hp5 l1]; first | (congr 1; omega) | (congr 1; done)), _, rfl⟩
          · go_enter Try.func29, Try.ntmps29
            go_wp2_with (first | (go_at_call 12; refine hp.mono ?_; rintro e w1 ⟨rfl, m, rfl⟩) | (go_at_call 36; refine (l1In_yes _ _ _ _ (by omega) (by omega)).mono ?_; rintro e w1 ⟨rfl, rfl⟩) | (go_at_call 36; refine (l1In_no _ _ _ _ (by omega)).mono ?_; rintro e w1 ⟨rfl, rfl⟩) | (go_at_call 37; refine (l1Clip_any _ _ _ _ (by omega)).mono ?_; rintro e w1 ⟨rfl, rfl⟩))
            go_ret
            exact ⟨ret_int (step1_no (by omega)).symm, _, rfl⟩
        · go_enter Try.func29, Try.ntmps29
          go_wp2_with (first | (go_at_call 12; refine hp.mono ?_; rintro e w1 ⟨rfl, m, rfl⟩) | (go_at_call 36; refine (l1In_yes _ _ _ _ (by omega) (by omega)).mono ?_; rintro e w1 ⟨rfl, rfl⟩) | (go_at_call 36; refine (l1In_no _ _ _ _ (by omega)).mono ?_; rintro e w1 ⟨rfl, rfl⟩) | (go_at_call 37; refine (l1Clip_any _ _ _ _ (by omega)).mono ?_; rintro e w1 ⟨rfl, rfl⟩))
          go_ret
          exact ⟨ret_int (step1_no (by omega)).symm, _, rfl⟩
      · go_enter Try.func29, Try.ntmps29
        go_wp2_with (first | (go_at_call 12; refine hp.mono ?_; rintro e w1 ⟨rfl, m, rfl⟩) | (go_at_call 36; refine (l1In_yes _ _ _ _ (by omega) (by omega)).mono ?_; rintro e w1 ⟨rfl, rfl⟩) | (go_at_call 36; refine (l1In_no _ _ _ _ (by omega)).mono ?_; rintro e w1 ⟨rfl, rfl⟩) | (go_at_call 37; refine (l1Clip_any _ _ _ _ (by omega)).mono ?_; rintro e w1 ⟨rfl, rfl⟩))
        go_ret
        exact ⟨ret_int (step1_no (by omega)).symm, _, rfl⟩
    · go_enter Try.func29, Try.ntmps29
      go_wp2_with (first | (go_at_call 12; refine hp.mono ?_; rintro e w1 ⟨rfl, m, rfl⟩) | (go_at_call 36; refine (l1In_yes _ _ _ _ (by omega) (by omega)).mono ?_; rintro e w1 ⟨rfl, rfl⟩) | (go_at_call 36; refine (l1In_no _ _ _ _ (by omega)).mono ?_; rintro e w1 ⟨rfl, rfl⟩) | (go_at_call 37; refine (l1Clip_any _ _ _ _ (by omega)).mono ?_; rintro e w1 ⟨rfl, rfl⟩))
      all_goals
        go_ret
        exact ⟨ret_int (step1_no (by omega)).symm, _, rfl⟩
  · go_enter Try.func29, Try.ntmps29
    go_wp2_with (first | (go_at_call 12; refine hp.mono ?_; rintro e w1 ⟨rfl, m, rfl⟩) | (go_at_call 36; refine (l1In_yes _ _ _ _ (by omega) (by omega)).mono ?_; rintro e w1 ⟨rfl, rfl⟩) | (go_at_call 36; refine (l1In_no _ _ _ _ (by omega)).mono ?_; rintro e w1 ⟨rfl, rfl⟩) | (go_at_call 37; refine (l1Clip_any _ _ _ _ (by omega)).mono ?_; rintro e w1 ⟨rfl, rfl⟩))
    all_goals
      go_ret
      exact ⟨ret_int (step1_no (by omega)).symm, _, rfl⟩

end Go.Proofs.Ytdcljfpgjifijaa
