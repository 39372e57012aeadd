/-
  FnGainStep, walked: gains move towards the wanted peak.
-/
import Derived.Test.YtdcljfpgjifijaaDGain
import Derived.Test.YtdcljfpgjifijaaAlive
import Derived.Test.YtdcljfpgjifijaaStep
import Derived.Test.YtdcljfpgjifijaaLPeakOf
namespace Go.Proofs.Ytdcljfpgjifijaa
open Go.RowKit
set_option linter.unusedVariables false

theorem step1_facts {g p t n : Int} (hn : n = step1 g p t) (h0 : n ≠ 0) (hp : 0 ≤ p ∧ p ≤ 1000 ∨ p = -1) :
    1 ≤ n ∧ n ≤ 4096 ∧ 1 ≤ g ∧ g ≤ 4096 ∧ 0 ≤ p ∧ p ≤ 1000 ∧ absI (n - g) ≤ max 1 (g / 16) ∧ (n ≤ g ∨ (p * g).tdiv 256 < t) ∧ (g ≤ n ∨ t < (p * g).tdiv 256) := by
  by_cases hb : p < 0 ∨ g < 1 ∨ 4096 < g ∨ t < 1 ∨ 1000 < t
  · rw [step1_no hb] at hn; exact absurd hn h0
  · have hp' : 0 ≤ p ∧ p ≤ 1000 := by omega
    have b1 : 1 ≤ g := by omega
    have b2 : g ≤ 4096 := by omega
    have b3 : 1 ≤ t := by omega
    have b4 : t ≤ 1000 := by omega
    by_cases hp0 : p = 0
    · subst hp0
      rw [step1_zero b1 b2 b3 b4] at hn
      subst hn
      refine ⟨b1, b2, b1, b2, by omega, by omega, by unfold absI; omega, .inl (Int.le_refl _), .inl (Int.le_refl _)⟩
    · have b5 : 1 ≤ p := by omega
      rcases Int.lt_trichotomy ((p * g).tdiv 256) t with hc | hc | hc
      · rw [step1_up b1 b2 b3 b4 b5 hc] at hn
        unfold clip at hn
        refine ⟨by omega, by omega, b1, b2, by omega, by omega, by unfold absI; omega, .inr hc, .inl (by omega)⟩
      · rw [step1_same b1 b2 b3 b4 b5 hc.symm] at hn
        subst hn
        refine ⟨b1, b2, b1, b2, by omega, by omega, by unfold absI; omega, .inl (Int.le_refl _), .inl (Int.le_refl _)⟩
      · rw [step1_down b1 b2 b3 b4 b5 hc] at hn
        unfold clip at hn
        refine ⟨by omega, by omega, b1, b2, by omega, by omega, by unfold absI; omega, .inl (by omega), .inr hc⟩

set_option maxHeartbeats 1600000 in
theorem fnGainStep_walk {A : Option Addr} {n c : Nat} {bs : List Int} (w : World) (h : RV w w.heap.size A n (bs.map (Value.int .u8))) (wf : ∀ x ∈ bs, (Lit.int .u8 x).wf = true) (hl : n ≤ c) (hm : c ≤ maxLen) :
    Calls Try.prog 11 #[.slice A n c] w fun e w' => e = .returned (.bool true) ∧ Below w.heap.size w w' := by
  unfold maxLen at hm
  by_cases hn : n ≤ 1048576
  · have hd := drawGainStep_any A n c w.heap.size bs w h (Nat.le_refl _) hl hn (fun x hx => bounds_u8 (wf x hx))
    clear wf h
    have hbel : Below w.heap.size w w := Below.refl _ _
    go_enter Try.func11, Try.ntmps11
    go_wp2_with fail
    refine (hd).mono ?_
    rintro e w1 ⟨g, A1, n1, c1, xs, t, rfl, ⟨g0, g1⟩, hr, hz1, ⟨t0, t1⟩, hb⟩
    have nX := hr
    have hbel_ := Below.next hbel hb; clear hbel; have hbel := hbel_; clear hbel_
    clear hb
    have rX := nX; clear nX
    clear hd hr
    obtain ⟨p, HP⟩ : ∃ p, Hid (p = peakOf xs) := ⟨_, hid rfl⟩
    have hpb := peakOf_bd xs
    rw [← HP.out] at hpb
    obtain ⟨N, HN⟩ : ∃ N, Hid (N = step1 g p t) := ⟨_, hid rfl⟩
    have hval : gainStep g xs t = N := by rw [gainStep, ← HP.out]; exact HN.out.symm
    have hi := gainStep_impl g _ _ c1 _ xs t w1 rX (by omega)
    have hs := gainStep_spec g _ _ c1 _ xs t w1 rX (by omega)
    have hpk := peakOf_impl _ _ c1 _ xs w1 rX (by omega)
    rw [hval] at hi hs
    rw [← HP.out] at hpk
    have HPK := hid hpk
    have HS := hid hs
    clear hval hs hpk
    have hne : (N != N) = false := by simp
    go_wp2_with fail
    refine hi.mono ?_
    rintro e w2 ⟨rfl, rfl⟩
    clear hi
    go_wp2_with fail
    refine HS.out.mono ?_
    rintro e w2 ⟨rfl, m, rfl⟩
    have hbm : Below w.heap.size w (w1.drewN m) := hbel.trans ((Same.drewN w1 m).bel _)
    have HB := hid hbm
    clear hbm hbel HS
    by_cases h0 : N = 0
    · have hn0 : (N == 0) = true := by simpa using h0
      clear h0
      go_wp2_with fail
      refine (alive_any _).mono ?_
      rintro e w3 ⟨rfl, hb3⟩
      have hb := HB.out.trans (hb3.mono HB.out.size)
      go_wp2
      go_ret
      exact ⟨rfl, hb⟩
    · have hn0 : (N == 0) = false := by simpa using h0
      obtain ⟨f1, f2, f3, f4, f5, f6, f7, f8, f9⟩ := step1_facts HN.out h0 (by omega)
      obtain ⟨Q, HQ⟩ : ∃ Q, Hid (Q = p * g) := ⟨_, hid rfl⟩
      have hQ := mul_bd (n := p) (g := g) (by omega) f6 f3 f4
      rw [← HQ.out] at f8 f9 hQ
      obtain ⟨q1, q2⟩ := hQ
      have hw1 : IntKind.i64.wrap (p * g) = Q := by rw [← HQ.out]; exact IntWalk.i64_in _ (by omega)
      have hq3 : p * g = Q := HQ.out.symm
      obtain ⟨T, HT⟩ : ∃ T, Hid (T = Q.tdiv 256) := ⟨_, hid rfl⟩
      have htd := tdiv_bd q1 q2
      rw [← HT.out] at f8 f9 htd
      obtain ⟨td0, td1⟩ := htd
      have h00 : 0 ≤ Q := by rw [HQ.out]; exact Int.mul_nonneg f5 (by omega)
      have hq4 : Q / 256 = T := by rw [HT.out, Int.tdiv_eq_ediv_of_nonneg h00]
      have HF := hid f7
      have hab := abs_any (N - g) (w1.drewN m) (by omega) (by omega)
      have hpk := HPK.out
      obtain ⟨D, HD⟩ : ∃ D, Hid (D = absI (N - g)) := ⟨_, hid rfl⟩
      rw [← HD.out] at hab
      have hD : D ≤ max 1 (g / 16) := by rw [HD.out]; exact HF.out
      have HAB := hid hab
      have HQ3 := hid hq3; have HQ4 := hid hq4
      clear h0 hab hpk f7 hw1 hq3 hq4 hpb
      go_wp2_with fail
      refine (peakOf_impl _ _ c1 _ xs (w1.drewN m) (rX : RI (w1.drewN m) _ _ _ _) (by omega)).mono ?_
      rintro e w3 ⟨rfl, rfl⟩
      rw [← HP.out]
      have hq3 := HQ3.out
      have hq4 := HQ4.out
      have hg16 : 0 ≤ g / 16 := by omega
      obtain ⟨M, HM⟩ : ∃ M, Hid (M = g / 16) := ⟨_, hid rfl⟩
      have hm1 : g / 16 = M := HM.out.symm
      rw [hm1] at hD hg16
      by_cases ha : N ≤ g
      · by_cases hb' : g ≤ N
        · clear f8 f9
          go_wp2_with (go_at_call 18; refine HAB.out.mono ?_; rintro e w4 ⟨rfl, rfl⟩)
          all_goals (go_ret; exact ⟨rfl, HB.out⟩)
        · have f9' : t < T := by omega
          clear f8 f9
          go_wp2_with (go_at_call 18; refine HAB.out.mono ?_; rintro e w4 ⟨rfl, rfl⟩)
          all_goals (go_ret; exact ⟨rfl, HB.out⟩)
      · have f8' : T < t := by omega
        have hb' : g ≤ N := by omega
        clear f8 f9
        go_wp2_with (go_at_call 18; refine HAB.out.mono ?_; rintro e w4 ⟨rfl, rfl⟩)
        all_goals (go_ret; exact ⟨rfl, HB.out⟩)
  · go_enter Try.func11, Try.ntmps11
    go_wp2
    go_ret
    exact ⟨rfl, Below.refl _ _⟩
end Go.Proofs.Ytdcljfpgjifijaa
