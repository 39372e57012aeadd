/-
  FnBackoffSlots, walked: later attempts wait in longer ranges.
-/
import Derived.Test.YtnebmfdjcikegaaDAcc
import Derived.Test.YtnebmfdjcikegaaAlive
import Derived.Test.YtnebmfdjcikegaaAcc1
namespace Go.Proofs.Ytnebmfdjcikegaa
open Go.RowKit
set_option linter.unusedVariables false

theorem backoff_val {s a : Int} (h0 : 0 ≤ s) (h1 : s ≤ 2047) (h2 : 1 ≤ a) (h3 : a ≤ 100) : backoff s a = s / 8 % (2 ^ (min a 6).toNat) := by rw [backoff, if_pos ⟨h0, h1, h2, h3⟩]
theorem backoff_six {s a : Int} (h0 : 0 ≤ s) (h1 : s ≤ 2047) (h2 : 6 ≤ a) (h3 : a ≤ 100) : backoff s a = s / 8 % 64 := by
  rw [backoff_val h0 h1 (by omega) h3, show min a 6 = 6 by omega]; rfl
theorem backoff_neg {s a : Int} (h : ¬ (0 ≤ s ∧ s ≤ 2047 ∧ 1 ≤ a ∧ a ≤ 100)) : backoff s a = -1 := by rw [backoff, if_neg h]

set_option maxHeartbeats 1600000 in
theorem fnBackoffSlots_walk {A : Option Addr} {n c : Nat} {bs : List Int} (w : World) (h : RV w w.heap.size A n (bs.map (Value.int .u8))) (wf : ∀ x ∈ bs, (Lit.int .u8 x).wf = true) (hl : n ≤ c) (hm : c ≤ maxLen) :
    Calls Try.prog 6 #[.slice A n c] w fun e w' => e = .returned (.bool true) ∧ Below w.heap.size w w' := by
  unfold maxLen at hm
  by_cases hn : n ≤ 1048576
  · have hd := drawBackoffSlots_any A n c w.heap.size bs w h (Nat.le_refl _) hl hn (fun x hx => bounds_u8 (wf x hx))
    clear wf h
    have hbel : Below w.heap.size w w := Below.refl _ _
    go_enter Try.func6, Try.ntmps6
    go_wp2_with fail
    refine hd.mono ?_
    rintro e w1 ⟨s, a, rfl, ⟨s0, s1⟩, ⟨a0, a1⟩, hb1⟩
    have HB := hid hb1
    clear hd hb1
    obtain ⟨m, HM⟩ : ∃ m, Hid (m = backoff s a) := ⟨_, hid rfl⟩
    have hi := backoff_impl s a w1
    have hs := backoff_spec s a w1
    rw [← HM.out] at hi hs
    have hne : (m != m) = false := by simp
    have hw : wrap64 64 = 64 := IntWalk.wrap64_in 64 ⟨by omega, by omega⟩
    have HW := hid hw
    clear hw
    go_wp2_with fail
    refine hi.mono ?_
    rintro e w2 ⟨rfl, rfl⟩
    clear hi
    go_wp2_with fail
    refine hs.mono ?_
    rintro e w2 ⟨rfl, rfl⟩
    clear hs
    by_cases hv : 0 ≤ s ∧ s ≤ 2047 ∧ 1 ≤ a ∧ a ≤ 100
    · obtain ⟨v0, v1, v2, v3⟩ := hv
      rcases (show a = 1 ∨ a = 2 ∨ a = 3 ∨ a = 4 ∨ a = 5 ∨ a = 6 ∨ (7 ≤ a ∧ a ≤ 98) ∨ a = 99 ∨ a = 100 by omega) with rfl | rfl | rfl | rfl | rfl | rfl | ⟨a7, a9⟩ | rfl | rfl
      · have hm : m = s / 8 % 2 := by rw [HM.out, backoff_val v0 v1 v2 v3]; rfl
        obtain ⟨r, HR⟩ : ∃ r, Hid (r = backoff s 2) := ⟨_, hid rfl⟩
        have hr : r = s / 8 % 4 := by rw [HR.out, backoff_val v0 v1 (by omega) (by omega)]; rfl
        have hm0 : 0 ≤ m ∧ m < 2 := by omega
        obtain ⟨m0, m1⟩ := hm0
        have hrm : r = m ∨ r = m + 2 := by omega
        have hi := backoff_impl s 2 w1
        rw [← HR.out] at hi
        have Hi := hid hi
        clear hi hm hr
        have hw := HW.out
        rcases hrm with rfl | rfl
        · go_wp2_with fail
          refine Hi.out.mono ?_
          rintro e w2 ⟨rfl, rfl⟩
          go_wp2
          go_ret
          exact ⟨rfl, HB.out⟩
        · have hq : (m + 2 == m) = false := by simp; omega
          go_wp2_with fail
          refine Hi.out.mono ?_
          rintro e w2 ⟨rfl, rfl⟩
          go_wp2
          go_ret
          exact ⟨rfl, HB.out⟩
      · have hm : m = s / 8 % 4 := by rw [HM.out, backoff_val v0 v1 v2 v3]; rfl
        obtain ⟨r, HR⟩ : ∃ r, Hid (r = backoff s 3) := ⟨_, hid rfl⟩
        have hr : r = s / 8 % 8 := by rw [HR.out, backoff_val v0 v1 (by omega) (by omega)]; rfl
        have hm0 : 0 ≤ m ∧ m < 4 := by omega
        obtain ⟨m0, m1⟩ := hm0
        have hrm : r = m ∨ r = m + 4 := by omega
        have hi := backoff_impl s 3 w1
        rw [← HR.out] at hi
        have Hi := hid hi
        clear hi hm hr
        have hw := HW.out
        rcases hrm with rfl | rfl
        · go_wp2_with fail
          refine Hi.out.mono ?_
          rintro e w2 ⟨rfl, rfl⟩
          go_wp2
          go_ret
          exact ⟨rfl, HB.out⟩
        · have hq : (m + 4 == m) = false := by simp; omega
          go_wp2_with fail
          refine Hi.out.mono ?_
          rintro e w2 ⟨rfl, rfl⟩
          go_wp2
          go_ret
          exact ⟨rfl, HB.out⟩
      · have hm : m = s / 8 % 8 := by rw [HM.out, backoff_val v0 v1 v2 v3]; rfl
        obtain ⟨r, HR⟩ : ∃ r, Hid (r = backoff s 4) := ⟨_, hid rfl⟩
        have hr : r = s / 8 % 16 := by rw [HR.out, backoff_val v0 v1 (by omega) (by omega)]; rfl
        have hm0 : 0 ≤ m ∧ m < 8 := by omega
        obtain ⟨m0, m1⟩ := hm0
        have hrm : r = m ∨ r = m + 8 := by omega
        have hi := backoff_impl s 4 w1
        rw [← HR.out] at hi
        have Hi := hid hi
        clear hi hm hr
        have hw := HW.out
        rcases hrm with rfl | rfl
        · go_wp2_with fail
          refine Hi.out.mono ?_
          rintro e w2 ⟨rfl, rfl⟩
          go_wp2
          go_ret
          exact ⟨rfl, HB.out⟩
        · have hq : (m + 8 == m) = false := by simp; omega
          go_wp2_with fail
          refine Hi.out.mono ?_
          rintro e w2 ⟨rfl, rfl⟩
          go_wp2
          go_ret
          exact ⟨rfl, HB.out⟩
      · have hm : m = s / 8 % 16 := by rw [HM.out, backoff_val v0 v1 v2 v3]; rfl
        obtain ⟨r, HR⟩ : ∃ r, Hid (r = backoff s 5) := ⟨_, hid rfl⟩
        have hr : r = s / 8 % 32 := by rw [HR.out, backoff_val v0 v1 (by omega) (by omega)]; rfl
        have hm0 : 0 ≤ m ∧ m < 16 := by omega
        obtain ⟨m0, m1⟩ := hm0
        have hrm : r = m ∨ r = m + 16 := by omega
        have hi := backoff_impl s 5 w1
        rw [← HR.out] at hi
        have Hi := hid hi
        clear hi hm hr
        have hw := HW.out
        rcases hrm with rfl | rfl
        · go_wp2_with fail
          refine Hi.out.mono ?_
          rintro e w2 ⟨rfl, rfl⟩
          go_wp2
          go_ret
          exact ⟨rfl, HB.out⟩
        · have hq : (m + 16 == m) = false := by simp; omega
          go_wp2_with fail
          refine Hi.out.mono ?_
          rintro e w2 ⟨rfl, rfl⟩
          go_wp2
          go_ret
          exact ⟨rfl, HB.out⟩
      · have hm : m = s / 8 % 32 := by rw [HM.out, backoff_val v0 v1 v2 v3]; rfl
        obtain ⟨r, HR⟩ : ∃ r, Hid (r = backoff s 6) := ⟨_, hid rfl⟩
        have hr : r = s / 8 % 64 := by rw [HR.out, backoff_val v0 v1 (by omega) (by omega)]; rfl
        have hm0 : 0 ≤ m ∧ m < 32 := by omega
        obtain ⟨m0, m1⟩ := hm0
        have hrm : r = m ∨ r = m + 32 := by omega
        have hi := backoff_impl s 6 w1
        rw [← HR.out] at hi
        have Hi := hid hi
        clear hi hm hr
        have hw := HW.out
        rcases hrm with rfl | rfl
        · go_wp2_with fail
          refine Hi.out.mono ?_
          rintro e w2 ⟨rfl, rfl⟩
          go_wp2
          go_ret
          exact ⟨rfl, HB.out⟩
        · have hq : (m + 32 == m) = false := by simp; omega
          go_wp2_with fail
          refine Hi.out.mono ?_
          rintro e w2 ⟨rfl, rfl⟩
          go_wp2
          go_ret
          exact ⟨rfl, HB.out⟩
      · have hm : m = s / 8 % 64 := by rw [HM.out, backoff_six v0 v1 (by omega) (by omega)]
        have hr : m = backoff s 7 := by rw [hm, backoff_six v0 v1 (by omega) (by omega)]
        have hm0 : 0 ≤ m ∧ m < 64 := by omega
        obtain ⟨m0, m1⟩ := hm0
        have hi := backoff_impl s 7 w1
        rw [← hr] at hi
        have Hi := hid hi
        clear hi hm hr
        have hw := HW.out
        go_wp2_with fail
        refine Hi.out.mono ?_
        rintro e w2 ⟨rfl, rfl⟩
        go_wp2
        go_ret
        exact ⟨rfl, HB.out⟩
      · have hm : m = s / 8 % 64 := by rw [HM.out, backoff_six v0 v1 (by omega) (by omega)]
        have hr : m = backoff s (a + 1) := by rw [hm, backoff_six v0 v1 (by omega) (by omega)]
        have hm0 : 0 ≤ m ∧ m < 64 := by omega
        obtain ⟨m0, m1⟩ := hm0
        have hi := backoff_impl s (a + 1) w1
        rw [← hr] at hi
        have Hi := hid hi
        clear hi hm hr
        have hw := HW.out
        go_wp2_with fail
        refine Hi.out.mono ?_
        rintro e w2 ⟨rfl, rfl⟩
        go_wp2
        go_ret
        exact ⟨rfl, HB.out⟩
      · have hm : m = s / 8 % 64 := by rw [HM.out, backoff_six v0 v1 (by omega) (by omega)]
        have hr : m = backoff s 100 := by rw [hm, backoff_six v0 v1 (by omega) (by omega)]
        have hm0 : 0 ≤ m ∧ m < 64 := by omega
        obtain ⟨m0, m1⟩ := hm0
        have hi := backoff_impl s 100 w1
        rw [← hr] at hi
        have Hi := hid hi
        clear hi hm hr
        have hw := HW.out
        go_wp2_with fail
        refine Hi.out.mono ?_
        rintro e w2 ⟨rfl, rfl⟩
        go_wp2
        go_ret
        exact ⟨rfl, HB.out⟩
      · have hm : m = s / 8 % 64 := by rw [HM.out, backoff_six v0 v1 (by omega) (by omega)]
        have hr : m = backoff s 100 := by rw [hm, backoff_six v0 v1 (by omega) (by omega)]
        have hm0 : 0 ≤ m ∧ m < 64 := by omega
        obtain ⟨m0, m1⟩ := hm0
        have hi := backoff_impl s 100 w1
        rw [← hr] at hi
        have Hi := hid hi
        clear hi hm hr
        have hw := HW.out
        go_wp2_with fail
        refine Hi.out.mono ?_
        rintro e w2 ⟨rfl, rfl⟩
        go_wp2
        go_ret
        exact ⟨rfl, HB.out⟩
    · have hm1 : m = -1 := by rw [HM.out, backoff_neg hv]
      subst hm1
      go_wp2_with fail
      refine (alive_any _).mono ?_
      rintro e w3 ⟨rfl, hb3⟩
      go_wp2
      go_ret
      exact ⟨rfl, Below.next HB.out hb3⟩
  · go_enter Try.func6, Try.ntmps6
    go_wp2
    go_ret
    exact ⟨rfl, Below.refl _ _⟩
end Go.Proofs.Ytnebmfdjcikegaa
