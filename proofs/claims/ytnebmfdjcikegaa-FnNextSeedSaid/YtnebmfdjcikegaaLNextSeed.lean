/-
  FnNextSeed, walked: the next seed is in 0..MaxSeed; different seeds have different next seeds.
-/
import Derived.Test.YtnebmfdjcikegaaDraw
import Derived.Test.YtnebmfdjcikegaaAlive
import Derived.Test.YtnebmfdjcikegaaAcc1
import Derived.OpenShut
namespace Go.Proofs.Ytnebmfdjcikegaa
open Go.RowKit
set_option linter.unusedVariables false

theorem drawNextSeed_any (A : Option Addr) (n c B : Nat) (bs : List Int) (w : World) (h : RB w B A n bs) (hB : B ≤ w.heap.size) (hc : n ≤ c) (hn : n ≤ 1048576) (hb : ∀ x ∈ bs, 0 ≤ x ∧ x ≤ 255) :
    Calls Try.prog 14 #[.slice A n c] w fun e w' => ∃ x : Int, e = .returned (.int .i64 x) ∧ -10 ≤ x ∧ x ≤ 5000 ∧ Below w.heap.size w w' := by
  have ho := l20Open_any A n c B bs w h hB hc hn hb
  have HB := hid hb
  clear hb
  go_enter Try.func14, Try.ntmps14
  go_wp2_with fail
  refine ho.mono ?_
  rintro e w1 ⟨rfl, hr, hb1, hs1⟩
  have H1 := hid hb1
  clear hs1 ho hb1
  go_wp2_with fail
  refine (pick_any _ 0 256 _ hr (by omega)).mono ?_
  rintro e w2 ⟨k1, rfl, hk1, _, hr2, ho2, hs2⟩
  obtain ⟨a0, a1⟩ := hk1 (by omega)
  have H2 := hid ho2
  clear hk1 ho2 hs2 hr
  go_wp2_with fail
  refine (pick_any _ 1 9 _ hr2 (by omega)).mono ?_
  rintro e w3 ⟨k2, rfl, hk2, _, hr3, ho3, hs3⟩
  obtain ⟨b0, b1⟩ := hk2 (by omega)
  have H3 := hid ho3
  clear hk2 ho3 hs3 hr2 hr3
  go_wp2
  go_ret
  exact ⟨_, rfl, by omega, by omega, H1.out.trans ((H2.out.trans H3.out).below (Nat.le_refl _) H1.out.size)⟩

theorem nextSeed_bd (s : Int) : 0 ≤ nextSeed s ∧ nextSeed s ≤ 2047 := by unfold nextSeed; split <;> omega
theorem nextSeed_inj {s k : Int} (h0 : 0 ≤ s) (h1 : s ≤ 2047) (h2 : 0 ≤ k) (h3 : k ≤ 2047) (h : nextSeed k = nextSeed s) : k = s := by
  rw [nextSeed, nextSeed, if_pos ⟨h2, h3⟩, if_pos ⟨h0, h1⟩] at h
  omega

set_option maxHeartbeats 1600000 in
theorem fnNextSeed_walk {A : Option Addr} {n c : Nat} {bs : List Int} (w : World) (h : RV w w.heap.size A n (bs.map (Value.int .u8))) (wf : ∀ x ∈ bs, (Lit.int .u8 x).wf = true) (hl : n ≤ c) (hm : c ≤ maxLen) :
    Calls Try.prog 5 #[.slice A n c] w fun e w' => e = .returned (.bool true) ∧ Below w.heap.size w w' := by
  unfold maxLen at hm
  by_cases hn : n ≤ 1048576
  · have hd := drawNextSeed_any A n c w.heap.size bs w h (Nat.le_refl _) hl hn (fun x hx => bounds_u8 (wf x hx))
    clear wf h
    go_enter Try.func5, Try.ntmps5
    go_wp2_with fail
    refine hd.mono ?_
    rintro e w1 ⟨s, rfl, s0, s1, hb1⟩
    have HB := hid hb1
    clear hd hb1
    obtain ⟨m, hm'⟩ : ∃ m, m = nextSeed s := ⟨_, rfl⟩
    have hi := nextSeed_impl s w1
    have hs := nextSeed_spec s w1
    have hbd := nextSeed_bd s
    rw [← hm'] at hi hs hbd
    have HM := hid hm'
    clear hm'
    obtain ⟨m0, m1⟩ := hbd
    have hne : (m != m) = false := by simp
    go_wp2_with fail
    refine hi.mono ?_
    rintro e w2 ⟨rfl, rfl⟩
    clear hi
    go_wp2_with fail
    refine hs.mono ?_
    rintro e w2 ⟨rfl, rfl⟩
    clear hs
    by_cases hv : 0 ≤ s ∧ s ≤ 2047
    · obtain ⟨v0, v1⟩ := hv
      go_wp2
      go_loop [5] (fun i => ∃ k : Nat, k ≤ 2048 ∧ i = .int .i64 k) (fun i => 2048 - (intOf i).toNat)
      case atStart => exact ⟨0, by omega, rfl⟩
      case round =>
        obtain ⟨k, hk, rfl⟩ := hrel
        by_cases hlt : k < 2048
        · by_cases hks : (k : Int) = s
          · have hb : ((k : Int) != s) = false := by simpa using hks
            clear hks
            go_wp2
            go_round
            case rel => exact ⟨k + 1, by omega, by go_num⟩
            case measure => simp [intOf]; omega
          · have hb : ((k : Int) != s) = true := by simpa using hks
            have hne2 : nextSeed (k : Int) ≠ m := fun he => hks (nextSeed_inj v0 v1 (by omega) (by omega) (by rw [he]; exact HM.out))
            have hnb : (nextSeed (k : Int) == m) = false := by simpa using hne2
            have hki := nextSeed_impl (k : Int) w1
            clear hks hne2
            go_wp2_with fail
            refine hki.mono ?_
            rintro e w2 ⟨rfl, rfl⟩
            clear hki
            go_wp2
            go_round
            case rel => exact ⟨k + 1, by omega, by go_num⟩
            case measure => simp [intOf]; omega
        · have e : k = 2048 := by omega
          subst e
          clear hlt
          go_wp2
          go_ret
          exact ⟨rfl, HB.out⟩
    · have hz : m = 0 := by rw [HM.out, nextSeed, if_neg hv]
      subst hz
      rcases (show s < 0 ∨ 2047 < s by omega) with hv | hv
      all_goals
        go_wp2_with fail
        refine (alive_any _).mono ?_
        rintro e w3 ⟨rfl, hb3⟩
        have hb := Below.next HB.out hb3
        go_wp2
        go_ret
        exact ⟨rfl, hb⟩
  · go_enter Try.func5, Try.ntmps5
    go_wp2
    go_ret
    exact ⟨rfl, Below.refl _ _⟩
end Go.Proofs.Ytnebmfdjcikegaa
