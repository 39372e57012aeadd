/-
  FnWalshGroup, walked: the codes are symmetric; the product of the codes k and j is the code k xor j.
-/
import Derived.Test.YtgkkanamnhochaaLWalshCode
namespace Go.Proofs.Ytgkkanamnhochaa
open Go.RowKit
set_option linter.unusedVariables false

theorem wsign_comm (k j : Nat) : wsign k j = wsign j k := by unfold wsign; rw [Nat.and_comm]
theorem wsign_mul : ∀ K < 8, ∀ j < 8, ∀ i < 8, wsign (K ^^^ j) i = wsign K i * wsign j i := by decide +kernel
theorem xor_lt8 {K j : Nat} (hK : K < 8) (hj : j < 8) : K ^^^ j < 8 := Nat.xor_lt_two_pow (n := 3) hK hj

set_option maxHeartbeats 1600000 in
theorem fnWalshGroup_walk {A : Option Addr} {n c : Nat} {bs : List Int} (w : World) (h : RV w w.heap.size A n (bs.map (Value.int .u8))) (wf : ∀ x ∈ bs, (Lit.int .u8 x).wf = true) (hl : n ≤ c) (hm : c ≤ maxLen) :
    Calls Try.prog 5 #[.slice A n c] w fun e w' => e = .returned (.bool true) ∧ Below w.heap.size w w' := by
  unfold maxLen at hm
  by_cases hn : n ≤ 1048576
  · have hd := drawWalshCode_any A n c w.heap.size bs w h (Nat.le_refl _) hl hn (fun x hx => bounds_u8 (wf x hx))
    clear wf h
    go_enter Try.func5, Try.ntmps5
    go_wp2_with fail
    refine hd.mono ?_
    rintro e w1 ⟨k, rfl, k0, k1, hb1⟩
    clear hd
    obtain ⟨V, hV⟩ : ∃ V, V = walshCode k := ⟨_, rfl⟩
    have hi := walshCode_impl k w1
    rw [← hV] at hi
    go_wp2_with fail
    refine hi.mono ?_
    rintro e w2 ⟨A1, n1, c1, rfl, o1, hb2⟩
    have r1 : RI w2 w2.heap.size A1 n1 V := OwnI.ri o1
    have hbw2 := Below.next hb1 hb2
    clear hi o1 hb1 hb2
    have hs := walshCode_spec k w2
    rw [← hV] at hs
    have hVl : V.length ≤ 8 := by rw [hV]; unfold walshCode; split <;> simp [walsh]
    have HV := hid hV
    clear hV
    go_wp2_with fail
    refine hs.mono ?_
    rintro e w3 ⟨A2, n2, c2, rfl, o2, hb3⟩
    have r2 : RI w3 w3.heap.size A2 n2 V := OwnI.ri o2
    have r1' := RV.next r1 hb3
    have hbw3 := Below.next hbw2 hb3
    clear hs o2 hb3 r1 hbw2
    go_wp2_with fail
    refine (sameInts_same A1 A2 n1 n2 c1 c2 _ _ V w3 r1' r2 (by omega)).mono ?_
    rintro e w4 ⟨rfl, hb4⟩
    have r1 := RV.next r1' hb4
    have hbw4 := Below.next hbw3 hb4
    clear r1' r2 hb4 hbw3
    have HL := hid (RI.len r1)
    by_cases hk : 0 ≤ k ∧ k ≤ 7
    · obtain ⟨h0, h7⟩ := hk
      obtain ⟨K, rfl⟩ := Int.eq_ofNat_of_zero_le h0
      have hVK : V = walsh K := by rw [HV.out, walshCode, if_pos ⟨h0, h7⟩, Int.toNat_natCast]
      subst hVK
      have hn1 : n1 = 8 := by rw [← HL.out, walsh_len]
      subst hn1
      clear hVl
      obtain ⟨B1, hB1⟩ : ∃ B1, B1 = w4.heap.size := ⟨_, rfl⟩
      have r1w : RI w4 B1 A1 8 (walsh K) := by rw [hB1]; exact r1
      clear r1
      go_wp2
      go_loopw [5] (fun jv wr => ∃ j : Nat, j ≤ 8 ∧ jv = .int .i64 j ∧ RI wr B1 A1 8 (walsh K) ∧ B1 ≤ wr.heap.size ∧ Below w.heap.size w wr)
        (fun jv _ => 8 - (intOf jv).toNat)
      case atStart => exact ⟨0, by omega, rfl, r1w, by omega, hbw4⟩
      case round =>
        obtain ⟨j, hj, rfl, rr, hBr, hbr⟩ := hrel
        by_cases hlt : j < 8
        · have hij := walshCode_impl (j : Int) wr
          rw [walshCode, if_pos ⟨by omega, by omega⟩, Int.toNat_natCast] at hij
          go_wp2_with fail
          refine hij.mono ?_
          rintro e w5 ⟨A3, n3, c3, rfl, o3, hb5⟩
          have r3 : RI w5 w5.heap.size A3 n3 (walsh j) := OwnI.ri o3
          have hn3 : n3 = 8 := by rw [← RI.len r3, walsh_len]
          subst hn3
          have r15 : RI w5 B1 A1 8 (walsh K) := RV.below rr (hb5.mono hBr)
          have hB5 : B1 ≤ w5.heap.size := Nat.le_trans hBr hb5.size
          have hbw5 := Below.next hbr hb5
          clear hij o3 hb5 rr hBr hbr r1w
          obtain ⟨X, hX⟩ : ∃ X, X = K ^^^ j := ⟨_, rfl⟩
          have hxor : bits .xor .i64 (K : Int) (j : Int) = (X : Int) := by rw [hX]; exact i64_xor_nat K j (by omega) (by omega)
          have hX8 : X < 8 := by rw [hX]; exact xor_lt8 (by omega) hlt
          have hmul0 := wsign_mul K (by omega) j hlt
          rw [← hX] at hmul0
          have hmul := hid hmul0
          have hix := walshCode_impl (X : Int) w5
          rw [walshCode, if_pos ⟨by omega, by omega⟩, Int.toNat_natCast] at hix
          clear hX hmul0
          go_wp2_with fail
          refine hix.mono ?_
          rintro e w6 ⟨A4, n4, c4, rfl, o4, hb6⟩
          have r4 : RI w6 w6.heap.size A4 n4 (walsh X) := OwnI.ri o4
          have hn4 : n4 = 8 := by rw [← RI.len r4, walsh_len]
          subst hn4
          have r16 : RI w6 B1 A1 8 (walsh K) := RV.below r15 (hb6.mono hB5)
          have r36 : RI w6 w5.heap.size A3 8 (walsh j) := RV.below r3 hb6
          have hB6 : B1 ≤ w6.heap.size := Nat.le_trans hB5 hb6.size
          have hbw6 := Below.next hbw5 hb6
          clear hix o4 hb6 r15 hB5 hbw5 r3
          obtain ⟨b1, o1, x, hA1, hb1, hx, hc1⟩ := RI.at_ r16 hlt
          obtain ⟨b3, o3, y, hA3, hb3, hy, hc3⟩ := RI.at_ r36 (show K < 8 by omega)
          have hxy : x = y := by rw [walsh_at hx, walsh_at hy, wsign_comm]
          subst hxy
          subst hA1 hA3
          have hne : (x != x) = false := by simp
          have i0' : (0 : Int) ≤ (j : Int) := by omega
          have i1' : (j : Int) < 8 := by omega
          have i2' : (0 : Int) ≤ (K : Int) := by omega
          have i3' : (K : Int) < 8 := by omega
          clear hx hy
          go_wp2_with (go_quiet (fail))
          go_loopw [8] (fun iv wr => ∃ (i m : Nat), i ≤ 8 ∧ iv = .int .i64 i ∧ wr = w6.drewN m)
            (fun iv _ => 8 - (intOf iv).toNat)
          case atStart => exact ⟨0, _, by omega, rfl, rfl⟩
          case round =>
            obtain ⟨i, m, hi, rfl, rfl⟩ := hrel
            clear hc1 hc3
            by_cases hlt' : i < 8
            · obtain ⟨b1', o1', x', hA1, hb1', hx, hc1⟩ := RI.at_ r16 hlt'
              obtain ⟨b3', o3', y', hA3, hb3', hy, hc3⟩ := RI.at_ r36 hlt'
              obtain ⟨b4', o4', z', rfl, hb4', hz, hc4⟩ := RI.at_ r4 hlt'
              injection hA1 with hA1; injection hA1 with e1 e2; subst e1 e2
              injection hA3 with hA3; injection hA3 with e1 e2; subst e1 e2
              have hxe := walsh_at hx
              have hye := walsh_at hy
              have hze := walsh_at hz
              have hzm : z' = x' * y' := by rw [hxe, hye, hze]; exact hmul.out i hlt'
              have hm : -1 ≤ x' * y' ∧ x' * y' ≤ 1 := by
                rcases wsign_pm K i with e1 | e1 <;> rcases wsign_pm j i with e2 | e2 <;> rw [hxe, hye, e1, e2] <;> omega
              obtain ⟨hm0, hm1⟩ := hm
              have q1 : IntKind.i64.wrap (x' * y') = x' * y' := IntWalk.i64_in _ (by omega)
              subst hzm
              have hne' : (x' * y' != x' * y') = false := by simp
              have j0' : (0 : Int) ≤ (i : Int) := by omega
              have j1' : (i : Int) < 8 := by omega
              clear hx hy hz hxe hye hze
              go_wp2_with (go_quiet (fail))
              go_roundw
              case rel => exact ⟨i + 1, _, by omega, by go_num, rfl⟩
              case measure => simp [intOf]; omega
            · have e : i = 8 := by omega
              subst e
              clear hlt'
              have HBm := hid (show Below w.heap.size w (w6.drewN m) from ⟨hbw6.os, hbw6.tape, hbw6.output, hbw6.size, hbw6.block⟩)
              have HRm := hid (show RI (w6.drewN m) B1 (some ⟨b1, o1, none⟩) 8 (walsh K) from r16)
              go_wp2
              go_roundw
              case rel => exact ⟨j + 1, by omega, by go_num, HRm.out, hB6, HBm.out⟩
              case measure => simp [intOf]; omega
        · have e : j = 8 := by omega
          subst e
          clear hlt
          go_wp2
          go_ret
          exact ⟨rfl, hbr⟩
    · have h0 : V = [] := by rw [HV.out, walshCode, if_neg hk]
      subst h0
      have hn1 : n1 = 0 := by rw [← HL.out]; rfl
      subst hn1
      clear hk
      go_wp2_with fail
      refine (alive_any _).mono ?_
      rintro e w5 ⟨rfl, hb5⟩
      go_wp2
      go_ret
      exact ⟨rfl, Below.next hbw4 hb5⟩
  · go_enter Try.func5, Try.ntmps5
    go_wp2
    go_ret
    exact ⟨rfl, Below.refl _ _⟩
end Go.Proofs.Ytgkkanamnhochaa
