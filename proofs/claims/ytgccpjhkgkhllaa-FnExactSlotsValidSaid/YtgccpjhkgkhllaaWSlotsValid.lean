/-
  FnExactSlotsValid, walked: the program's SlotsValid returns what the reference's returns; it changes no argument; its result is memory of its own.
-/
import Derived.Test.YtgccpjhkgkhllaaTabT
import Derived.Test.YtgccpjhkgkhllaaExactI
import Derived.Test.YtgccpjhkgkhllaaSloB
namespace Go.Proofs.Ytgccpjhkgkhllaa
open Go.RowKit
set_option linter.unusedVariables false

set_option maxHeartbeats 1600000 in
theorem fnExactSlotsValid_core (w : World) (A0 : Option Addr) (n0 c0 : Nat) (rows : List (List Bool)) (A1 : Option Addr) (n1 c1 : Nat) (ss : List (Int)) (h0 : RTT w w.heap.size A0 n0 rows) (hl0 : n0 ≤ c0) (hm0 : c0 ≤ maxLen) (hz0 : 0 ≤ szSST (rows.map List.length) 1048576) (h1 : RV w w.heap.size A1 n1 (ss.map (Value.int .i64))) (hl1 : n1 ≤ c1) (hm1 : c1 ≤ maxLen) (hN1 : n1 ≤ 1048576) :
    Calls Try.prog 5 #[.slice A0 n0 c0, .slice A1 n1 c1] w fun e w' => e = .returned (.bool true) ∧ Below w.heap.size w w' := by
  have hbel : Below w.heap.size w w := Below.refl _ _
  have hsz0 := szSST_ok (rows.map List.length) 1048576 (by omega)
  have hzz0 : (rows.map List.length).length ≤ 1048576 ∧ (rows.map List.length).sum ≤ 1048576 ∧ ∀ y ∈ rows.map List.length, y ≤ 1048576 := by
    rcases hsz0 with h | ⟨h1, h2, h3, h4⟩
    · omega
    · exact ⟨by omega, by omega, fun y hy => by have := h4 y hy; omega⟩
  clear hsz0
  have hN0 : n0 ≤ 1048576 := by have := RTT.len h0; have := hzz0.1; rw [List.length_map] at this; omega
  have HR0 : Hid (∀ r ∈ rows, r.length ≤ 1048576) := hid (fun r hr => hzz0.2.2 _ (List.mem_map_of_mem hr))
  have HRb0 : Hid (∀ r ∈ rows, r.length ≤ 1000000000) := hid (fun r hr => by have := HR0.out r hr; omega)
  have hsc0 := szBoolSS_any A0 n0 c0 _ rows 1048576 w h0 hl0 hm0 (by omega) (by omega)
  obtain ⟨Z0, HZ0⟩ : ∃ Z, Hid (Z = szSST (rows.map List.length) 1048576) := ⟨_, hid rfl⟩
  rw [← HZ0.out] at hz0
  clear hzz0 hsc0
  have hne : (slotsB rows ss != slotsB rows ss) = false := by simp
  have a0 : RTT w w.heap.size A0 n0 rows := h0
  have a1 : RI w w.heap.size A1 n1 ss := h1
  clear h0 h1
  go_enter Try.func5, Try.ntmps5
  have hsc0 := szBoolSS_any A0 n0 c0 _ rows 1048576 w a0 hl0 hm0 (by omega) (by omega)
  rw [← HZ0.out] at hsc0
  have HSC0 := hid hsc0; clear hsc0
  go_wp2_with fail
  refine HSC0.out.mono ?_
  rintro e w_ ⟨rfl, rfl⟩
  clear HSC0
  go_wp2_with fail
  refine (toBoolSS_any A0 n0 c0 _ rows _ a0 hbel.size (by omega) HR0.out).mono ?_
  rintro e w1 ⟨rfl, ot0, hb⟩
  have lt0 : w.heap.size ≤ w.heap.size := hbel.size
  have it0 : w1.heap.size ≤ w1.heap.size := Nat.le_refl _
  have hsz := hbel.size
  have hbel_ := hbel.trans (hb.mono hsz)
  have a0_ := RVV.below a0 (hb.mono hsz)
  have a1_ := RV.below a1 (hb.mono hsz)
  clear hbel; have hbel := hbel_; clear hbel_
  clear a0; have a0 := a0_; clear a0_
  clear a1; have a1 := a1_; clear a1_
  clear hsz
  clear hb
  go_wp2_with fail
  refine (toIntS_any A1 n1 c1 _ ss _ a1 hbel.size (by omega)).mono ?_
  rintro e w2 ⟨rfl, ot1, hb, hs⟩
  have lt1 : w.heap.size ≤ w1.heap.size := hbel.size
  have it1 : w1.heap.size + 1 ≤ w2.heap.size := by rw [hs]; exact Nat.le_refl _
  clear hs
  have dt0t1 := it0
  have hsz := hbel.size
  have hbel_ := hbel.trans (hb.mono hsz)
  have a0_ := RVV.below a0 (hb.mono hsz)
  have a1_ := RV.below a1 (hb.mono hsz)
  have ot0_ := OwnVV.below ot0 hb it0
  have it0_ := Nat.le_trans it0 hb.size
  clear hbel; have hbel := hbel_; clear hbel_
  clear a0; have a0 := a0_; clear a0_
  clear a1; have a1 := a1_; clear a1_
  clear ot0; have ot0 := ot0_; clear ot0_
  clear it0; have it0 := it0_; clear it0_
  clear hsz
  clear hb
  go_wp2_with fail
  refine (calls_bel_drewN (slotsValid_spec _ _ _ _ _ _ _ rows ss _ (RVV.more (OwnTT.rtt ot0) it0) (RV.more (OwnI.ri ot1) it1) (by omega) (by omega))).mono ?_
  rintro e w3 ⟨rfl, hb⟩
  have hsz := hbel.size
  have hbel_ := hbel.trans (hb.mono hsz)
  have a0_ := RVV.below a0 (hb.mono hsz)
  have a1_ := RV.below a1 (hb.mono hsz)
  have ot0_ := OwnVV.below ot0 hb it0
  have it0_ := Nat.le_trans it0 hb.size
  have ot1_ := OwnV.below ot1 hb it1
  have it1_ := Nat.le_trans it1 hb.size
  clear hbel; have hbel := hbel_; clear hbel_
  clear a0; have a0 := a0_; clear a0_
  clear a1; have a1 := a1_; clear a1_
  clear ot0; have ot0 := ot0_; clear ot0_
  clear it0; have it0 := it0_; clear it0_
  clear ot1; have ot1 := ot1_; clear ot1_
  clear it1; have it1 := it1_; clear it1_
  clear hsz
  clear hb
  go_wp2_with fail
  refine (toBoolSS_any A0 n0 c0 _ rows _ a0 hbel.size (by omega) HR0.out).mono ?_
  rintro e w4 ⟨rfl, ox0, hb⟩
  have lx0 : w.heap.size ≤ w3.heap.size := hbel.size
  have ix0 : w4.heap.size ≤ w4.heap.size := Nat.le_refl _
  have dt0x0 := it0
  have dt1x0 := it1
  have hsz := hbel.size
  have hbel_ := hbel.trans (hb.mono hsz)
  have a0_ := RVV.below a0 (hb.mono hsz)
  have a1_ := RV.below a1 (hb.mono hsz)
  have ot0_ := OwnVV.below ot0 hb it0
  have it0_ := Nat.le_trans it0 hb.size
  have ot1_ := OwnV.below ot1 hb it1
  have it1_ := Nat.le_trans it1 hb.size
  clear hbel; have hbel := hbel_; clear hbel_
  clear a0; have a0 := a0_; clear a0_
  clear a1; have a1 := a1_; clear a1_
  clear ot0; have ot0 := ot0_; clear ot0_
  clear it0; have it0 := it0_; clear it0_
  clear ot1; have ot1 := ot1_; clear ot1_
  clear it1; have it1 := it1_; clear it1_
  clear hsz
  clear hb
  go_wp2_with fail
  refine (toIntS_any A1 n1 c1 _ ss _ a1 hbel.size (by omega)).mono ?_
  rintro e w5 ⟨rfl, ox1, hb, hs⟩
  have lx1 : w.heap.size ≤ w4.heap.size := hbel.size
  have ix1 : w4.heap.size + 1 ≤ w5.heap.size := by rw [hs]; exact Nat.le_refl _
  clear hs
  have dt0x1 := it0
  have dt1x1 := it1
  have dx0x1 := ix0
  have hsz := hbel.size
  have hbel_ := hbel.trans (hb.mono hsz)
  have a0_ := RVV.below a0 (hb.mono hsz)
  have a1_ := RV.below a1 (hb.mono hsz)
  have ot0_ := OwnVV.below ot0 hb it0
  have it0_ := Nat.le_trans it0 hb.size
  have ot1_ := OwnV.below ot1 hb it1
  have it1_ := Nat.le_trans it1 hb.size
  have ox0_ := OwnVV.below ox0 hb ix0
  have ix0_ := Nat.le_trans ix0 hb.size
  clear hbel; have hbel := hbel_; clear hbel_
  clear a0; have a0 := a0_; clear a0_
  clear a1; have a1 := a1_; clear a1_
  clear ot0; have ot0 := ot0_; clear ot0_
  clear it0; have it0 := it0_; clear it0_
  clear ot1; have ot1 := ot1_; clear ot1_
  clear it1; have it1 := it1_; clear it1_
  clear ox0; have ox0 := ox0_; clear ox0_
  clear ix0; have ix0 := ix0_; clear ix0_
  clear hsz
  clear hb
  go_wp2_with fail
  refine (calls_bel_eq (slotsValid_impl _ _ _ _ _ _ _ rows ss _ (RVV.more (OwnTT.rtt ox0) ix0) (RV.more (OwnI.ri ox1) ix1) (by omega) (by omega))).mono ?_
  rintro e w6 ⟨rfl, hb⟩
  have hsz := hbel.size
  have hbel_ := hbel.trans (hb.mono hsz)
  have a0_ := RVV.below a0 (hb.mono hsz)
  have a1_ := RV.below a1 (hb.mono hsz)
  have ot0_ := OwnVV.below ot0 hb it0
  have it0_ := Nat.le_trans it0 hb.size
  have ot1_ := OwnV.below ot1 hb it1
  have it1_ := Nat.le_trans it1 hb.size
  have ox0_ := OwnVV.below ox0 hb ix0
  have ix0_ := Nat.le_trans ix0 hb.size
  have ox1_ := OwnV.below ox1 hb ix1
  have ix1_ := Nat.le_trans ix1 hb.size
  clear hbel; have hbel := hbel_; clear hbel_
  clear a0; have a0 := a0_; clear a0_
  clear a1; have a1 := a1_; clear a1_
  clear ot0; have ot0 := ot0_; clear ot0_
  clear it0; have it0 := it0_; clear it0_
  clear ot1; have ot1 := ot1_; clear ot1_
  clear it1; have it1 := it1_; clear it1_
  clear ox0; have ox0 := ox0_; clear ox0_
  clear ix0; have ix0 := ix0_; clear ix0_
  clear ox1; have ox1 := ox1_; clear ox1_
  clear ix1; have ix1 := ix1_; clear ix1_
  clear hsz
  clear hb
  go_wp2_with fail
  refine (toBoolSS_any A0 n0 c0 _ rows _ a0 hbel.size (by omega) HR0.out).mono ?_
  rintro e w7 ⟨rfl, ou0, hb⟩
  have lu0 : w.heap.size ≤ w6.heap.size := hbel.size
  have iu0 : w7.heap.size ≤ w7.heap.size := Nat.le_refl _
  have dt0u0 := it0
  have dt1u0 := it1
  have dx0u0 := ix0
  have dx1u0 := ix1
  have hsz := hbel.size
  have hbel_ := hbel.trans (hb.mono hsz)
  have a0_ := RVV.below a0 (hb.mono hsz)
  have a1_ := RV.below a1 (hb.mono hsz)
  have ot0_ := OwnVV.below ot0 hb it0
  have it0_ := Nat.le_trans it0 hb.size
  have ot1_ := OwnV.below ot1 hb it1
  have it1_ := Nat.le_trans it1 hb.size
  have ox0_ := OwnVV.below ox0 hb ix0
  have ix0_ := Nat.le_trans ix0 hb.size
  have ox1_ := OwnV.below ox1 hb ix1
  have ix1_ := Nat.le_trans ix1 hb.size
  clear hbel; have hbel := hbel_; clear hbel_
  clear a0; have a0 := a0_; clear a0_
  clear a1; have a1 := a1_; clear a1_
  clear ot0; have ot0 := ot0_; clear ot0_
  clear it0; have it0 := it0_; clear it0_
  clear ot1; have ot1 := ot1_; clear ot1_
  clear it1; have it1 := it1_; clear it1_
  clear ox0; have ox0 := ox0_; clear ox0_
  clear ix0; have ix0 := ix0_; clear ix0_
  clear ox1; have ox1 := ox1_; clear ox1_
  clear ix1; have ix1 := ix1_; clear ix1_
  clear hsz
  clear hb
  go_wp2_with fail
  refine (eqBoolSS_same _ _ _ _ _ _ _ _ _ _ (OwnTT.rtt ox0) (OwnTT.rtt ou0) (by have := RTT.len a0; omega) HRb0.out).mono ?_
  rintro e w8 ⟨rfl, hb⟩
  have hsz := hbel.size
  have hbel_ := hbel.trans (hb.mono hsz)
  have a0_ := RVV.below a0 (hb.mono hsz)
  have a1_ := RV.below a1 (hb.mono hsz)
  have ot0_ := OwnVV.below ot0 hb it0
  have it0_ := Nat.le_trans it0 hb.size
  have ot1_ := OwnV.below ot1 hb it1
  have it1_ := Nat.le_trans it1 hb.size
  have ox0_ := OwnVV.below ox0 hb ix0
  have ix0_ := Nat.le_trans ix0 hb.size
  have ox1_ := OwnV.below ox1 hb ix1
  have ix1_ := Nat.le_trans ix1 hb.size
  have ou0_ := OwnVV.below ou0 hb iu0
  have iu0_ := Nat.le_trans iu0 hb.size
  clear hbel; have hbel := hbel_; clear hbel_
  clear a0; have a0 := a0_; clear a0_
  clear a1; have a1 := a1_; clear a1_
  clear ot0; have ot0 := ot0_; clear ot0_
  clear it0; have it0 := it0_; clear it0_
  clear ot1; have ot1 := ot1_; clear ot1_
  clear it1; have it1 := it1_; clear it1_
  clear ox0; have ox0 := ox0_; clear ox0_
  clear ix0; have ix0 := ix0_; clear ix0_
  clear ox1; have ox1 := ox1_; clear ox1_
  clear ix1; have ix1 := ix1_; clear ix1_
  clear ou0; have ou0 := ou0_; clear ou0_
  clear iu0; have iu0 := iu0_; clear iu0_
  clear hsz
  clear hb
  go_wp2_with fail
  refine (toIntS_any A1 n1 c1 _ ss _ a1 hbel.size (by omega)).mono ?_
  rintro e w9 ⟨rfl, ou1, hb, hs⟩
  have lu1 : w.heap.size ≤ w8.heap.size := hbel.size
  have iu1 : w8.heap.size + 1 ≤ w9.heap.size := by rw [hs]; exact Nat.le_refl _
  clear hs
  have dt0u1 := it0
  have dt1u1 := it1
  have dx0u1 := ix0
  have dx1u1 := ix1
  have du0u1 := iu0
  have hsz := hbel.size
  have hbel_ := hbel.trans (hb.mono hsz)
  have a0_ := RVV.below a0 (hb.mono hsz)
  have a1_ := RV.below a1 (hb.mono hsz)
  have ot0_ := OwnVV.below ot0 hb it0
  have it0_ := Nat.le_trans it0 hb.size
  have ot1_ := OwnV.below ot1 hb it1
  have it1_ := Nat.le_trans it1 hb.size
  have ox0_ := OwnVV.below ox0 hb ix0
  have ix0_ := Nat.le_trans ix0 hb.size
  have ox1_ := OwnV.below ox1 hb ix1
  have ix1_ := Nat.le_trans ix1 hb.size
  have ou0_ := OwnVV.below ou0 hb iu0
  have iu0_ := Nat.le_trans iu0 hb.size
  clear hbel; have hbel := hbel_; clear hbel_
  clear a0; have a0 := a0_; clear a0_
  clear a1; have a1 := a1_; clear a1_
  clear ot0; have ot0 := ot0_; clear ot0_
  clear it0; have it0 := it0_; clear it0_
  clear ot1; have ot1 := ot1_; clear ot1_
  clear it1; have it1 := it1_; clear it1_
  clear ox0; have ox0 := ox0_; clear ox0_
  clear ix0; have ix0 := ix0_; clear ix0_
  clear ox1; have ox1 := ox1_; clear ox1_
  clear ix1; have ix1 := ix1_; clear ix1_
  clear ou0; have ou0 := ou0_; clear ou0_
  clear iu0; have iu0 := iu0_; clear iu0_
  clear hsz
  clear hb
  go_wp2_with fail
  refine (eqIntS_same _ _ _ _ _ _ _ _ _ _ (OwnI.ri ox1) (OwnI.ri ou1) (by have := RI.len a1; omega)).mono ?_
  rintro e w10 ⟨rfl, hb⟩
  have hsz := hbel.size
  have hbel_ := hbel.trans (hb.mono hsz)
  have a0_ := RVV.below a0 (hb.mono hsz)
  have a1_ := RV.below a1 (hb.mono hsz)
  have ot0_ := OwnVV.below ot0 hb it0
  have it0_ := Nat.le_trans it0 hb.size
  have ot1_ := OwnV.below ot1 hb it1
  have it1_ := Nat.le_trans it1 hb.size
  have ox0_ := OwnVV.below ox0 hb ix0
  have ix0_ := Nat.le_trans ix0 hb.size
  have ox1_ := OwnV.below ox1 hb ix1
  have ix1_ := Nat.le_trans ix1 hb.size
  have ou0_ := OwnVV.below ou0 hb iu0
  have iu0_ := Nat.le_trans iu0 hb.size
  have ou1_ := OwnV.below ou1 hb iu1
  have iu1_ := Nat.le_trans iu1 hb.size
  clear hbel; have hbel := hbel_; clear hbel_
  clear a0; have a0 := a0_; clear a0_
  clear a1; have a1 := a1_; clear a1_
  clear ot0; have ot0 := ot0_; clear ot0_
  clear it0; have it0 := it0_; clear it0_
  clear ot1; have ot1 := ot1_; clear ot1_
  clear it1; have it1 := it1_; clear it1_
  clear ox0; have ox0 := ox0_; clear ox0_
  clear ix0; have ix0 := ix0_; clear ix0_
  clear ox1; have ox1 := ox1_; clear ox1_
  clear ix1; have ix1 := ix1_; clear ix1_
  clear ou0; have ou0 := ou0_; clear ou0_
  clear iu0; have iu0 := iu0_; clear iu0_
  clear ou1; have ou1 := ou1_; clear ou1_
  clear iu1; have iu1 := iu1_; clear iu1_
  clear hsz
  clear hb
  go_wp2
  go_ret
  exact ⟨rfl, hbel⟩

set_option maxHeartbeats 800000 in
theorem fnExactSlotsValid_walk {A0 : Option Addr} {n0 c0 : Nat} {rows : List (List Bool)} {A1 : Option Addr} {n1 c1 : Nat} {ss : List (Int)} (w : World) (h0 : RTT w w.heap.size A0 n0 rows) (hl0 : n0 ≤ c0) (hm0 : c0 ≤ maxLen) (h1 : RV w w.heap.size A1 n1 (ss.map (Value.int .i64))) (wf1 : ∀ x ∈ ss, (Lit.int .i64 x).wf = true) (hl1 : n1 ≤ c1) (hm1 : c1 ≤ maxLen) :
    Calls Try.prog 5 #[.slice A0 n0 c0, .slice A1 n1 c1] w fun e w' => e = .returned (.bool true) ∧ Below w.heap.size w w' := by
  by_cases q1 : n1 ≤ 1048576
  · skip
    rcases szSST_ok (rows.map List.length) 1048576 (by omega) with hneg | ⟨hz0, _⟩
    · have hsc := szBoolSS_any A0 n0 c0 _ rows 1048576 w h0 hl0 hm0 (by omega) (by omega)
      rw [hneg] at hsc
      have HSC := hid hsc; clear hsc hneg
      go_enter Try.func5, Try.ntmps5
      go_wp2_with fail
      refine HSC.out.mono ?_
      rintro e w_ ⟨rfl, rfl⟩
      go_wp2
      go_ret
      exact ⟨rfl, Below.refl _ _⟩
    · skip
      exact fnExactSlotsValid_core w A0 n0 c0 rows A1 n1 c1 ss h0 hl0 hm0 hz0 h1 hl1 hm1 q1
  · unfold maxLen at *
    go_enter Try.func5, Try.ntmps5
    go_wp2
    go_ret
    exact ⟨rfl, Below.refl _ _⟩
end Go.Proofs.Ytgccpjhkgkhllaa
