/-
  FnExactGroupSize, walked: the program's GroupSize returns what the reference's returns; it changes no argument; its result is memory of its own.
-/
import Derived.Test.YtgccpjhkgkhllaaDoorTabT
import Derived.Test.YtgccpjhkgkhllaaDoorSloX
namespace Go.Proofs.YtgccpjhkgkhllaaDoor
open Go.RowKit
set_option linter.unusedVariables false

set_option maxHeartbeats 2400000 in
theorem fnExactGroupSize_core (w : World) (hT : TabW w) (A0 : Option Addr) (n0 c0 : Nat) (rows : List (List Bool)) (h0 : RTT w w.heap.size A0 n0 rows) (hl0 : n0 ≤ c0) (hm0 : c0 ≤ maxLen) (hz0 : 0 ≤ szSST (rows.map List.length) 1048576) :
    Calls Tryd.prog 7 #[.slice A0 n0 c0] w fun e w' => e = .returned (.bool true) ∧ Below w.heap.size w w' := by
  have HT := hid hT; clear hT
  have hbel : Below w.heap.size w w := Below.refl _ _
  have hsz0 := szSST_ok (rows.map List.length) 1048576 (by omega)
  have hzz0 : (rows.map List.length).length ≤ 1048576 ∧ (rows.map List.length).sum ≤ 1048576 ∧ ∀ y ∈ rows.map List.length, y ≤ 1048576 := by
    rcases hsz0 with h | ⟨h1, h2, h3, h4⟩
    · omega
    · exact ⟨by omega, by omega, fun y hy => by have := h4 y hy; omega⟩
  clear hsz0
  have hN0 : n0 ≤ 1048576 := by have := RTT.len h0; have := hzz0.1; rw [List.length_map] at this; omega
  have HR0 : Hid (∀ r ∈ rows, r.length ≤ 1048576) := hid (fun r hr => hzz0.2.2 _ (List.mem_map_of_mem hr))
  have HRb0 : Hid (∀ r ∈ rows, r.length ≤ 1000000000) := hid (fun r hr => by have := HR0.out r hr; omega)
  have hsc0 := szBoolSS_any A0 n0 c0 _ rows 1048576 w h0 hl0 hm0 (by omega) (by omega)
  obtain ⟨Z0, HZ0⟩ : ∃ Z, Hid (Z = szSST (rows.map List.length) 1048576) := ⟨_, hid rfl⟩
  rw [← HZ0.out] at hz0
  clear hzz0 hsc0
  have hne : (groupZ rows != groupZ rows) = false := by simp
  have a0 : RTT w w.heap.size A0 n0 rows := h0
  clear h0
  go_enter Tryd.func7, Tryd.ntmps7
  have hsc0 := szBoolSS_any A0 n0 c0 _ rows 1048576 w a0 hl0 hm0 (by omega) (by omega)
  rw [← HZ0.out] at hsc0
  have HSC0 := hid hsc0; clear hsc0
  go_wp2_with fail
  refine HSC0.out.mono ?_
  rintro e w_ ⟨rfl, rfl⟩
  clear HSC0
  go_wp2_with fail
  refine (toBoolSS_any A0 n0 c0 _ rows _ a0 hbel.size (by omega) HR0.out).mono ?_
  rintro e w1 ⟨rfl, ot0, hb⟩
  have lt0 : w.heap.size ≤ w.heap.size := hbel.size
  have it0 : w1.heap.size ≤ w1.heap.size := Nat.le_refl _
  have hsz := hbel.size
  have hbel_ := hbel.trans (hb.mono hsz)
  have a0_ := RVV.below a0 (hb.mono hsz)
  clear hbel; have hbel := hbel_; clear hbel_
  clear a0; have a0 := a0_; clear a0_
  clear hsz
  clear hb
  go_wp2_with fail
  refine (calls_bel_drewN (groupSize_spec _ _ _ _ rows _ (RVV.more (OwnTT.rtt ot0) it0) (by omega))).mono ?_
  rintro e w2 ⟨rfl, hb⟩
  have hsz := hbel.size
  have hbel_ := hbel.trans (hb.mono hsz)
  have a0_ := RVV.below a0 (hb.mono hsz)
  have ot0_ := OwnVV.below ot0 hb it0
  have it0_ := Nat.le_trans it0 hb.size
  clear hbel; have hbel := hbel_; clear hbel_
  clear a0; have a0 := a0_; clear a0_
  clear ot0; have ot0 := ot0_; clear ot0_
  clear it0; have it0 := it0_; clear it0_
  clear hsz
  clear hb
  go_wp2_with fail
  refine (toBoolSS_any A0 n0 c0 _ rows _ a0 hbel.size (by omega) HR0.out).mono ?_
  rintro e w3 ⟨rfl, ox0, hb⟩
  have lx0 : w.heap.size ≤ w2.heap.size := hbel.size
  have ix0 : w3.heap.size ≤ w3.heap.size := Nat.le_refl _
  have dt0x0 := it0
  have hsz := hbel.size
  have hbel_ := hbel.trans (hb.mono hsz)
  have a0_ := RVV.below a0 (hb.mono hsz)
  have ot0_ := OwnVV.below ot0 hb it0
  have it0_ := Nat.le_trans it0 hb.size
  clear hbel; have hbel := hbel_; clear hbel_
  clear a0; have a0 := a0_; clear a0_
  clear ot0; have ot0 := ot0_; clear ot0_
  clear it0; have it0 := it0_; clear it0_
  clear hsz
  clear hb
  go_wp2_with fail
  refine (groupSize_impl _ _ _ _ rows _ (RVV.more (OwnTT.rtt ox0) ix0) (Nat.le_refl _) (by omega) (TabW.below HT.out hbel HT.out.lt)).mono ?_
  rintro e w4 ⟨rfl, hb⟩
  have hsz := hbel.size
  have hbel_ := hbel.trans (hb.mono hsz)
  have a0_ := RVV.below a0 (hb.mono hsz)
  have ot0_ := OwnVV.below ot0 hb it0
  have it0_ := Nat.le_trans it0 hb.size
  have ox0_ := OwnVV.below ox0 hb ix0
  have ix0_ := Nat.le_trans ix0 hb.size
  clear hbel; have hbel := hbel_; clear hbel_
  clear a0; have a0 := a0_; clear a0_
  clear ot0; have ot0 := ot0_; clear ot0_
  clear it0; have it0 := it0_; clear it0_
  clear ox0; have ox0 := ox0_; clear ox0_
  clear ix0; have ix0 := ix0_; clear ix0_
  clear hsz
  clear hb
  go_wp2_with fail
  refine (toBoolSS_any A0 n0 c0 _ rows _ a0 hbel.size (by omega) HR0.out).mono ?_
  rintro e w5 ⟨rfl, ou0, hb⟩
  have lu0 : w.heap.size ≤ w4.heap.size := hbel.size
  have iu0 : w5.heap.size ≤ w5.heap.size := Nat.le_refl _
  have dt0u0 := it0
  have dx0u0 := ix0
  have hsz := hbel.size
  have hbel_ := hbel.trans (hb.mono hsz)
  have a0_ := RVV.below a0 (hb.mono hsz)
  have ot0_ := OwnVV.below ot0 hb it0
  have it0_ := Nat.le_trans it0 hb.size
  have ox0_ := OwnVV.below ox0 hb ix0
  have ix0_ := Nat.le_trans ix0 hb.size
  clear hbel; have hbel := hbel_; clear hbel_
  clear a0; have a0 := a0_; clear a0_
  clear ot0; have ot0 := ot0_; clear ot0_
  clear it0; have it0 := it0_; clear it0_
  clear ox0; have ox0 := ox0_; clear ox0_
  clear ix0; have ix0 := ix0_; clear ix0_
  clear hsz
  clear hb
  go_wp2_with fail
  refine (eqBoolSS_same _ _ _ _ _ _ _ _ _ _ (OwnTT.rtt ox0) (OwnTT.rtt ou0) (by have := RTT.len a0; omega) HRb0.out).mono ?_
  rintro e w6 ⟨rfl, hb⟩
  have hsz := hbel.size
  have hbel_ := hbel.trans (hb.mono hsz)
  have a0_ := RVV.below a0 (hb.mono hsz)
  have ot0_ := OwnVV.below ot0 hb it0
  have it0_ := Nat.le_trans it0 hb.size
  have ox0_ := OwnVV.below ox0 hb ix0
  have ix0_ := Nat.le_trans ix0 hb.size
  have ou0_ := OwnVV.below ou0 hb iu0
  have iu0_ := Nat.le_trans iu0 hb.size
  clear hbel; have hbel := hbel_; clear hbel_
  clear a0; have a0 := a0_; clear a0_
  clear ot0; have ot0 := ot0_; clear ot0_
  clear it0; have it0 := it0_; clear it0_
  clear ox0; have ox0 := ox0_; clear ox0_
  clear ix0; have ix0 := ix0_; clear ix0_
  clear ou0; have ou0 := ou0_; clear ou0_
  clear iu0; have iu0 := iu0_; clear iu0_
  clear hsz
  clear hb
  go_wp2
  go_ret
  exact ⟨rfl, hbel⟩

set_option maxHeartbeats 800000 in
theorem fnExactGroupSize_walk {A0 : Option Addr} {n0 c0 : Nat} {rows : List (List Bool)} (w : World) (hT : TabW w) (h0 : RTT w w.heap.size A0 n0 rows) (hl0 : n0 ≤ c0) (hm0 : c0 ≤ maxLen) :
    Calls Tryd.prog 7 #[.slice A0 n0 c0] w fun e w' => e = .returned (.bool true) ∧ Below w.heap.size w w' := by
  rcases szSST_ok (rows.map List.length) 1048576 (by omega) with hneg | ⟨hz0, _⟩
  · clear hT; have hsc := szBoolSS_any A0 n0 c0 _ rows 1048576 w h0 hl0 hm0 (by omega) (by omega)
    rw [hneg] at hsc
    have HSC := hid hsc; clear hsc hneg
    go_enter Tryd.func7, Tryd.ntmps7
    go_wp2_with fail
    refine HSC.out.mono ?_
    rintro e w_ ⟨rfl, rfl⟩
    go_wp2
    go_ret
    exact ⟨rfl, Below.refl _ _⟩
  · skip
    exact fnExactGroupSize_core w hT A0 n0 c0 rows h0 hl0 hm0 hz0
end Go.Proofs.YtgccpjhkgkhllaaDoor
