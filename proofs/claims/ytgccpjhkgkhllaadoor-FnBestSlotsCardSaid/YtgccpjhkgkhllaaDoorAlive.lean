/-
  The fixed answer 'alive' (HammingDistance of two lists of one bit); 'sameInts'. Walked.
-/
import Derived.Test.YtgccpjhkgkhllaaDoorProg
import Derived.Test.YtgccpjhkgkhllaaDoorBits
import Derived.Deep.QuietTactic
import Derived.BigQuiet
import Derived.Outline
namespace Go.Proofs.YtgccpjhkgkhllaaDoor
open Go.RowKit
set_option linter.unusedVariables false

theorem samePlaces_one (A A' : Option Addr) (B B' : Nat) (w : World) (h : RI w B A 1 [1]) (h' : RI w B' A' 1 [0]) :
    Calls Tryd.prog 49 #[.slice A 1 1, .slice A' 1 1] w fun e w' => e = .returned (.bool true) ∧ w = w' := by
  have h1 := bitsValid_impl A 1 1 B [1] w h (by omega)
  have h2 := bitsValid_impl A' 1 1 B' [0] w h' (by omega)
  rw [show bitsValid [1] = true by decide] at h1
  rw [show bitsValid [0] = true by decide] at h2
  go_enter Tryd.func49, Tryd.ntmps49
  go_wp2_with fail
  refine h1.mono ?_
  rintro e w1 ⟨rfl, rfl⟩
  go_wp2_with fail
  refine h2.mono ?_
  rintro e w1 ⟨rfl, rfl⟩
  go_wp2
  go_ret
  exact ⟨rfl, rfl⟩

theorem hamming_one (A A' : Option Addr) (B B' : Nat) (w : World) (h : RI w B A 1 [1]) (h' : RI w B' A' 1 [0]) :
    Calls Tryd.prog 39 #[.slice A 1 1, .slice A' 1 1] w fun e w' => e = .returned (.int .i64 1) ∧ Same w w' := by
  have h1 := samePlaces_one A A' B B' w h h'
  obtain ⟨b, o, x, rfl, hb, hx, hc⟩ := RI.at_ h (k := 0) (by omega)
  obtain ⟨b', o', x', rfl, hb', hx', hc'⟩ := RI.at_ h' (k := 0) (by omega)
  simp at hx hx'
  subst hx hx'
  have hc0 : w.cell? ⟨b, o, none⟩ = some (.int .i64 1) := by simpa using hc
  have hc1 : w.cell? ⟨b', o', none⟩ = some (.int .i64 0) := by simpa using hc'
  go_enter Tryd.func39, Tryd.ntmps39
  go_wp2_with fail
  refine h1.mono ?_
  rintro e w1 ⟨rfl, rfl⟩
  go_wp2
  refine wp_loop_rounds 2 ?_
  rw [rounds_succ]
  go_wp2
  go_quiet (fail)
  go_wp2
  rw [rounds_succ]
  go_wp2
  go_ret
  exact ⟨ret_int (by decide +kernel), Same.drewN _ _⟩

theorem alive_any (w : World) : Calls Tryd.prog 16 #[] w fun e w' => e = .returned (.bool true) ∧ Below w.heap.size w w' := by
  have h0 : RI ((w.alloc (.cells #[.int .i64 1] 3)).alloc (.cells #[.int .i64 0] 3)) (w.heap.size + 2) (some ⟨w.heap.size, 0, none⟩) 1 [1] := by
    have := ((Blk.new w 3 #[.int .i64 1]).alloc (.cells #[.int .i64 0] 3)).rv (vs := [.int .i64 1]) (n := 1) rfl
    exact RV.more this (by simp)
  have h1 : RI ((w.alloc (.cells #[.int .i64 1] 3)).alloc (.cells #[.int .i64 0] 3)) (w.heap.size + 2) (some ⟨w.heap.size + 1, 0, none⟩) 1 [0] := by
    have := (Blk.new (w.alloc (.cells #[.int .i64 1] 3)) 3 #[.int .i64 0]).rv (vs := [.int .i64 0]) (n := 1) rfl
    have e : (w.alloc (.cells #[.int .i64 1] 3)).heap.size = w.heap.size + 1 := by simp
    rw [e] at this
    exact RV.more this (by simp)
  have hh := hamming_one _ _ _ _ _ h0 h1
  have HB : Hid (Below w.heap.size w ((w.alloc (.cells #[.int .i64 1] 3)).alloc (.cells #[.int .i64 0] 3))) := hid (((Below.refl _ _).alloc (Nat.le_refl _) _).alloc (by simp) _)
  clear h0 h1
  go_enter Tryd.func16, Tryd.ntmps16
  go_wp2_with fail
  refine hh.mono ?_
  rintro e w1 ⟨rfl, hs⟩
  have hb := HB.out.trans (hs.bel _)
  clear hs hh
  go_wp2
  go_ret
  exact ⟨rfl, hb⟩
theorem sameInts_any (A A' : Option Addr) (n n' c c' B B' : Nat) (xs ys : List Int) (w : World) (h : RI w B A n xs) (h' : RI w B' A' n' ys) (hn : n ≤ 1000000000) (hn' : n' ≤ 1000000000) :
    Calls Tryd.prog 10 #[.slice A n c, .slice A' n' c'] w fun e w' => e = .returned (.bool (decide (xs = ys))) ∧ ∃ m, w' = w.drewN m := by
  have HL := hid (RI.len h)
  have HL' := hid (RI.len h')
  by_cases hnn : n = n'
  · subst hnn
    have hne : ((n : Int) != (n : Int)) = false := by simp
    go_enter Tryd.func10, Tryd.ntmps10
    go_wp2
    go_loopw [5] (fun i wr => ∃ k m : Nat, k ≤ n ∧ i = .int .i64 k ∧ wr = w.drewN m ∧ Hid (xs.take k = ys.take k)) (fun i _ => n - (intOf i).toNat)
    case atStart => exact ⟨0, 0, Nat.zero_le _, rfl, rfl, hid (by simp)⟩
    case round =>
      obtain ⟨k, m, hk, rfl, rfl, HE⟩ := hrel
      by_cases hlt : k < n
      · obtain ⟨b, o, x, rfl, hb, hx, hc⟩ := RI.at_ h hlt
        have HX := hid hx
        clear hx
        obtain ⟨b', o', y, rfl, hb', hy, hc'⟩ := RI.at_ h' hlt
        have HY := hid hy
        clear hy
        by_cases hxy : x = y
        · subst hxy
          go_wp2
          go_quiet (fail)
          go_wp2
          go_roundw
          case rel => exact ⟨k + 1, _, by omega, by go_num, rfl, hid (by rw [take_snoc _ _ _ HX.out, take_snoc _ _ _ HY.out, HE.out])⟩
          case measure => simp [intOf]; omega
        · have hd : (x != y) = true := by simp [hxy]
          go_wp2
          go_quiet (fail)
          go_wp2
          go_ret
          refine ⟨ret_bool ?_, _, by first | rfl | exact World.drewN_drewN _ _ _⟩
          have : xs ≠ ys := by
            rintro rfl
            have := HX.out.symm.trans HY.out
            injection this with this
            exact hxy this
          simp [this]
      · go_wp2
        go_ret
        refine ⟨ret_bool ?_, _, by first | rfl | exact World.drewN_drewN _ _ _⟩
        have e : xs = ys := by
          have := HE.out
          rw [List.take_of_length_le (by rw [HL.out]; omega), List.take_of_length_le (by rw [HL'.out]; omega)] at this
          exact this
        simp [e]
  · have hne : ((n : Int) != (n' : Int)) = true := by simp; omega
    go_enter Tryd.func10, Tryd.ntmps10
    go_wp2
    go_ret
    refine ⟨ret_bool ?_, 0, rfl⟩
    have : xs ≠ ys := by
      rintro rfl
      exact hnn (HL.out.symm.trans HL'.out)
    simp [this]
theorem sameInts_yes (A A' : Option Addr) (n n' c c' B B' : Nat) (xs : List Int) (w : World) (h : RI w B A n xs) (h' : RI w B' A' n' xs) (hn : n ≤ 1000000000) :
    Calls Tryd.prog 10 #[.slice A n c, .slice A' n' c'] w fun e w' => e = .returned (.bool true) ∧ ∃ m, w' = w.drewN m :=
  (sameInts_any A A' n n' c c' B B' xs xs w h h' hn (by have := RI.len h; have := RI.len h'; omega)).mono fun _ _ ⟨he, hw⟩ => ⟨he.trans (ret_bool (by simp)), hw⟩

theorem sameInts_same (A A' : Option Addr) (n n' c c' B B' : Nat) (xs : List Int) (w : World) (h : RI w B A n xs) (h' : RI w B' A' n' xs) (hn : xs.length ≤ 1000000000) :
    Calls Tryd.prog 10 #[.slice A n c, .slice A' n' c'] w fun e w' => e = .returned (.bool true) ∧ Below w.heap.size w w' :=
  (sameInts_yes A A' n n' c c' B B' xs w h h' (by have := RI.len h; omega)).mono fun _ _ ⟨he, hw⟩ => ⟨he, (Same.of_drewN hw).bel _⟩

end Go.Proofs.YtgccpjhkgkhllaaDoor
