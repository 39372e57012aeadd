/-
  The fixed answer 'alive' (HammingDistance of two lists of one bit); 'sameInts'. Walked.
-/
import Derived.Test.YtgccpjhkgkhllaaProg
import Derived.Test.YtgccpjhkgkhllaaBits
import Derived.Deep.QuietTactic
import Derived.BigQuiet
import Derived.Outline
namespace Go.Proofs.Ytgccpjhkgkhllaa
open Go.RowKit
set_option linter.unusedVariables false

theorem samePlaces_one (A A' : Option Addr) (B B' : Nat) (w : World) (h : RI w B A 1 [1]) (h' : RI w B' A' 1 [0]) :
    Calls Try.prog 39 #[.slice A 1 1, .slice A' 1 1] w fun e w' => e = .returned (.bool true) ∧ w = w' := by
  have h1 := bitsValid_impl A 1 1 B [1] w h (by omega)
  have h2 := bitsValid_impl A' 1 1 B' [0] w h' (by omega)
  rw [show bitsValid [1] = true by decide] at h1
  rw [show bitsValid [0] = true by decide] at h2
  go_enter Try.func39, Try.ntmps39
  go_wp2_with fail
  refine h1.mono ?_
  rintro e w1 ⟨rfl, rfl⟩
  go_wp2_with fail
  refine h2.mono ?_
  rintro e w1 ⟨rfl, rfl⟩
  go_wp2
  go_ret
  exact ⟨rfl, rfl⟩

theorem hamming_one (A A' : Option Addr) (B B' : Nat) (w : World) (h : RI w B A 1 [1]) (h' : RI w B' A' 1 [0]) :
    Calls Try.prog 30 #[.slice A 1 1, .slice A' 1 1] w fun e w' => e = .returned (.int .i64 1) ∧ Same w w' := by
  have h1 := samePlaces_one A A' B B' w h h'
  obtain ⟨b, o, x, rfl, hb, hx, hc⟩ := RI.at_ h (k := 0) (by omega)
  obtain ⟨b', o', x', rfl, hb', hx', hc'⟩ := RI.at_ h' (k := 0) (by omega)
  simp at hx hx'
  subst hx hx'
  have hc0 : w.cell? ⟨b, o, none⟩ = some (.int .i64 1) := by simpa using hc
  have hc1 : w.cell? ⟨b', o', none⟩ = some (.int .i64 0) := by simpa using hc'
  go_enter Try.func30, Try.ntmps30
  go_wp2_with fail
  refine h1.mono ?_
  rintro e w1 ⟨rfl, rfl⟩
  go_wp2
  refine wp_loop_rounds 2 ?_
  rw [rounds_succ]
  go_wp2
  go_quiet (fail)
  go_wp2
  rw [rounds_succ]
  go_wp2
  go_ret
  exact ⟨ret_int (by decide +kernel), Same.drewN _ _⟩

theorem alive_any (w : World) : Calls Try.prog 14 #[] w fun e w' => e = .returned (.bool true) ∧ Below w.heap.size w w' := by
  have h0 : RI ((w.alloc (.cells #[.int .i64 1] 3)).alloc (.cells #[.int .i64 0] 3)) (w.heap.size + 2) (some ⟨w.heap.size, 0, none⟩) 1 [1] := by
    have := ((Blk.new w 3 #[.int .i64 1]).alloc (.cells #[.int .i64 0] 3)).rv (vs := [.int .i64 1]) (n := 1) rfl
    exact RV.more this (by simp)
  have h1 : RI ((w.alloc (.cells #[.int .i64 1] 3)).alloc (.cells #[.int .i64 0] 3)) (w.heap.size + 2) (some ⟨w.heap.size + 1, 0, none⟩) 1 [0] := by
    have := (Blk.new (w.alloc (.cells #[.int .i64 1] 3)) 3 #[.int .i64 0]).rv (vs := [.int .i64 0]) (n := 1) rfl
    have e : (w.alloc (.cells #[.int .i64 1] 3)).heap.size = w.heap.size + 1 := by simp
    rw [e] at this
    exact RV.more this (by simp)
  have hh := hamming_one _ _ _ _ _ h0 h1
  have HB : Hid (Below w.heap.size w ((w.alloc (.cells #[.int .i64 1] 3)).alloc (.cells #[.int .i64 0] 3))) := hid (((Below.refl _ _).alloc (Nat.le_refl _) _).alloc (by simp) _)
  clear h0 h1
  go_enter Try.func14, Try.ntmps14
  go_wp2_with fail
  refine hh.mono ?_
  rintro e w1 ⟨rfl, hs⟩
  have hb := HB.out.trans (hs.bel _)
  clear hs hh
  go_wp2
  go_ret
  exact ⟨rfl, hb⟩
end Go.Proofs.Ytgccpjhkgkhllaa
