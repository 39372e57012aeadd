/-
  math/bits: OnesCount of a small number, walked at this program.
-/
import Derived.Test.YtgccpjhkgkhllaaDoorTz
namespace Go.Proofs.YtgccpjhkgkhllaaDoor
open Go.RowKit
set_option linter.unusedVariables false

def onA (x : Int) : Int := IntKind.u64.wrap (bits .and .u64 (x / 2) 6148914691236517205 + bits .and .u64 x 6148914691236517205)
def onB (y : Int) : Int := IntKind.u64.wrap (bits .and .u64 (y / 4) 3689348814741910323 + bits .and .u64 y 3689348814741910323)
def onC (y : Int) : Int := bits .and .u64 (IntKind.u64.wrap (y / 16 + y)) 1085102592571150095
def onD (k y : Int) : Int := IntKind.u64.wrap (y + y / k)
/-- What the library's text reckons. -/
def onesE (x : Int) : Int := bits .and .i64 (wrap64 (onD 4294967296 (onD 65536 (onD 256 (onC (onB (onA x))))))) 127
/-- The number of bits that are set, of the first k. -/
def popN (x : Nat) : Nat → Nat
  | 0 => 0
  | k + 1 => popN x k + (if x.testBit k = true then 1 else 0)
theorem ones_eq : ∀ n : Fin 1024, onesE (n.val : Int) = (popN n.val 10 : Int) := by decide +kernel
set_option maxHeartbeats 1000000 in
theorem ones64_raw (x : Nat) (w : World) :
    Calls Tryd.prog 51 #[.int .u64 x] w fun e w' => e = .returned (.int .i64 (onesE x)) ∧ w = w' := by
  go_enter Tryd.func51, Tryd.ntmps51
  go_wp2
  go_ret
  exact ⟨by simp [onesE, onA, onB, onC, onD], rfl⟩
theorem ones (x : Nat) (hx : x < 1024) (w : World) :
    Calls Tryd.prog 48 #[.int .u64 x] w fun e w' => e = .returned (.int .i64 (popN x 10 : Nat)) ∧ w = w' := by
  have h := ones64_raw x w
  rw [ones_eq ⟨x, hx⟩] at h
  go_enter Tryd.func48, Tryd.ntmps48
  go_wp2_with fail
  refine h.mono ?_
  rintro e w1 ⟨rfl, rfl⟩
  go_wp2
  go_ret
  exact ⟨rfl, rfl⟩
end Go.Proofs.YtgccpjhkgkhllaaDoor
