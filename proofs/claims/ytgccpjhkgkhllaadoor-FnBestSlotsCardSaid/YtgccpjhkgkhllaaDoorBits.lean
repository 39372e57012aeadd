/-
  BitsValid, walked.
-/
import Derived.Test.YtgccpjhkgkhllaaDoorProg
import Derived.Test.YtgccpjhkgkhllaaDoorBase
import Derived.Deep.QuietTactic
import Derived.BigQuiet
import Derived.Outline
namespace Go.Proofs.YtgccpjhkgkhllaaDoor
open Go.RowKit
set_option linter.unusedVariables false

def AllBit (xs : List Int) : Prop := ∀ x ∈ xs, x = 0 ∨ x = 1
def bitsValid (xs : List Int) : Bool := decide (xs.length ≤ 1024) && xs.all fun x => decide (x = 0 ∨ x = 1)
theorem bitsValid_iff {xs : List Int} : bitsValid xs = true ↔ xs.length ≤ 1024 ∧ AllBit xs := by
  simp [bitsValid, AllBit, List.all_eq_true]
theorem bitsValid_no {xs : List Int} (h : ¬ (xs.length ≤ 1024 ∧ AllBit xs)) : bitsValid xs = false := by
  rw [← bitsValid_iff] at h
  simpa using h
theorem allBit_nil : AllBit [] := by intro x hx; cases hx
theorem allBit_snoc {xs : List Int} {k : Nat} {x : Int} (h : AllBit (xs.take k)) (hx : xs[k]? = some x) (h1 : x = 0 ∨ x = 1) : AllBit (xs.take (k + 1)) := by
  rw [take_snoc _ _ _ hx]
  intro y hy
  rcases List.mem_append.1 hy with hy | hy
  · exact h y hy
  · rw [List.mem_singleton] at hy; subst hy; exact h1
theorem allBit_get {xs : List Int} (h : AllBit xs) {k : Nat} {x : Int} (hx : xs[k]? = some x) : x = 0 ∨ x = 1 := h x (List.mem_of_getElem? hx)
theorem allBit_whole {xs : List Int} {k n : Nat} (h : AllBit (xs.take k)) (hl : xs.length = n) (hk : n ≤ k) : AllBit xs := by
  rwa [List.take_of_length_le (by omega)] at h

theorem bitsValid_impl (A : Option Addr) (n c B : Nat) (xs : List Int) (w : World) (h : RI w B A n xs) (hn : n ≤ 1000000000) :
    Calls Tryd.prog 52 #[.slice A n c] w fun e w' => e = .returned (.bool (bitsValid xs)) ∧ w = w' := by
  have HL := hid (RI.len h)
  by_cases hl : n ≤ 1024
  · go_enter Tryd.func52, Tryd.ntmps52
    go_wp2
    go_loop [10] (fun i => ∃ k : Nat, k ≤ n ∧ i = .int .i64 k ∧ Hid (AllBit (xs.take k))) (fun i => n - (intOf i).toNat)
    case atStart => exact ⟨0, Nat.zero_le _, rfl, hid (by rw [List.take_zero]; exact allBit_nil)⟩
    case round =>
      obtain ⟨k, hk, rfl, HE⟩ := hrel
      by_cases hlt : k < n
      · obtain ⟨p, o, x, rfl, hb, hx, hc⟩ := RI.at_ h hlt
        have HX := hid hx
        clear hx
        by_cases h1 : x = 0
        · subst h1
          go_wp2
          go_round
          case rel => exact ⟨k + 1, by omega, by go_num, hid (allBit_snoc HE.out HX.out (.inl rfl))⟩
          case measure => simp [intOf]; omega
        · by_cases h2 : x = 1
          · subst h2
            go_wp2
            go_round
            case rel => exact ⟨k + 1, by omega, by go_num, hid (allBit_snoc HE.out HX.out (.inr rfl))⟩
            case measure => simp [intOf]; omega
          · have e1 : (x != 0) = true := by simp [h1]
            have e2 : (x != 1) = true := by simp [h2]
            go_wp2
            go_ret
            exact ⟨ret_bool (bitsValid_no fun hh => by have := allBit_get hh.2 HX.out; omega).symm, rfl⟩
      · go_wp2
        go_ret
        exact ⟨ret_bool (bitsValid_iff.2 ⟨by rw [HL.out]; exact hl, allBit_whole HE.out HL.out (by omega)⟩).symm, rfl⟩
  · go_enter Tryd.func52, Tryd.ntmps52
    go_wp2
    go_ret
    exact ⟨ret_bool (bitsValid_no fun hh => by rw [HL.out] at hh; omega).symm, rfl⟩

end Go.Proofs.YtgccpjhkgkhllaaDoor
