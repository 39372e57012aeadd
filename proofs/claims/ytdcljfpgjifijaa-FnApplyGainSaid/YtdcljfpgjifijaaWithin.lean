/-
  A list is short enough and its numbers are small: 'within', walked.
-/
import Derived.Test.YtdcljfpgjifijaaProg
import Derived.Test.YtdcljfpgjifijaaBase
import Derived.Deep.QuietTactic
import Derived.BigQuiet
import Derived.Outline
namespace Go.Proofs.Ytdcljfpgjifijaa
open Go.RowKit
set_option linter.unusedVariables false

def AllIn (b : Int) (xs : List Int) : Prop := ∀ x ∈ xs, -b ≤ x ∧ x ≤ b
def withinB (l b : Int) (xs : List Int) : Bool := (decide ((xs.length : Int) ≤ l)) && xs.all fun x => decide (-b ≤ x ∧ x ≤ b)
def seqValid (xs : List Int) : Bool := withinB 64 1000 xs
theorem withinB_iff {l b : Int} {xs : List Int} : withinB l b xs = true ↔ (xs.length : Int) ≤ l ∧ AllIn b xs := by
  simp [withinB, AllIn, List.all_eq_true]
theorem withinB_no {l b : Int} {xs : List Int} (h : ¬ ((xs.length : Int) ≤ l ∧ AllIn b xs)) : withinB l b xs = false := by
  rw [← withinB_iff] at h
  simpa using h
theorem allIn_nil (b : Int) : AllIn b [] := by intro x hx; cases hx
theorem allIn_snoc {b : Int} {xs : List Int} {k : Nat} {x : Int} (h : AllIn b (xs.take k)) (hx : xs[k]? = some x) (h1 : -b ≤ x) (h2 : x ≤ b) : AllIn b (xs.take (k + 1)) := by
  rw [take_snoc _ _ _ hx]
  intro y hy
  rcases List.mem_append.1 hy with hy | hy
  · exact h y hy
  · rw [List.mem_singleton] at hy; subst hy; exact ⟨h1, h2⟩
theorem allIn_get {b : Int} {xs : List Int} (h : AllIn b xs) {k : Nat} {x : Int} (hx : xs[k]? = some x) : -b ≤ x ∧ x ≤ b := h x (List.mem_of_getElem? hx)
theorem allIn_whole {b : Int} {xs : List Int} {k n : Nat} (h : AllIn b (xs.take k)) (hl : xs.length = n) (hk : n ≤ k) : AllIn b xs := by
  rwa [List.take_of_length_le (by omega)] at h

theorem within_any (A : Option Addr) (n c B : Nat) (xs : List Int) (l b : Int) (w : World) (h : RI w B A n xs) (hn : n ≤ 1000000000) (hb0 : 0 ≤ b) (hb1 : b ≤ 1000000000) :
    Calls Try.prog 42 #[.slice A n c, .int .i64 l, .int .i64 b] w fun e w' => e = .returned (.bool (withinB l b xs)) ∧ w = w' := by
  have HL := hid (RI.len h)
  by_cases hl : (n : Int) ≤ l
  · go_enter Try.func42, Try.ntmps42
    go_wp2
    go_loop [15] (fun i => ∃ k : Nat, k ≤ n ∧ i = .int .i64 k ∧ Hid (AllIn b (xs.take k))) (fun i => n - (intOf i).toNat)
    case atStart => exact ⟨0, Nat.zero_le _, rfl, hid (by rw [List.take_zero]; exact allIn_nil b)⟩
    case round =>
      obtain ⟨k, hk, rfl, HE⟩ := hrel
      by_cases hlt : k < n
      · obtain ⟨p, o, x, rfl, hb, hx, hc⟩ := RI.at_ h hlt
        have HX := hid hx
        clear hx
        by_cases h1 : -b ≤ x
        · by_cases h2 : x ≤ b
          · go_wp2
            go_round
            case rel => exact ⟨k + 1, by omega, by go_num, hid (allIn_snoc HE.out HX.out h1 h2)⟩
            case measure => simp [intOf]; omega
          · go_wp2
            go_ret
            exact ⟨ret_bool (withinB_no fun hh => by have := allIn_get hh.2 HX.out; omega).symm, rfl⟩
        · go_wp2
          go_ret
          exact ⟨ret_bool (withinB_no fun hh => by have := allIn_get hh.2 HX.out; omega).symm, rfl⟩
      · go_wp2
        go_ret
        exact ⟨ret_bool (withinB_iff.2 ⟨by rw [HL.out]; exact hl, allIn_whole HE.out HL.out (by omega)⟩).symm, rfl⟩
  · go_enter Try.func42, Try.ntmps42
    go_wp2
    go_ret
    exact ⟨ret_bool (withinB_no fun hh => by rw [HL.out] at hh; omega).symm, rfl⟩

end Go.Proofs.Ytdcljfpgjifijaa
