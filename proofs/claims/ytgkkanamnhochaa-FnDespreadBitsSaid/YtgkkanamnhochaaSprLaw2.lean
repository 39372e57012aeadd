/-
  The plain law of the sums' energy: over all codes the squares of the sums add up to 8 times the squares of the chips; and of negated chips.
-/
import Derived.Test.YtgkkanamnhochaaSprLaw
namespace Go.Proofs.Ytgkkanamnhochaa
open Go.RowKit
set_option linter.unusedVariables false

def sqs : List Int → Int
  | [] => 0
  | y :: ys => y * y + sqs ys
theorem sqs_append : ∀ a b : List Int, sqs (a ++ b) = sqs a + sqs b := by
  intro a
  induction a with
  | nil => intro b; simp [sqs]
  | cons x a ih => intro b; simp only [List.cons_append, sqs, ih]; omega
theorem sqs_snoc {ys : List Int} {k : Nat} {y : Int} (h : ys[k]? = some y) : sqs (ys.take (k + 1)) = sqs (ys.take k) + y * y := by
  rw [take_snoc _ _ _ h, sqs_append]; simp [sqs]
theorem sq_bd {y b : Int} (h1 : -b ≤ y) (h2 : y ≤ b) : 0 ≤ y * y ∧ y * y ≤ b * b := by
  have hb : 0 ≤ b := by omega
  rcases Int.le_total 0 y with h | h
  · exact ⟨Int.mul_nonneg h h, Int.mul_le_mul h2 h2 h hb⟩
  · have e : y * y = (-y) * (-y) := by rw [Int.neg_mul_neg]
    rw [e]
    exact ⟨Int.mul_nonneg (by omega) (by omega), Int.mul_le_mul (by omega) (by omega) (by omega) hb⟩
theorem sqs_bd {b : Int} : ∀ ys : List Int, AllIn b ys → 0 ≤ sqs ys ∧ sqs ys ≤ ys.length * (b * b) := by
  intro ys
  induction ys with
  | nil => intro _; simp [sqs]
  | cons y ys ih =>
    intro h
    obtain ⟨h1, h2⟩ := h y (List.mem_cons_self ..)
    obtain ⟨i1, i2⟩ := ih (fun x hx => h x (List.mem_cons_of_mem _ hx))
    obtain ⟨j1, j2⟩ := sq_bd h1 h2
    rw [sqs, List.length_cons]
    have e : ((ys.length + 1 : Nat) : Int) * (b * b) = ys.length * (b * b) + b * b := by rw [Int.natCast_add, Int.add_mul]; simp
    rw [e]
    omega
theorem term_bd {y : Int} {b : Int} (k j : Nat) (h1 : -b ≤ y) (h2 : y ≤ b) : -b ≤ y * wsign k j ∧ y * wsign k j ≤ b := by
  rcases wsign_pm k j with h | h
  · rw [h]; omega
  · rw [h]; omega
theorem getD_bd {b : Int} (hb : 0 ≤ b) {ys : List Int} (h : AllIn b ys) (i : Nat) : -b ≤ ys.getD i 0 ∧ ys.getD i 0 ≤ b := by
  rw [List.getD_eq_getElem?_getD]
  cases hx : ys[i]? with
  | none => simp; omega
  | some x => exact allIn_get h hx
theorem dot8_bd {ys : List Int} (h : AllIn 8000 ys) (k : Nat) : -64000 ≤ dot8 ys k ∧ dot8 ys k ≤ 64000 := by
  have g := fun i => getD_bd (show (0 : Int) ≤ 8000 by omega) h i
  have t := fun i => term_bd k i (g i).1 (g i).2
  have t0 := t 0; have t1 := t 1; have t2 := t 2; have t3 := t 3; have t4 := t 4; have t5 := t 5; have t6 := t 6; have t7 := t 7
  unfold dot8
  omega
theorem despL_bd {xs : List Int} (h : AllIn 8000 xs) (k n : Nat) : AllIn 64000 (despL xs k n) := by
  intro y hy
  obtain ⟨i, _, rfl⟩ := List.mem_map.1 hy
  exact dot8_bd (allIn_block h) k
/-- The squares of the sums with the codes 0 to j-1. -/
def tot (xs : List Int) (N : Nat) : Nat → Int
  | 0 => 0
  | j + 1 => tot xs N j + sqs (despL xs j N)
theorem tot_bd {xs : List Int} (h : AllIn 8000 xs) (N : Nat) (hN : N ≤ 32) : ∀ j : Nat, 0 ≤ tot xs N j ∧ tot xs N j ≤ j * 131072000000 := by
  intro j
  induction j with
  | zero => simp [tot]
  | succ j ih =>
    have h1 := sqs_bd (b := 64000) (despL xs j N) (despL_bd h j N)
    have hl : (despL xs j N).length = N := by simp [despL]
    rw [hl] at h1
    rw [tot]
    have e : ((j + 1 : Nat) : Int) = (j : Int) + 1 := by omega
    rw [e]
    omega
theorem energy8 (a b c d e f g i : Int) : sqs ((List.range 8).map (dot8 [a, b, c, d, e, f, g, i])) = 8 * sqs [a, b, c, d, e, f, g, i] := by
  have hd : ∀ k, dot8 [a, b, c, d, e, f, g, i] k = a * wsign k 0 + b * wsign k 1 + c * wsign k 2 + d * wsign k 3 + e * wsign k 4 + f * wsign k 5 + g * wsign k 6 + i * wsign k 7 := fun k => rfl
  have w : ∀ k j, wsign k j = 1 - 2 * ((pop3 (k &&& j) % 2 : Nat) : Int) := fun _ _ => rfl
  have e2 : (List.range 8).map (dot8 [a, b, c, d, e, f, g, i]) = [dot8 [a, b, c, d, e, f, g, i] 0, dot8 [a, b, c, d, e, f, g, i] 1, dot8 [a, b, c, d, e, f, g, i] 2, dot8 [a, b, c, d, e, f, g, i] 3, dot8 [a, b, c, d, e, f, g, i] 4, dot8 [a, b, c, d, e, f, g, i] 5, dot8 [a, b, c, d, e, f, g, i] 6, dot8 [a, b, c, d, e, f, g, i] 7] := rfl
  have q0 : ∀ j, j < 8 → wsign 0 j = 1 := by decide
  have q1 : wsign 1 0 = 1 ∧ wsign 1 1 = -1 ∧ wsign 1 2 = 1 ∧ wsign 1 3 = -1 ∧ wsign 1 4 = 1 ∧ wsign 1 5 = -1 ∧ wsign 1 6 = 1 ∧ wsign 1 7 = -1 := by decide
  have q2 : wsign 2 0 = 1 ∧ wsign 2 1 = 1 ∧ wsign 2 2 = -1 ∧ wsign 2 3 = -1 ∧ wsign 2 4 = 1 ∧ wsign 2 5 = 1 ∧ wsign 2 6 = -1 ∧ wsign 2 7 = -1 := by decide
  have q3 : wsign 3 0 = 1 ∧ wsign 3 1 = -1 ∧ wsign 3 2 = -1 ∧ wsign 3 3 = 1 ∧ wsign 3 4 = 1 ∧ wsign 3 5 = -1 ∧ wsign 3 6 = -1 ∧ wsign 3 7 = 1 := by decide
  have q4 : wsign 4 0 = 1 ∧ wsign 4 1 = 1 ∧ wsign 4 2 = 1 ∧ wsign 4 3 = 1 ∧ wsign 4 4 = -1 ∧ wsign 4 5 = -1 ∧ wsign 4 6 = -1 ∧ wsign 4 7 = -1 := by decide
  have q5 : wsign 5 0 = 1 ∧ wsign 5 1 = -1 ∧ wsign 5 2 = 1 ∧ wsign 5 3 = -1 ∧ wsign 5 4 = -1 ∧ wsign 5 5 = 1 ∧ wsign 5 6 = -1 ∧ wsign 5 7 = 1 := by decide
  have q6 : wsign 6 0 = 1 ∧ wsign 6 1 = 1 ∧ wsign 6 2 = -1 ∧ wsign 6 3 = -1 ∧ wsign 6 4 = -1 ∧ wsign 6 5 = -1 ∧ wsign 6 6 = 1 ∧ wsign 6 7 = 1 := by decide
  have q7 : wsign 7 0 = 1 ∧ wsign 7 1 = -1 ∧ wsign 7 2 = -1 ∧ wsign 7 3 = 1 ∧ wsign 7 4 = -1 ∧ wsign 7 5 = 1 ∧ wsign 7 6 = 1 ∧ wsign 7 7 = -1 := by decide
  rw [e2]
  simp only [sqs, hd, q0 0 (by decide), q0 1 (by decide), q0 2 (by decide), q0 3 (by decide), q0 4 (by decide), q0 5 (by decide), q0 6 (by decide), q0 7 (by decide), q1, q2, q3, q4, q5, q6, q7]
  grind
theorem energy_block {ys : List Int} (h : ys.length = 8) : sqs ((List.range 8).map (dot8 ys)) = 8 * sqs ys := by
  match ys, h with
  | [a, b, c, d, e, f, g, i], _ => exact energy8 a b c d e f g i
theorem sqs_range8 (f : Nat → Int) : sqs ((List.range 8).map f) = f 0 * f 0 + (f 1 * f 1 + (f 2 * f 2 + (f 3 * f 3 + (f 4 * f 4 + (f 5 * f 5 + (f 6 * f 6 + (f 7 * f 7 + 0))))))) := rfl
theorem despL_succ (xs : List Int) (k N : Nat) : despL xs k (N + 1) = despL xs k N ++ [dot8 (block8 xs N) k] := by
  simp [despL, List.range_succ]
theorem energy (xs : List Int) : ∀ N : Nat, 8 * N ≤ xs.length → tot xs N 8 = 8 * sqs (xs.take (8 * N)) := by
  intro N
  induction N with
  | zero => intro _; simp [tot, sqs, despL]
  | succ N ih =>
    intro h
    have i1 := ih (by omega)
    have hb := energy_block (ys := block8 xs N) (block8_len (by omega))
    rw [sqs_range8] at hb
    have ht : xs.take (8 * (N + 1)) = xs.take (8 * N) ++ block8 xs N := by
      rw [block8, show 8 * (N + 1) = 8 * N + 8 by omega, List.take_add]
    rw [ht, sqs_append]
    simp only [tot, despL_succ, sqs_append, sqs] at i1 ⊢
    omega
theorem energy_whole {xs : List Int} {N : Nat} (h : xs.length = 8 * N) : tot xs N 8 = 8 * sqs xs := by
  rw [energy xs N (by omega), List.take_of_length_le (by omega)]
theorem despread_not_nil {xs : List Int} {k : Int} (h : despread xs k ≠ []) : 0 ≤ k ∧ k ≤ 7 ∧ xs.length % 8 = 0 ∧ withinB 256 8000 xs = true := by
  unfold despread at h
  split at h
  · assumption
  · exact absurd rfl h
theorem dot8_neg (ys : List Int) (k : Nat) : dot8 (ys.map fun x => -x) k = - dot8 ys k := by
  have g : ∀ i, (ys.map fun x => -x).getD i 0 = - ys.getD i 0 := fun i => by
    rw [List.getD_eq_getElem?_getD, List.getD_eq_getElem?_getD, List.getElem?_map]
    cases ys[i]? <;> simp
  unfold dot8
  simp only [g, Int.neg_mul]
  omega
theorem despL_neg (xs : List Int) (k N : Nat) : despL (xs.map fun x => -x) k N = (despL xs k N).map fun x => -x := by
  simp only [despL, List.map_map]
  apply List.map_congr_left
  intro i _
  show dot8 (block8 (xs.map fun x => -x) i) k = - dot8 (block8 xs i) k
  rw [← dot8_neg]
  congr 1
  simp [block8, List.map_drop, List.map_take]
theorem despread_neg (xs : List Int) (k : Int) : despread (xs.map fun x => -x) k = (despread xs k).map fun x => -x := by
  have hw : withinB 256 8000 (xs.map fun x => -x) = withinB 256 8000 xs := by
    rw [Bool.eq_iff_iff, withinB_iff, withinB_iff, List.length_map]
    constructor
    · rintro ⟨h1, h2⟩
      exact ⟨h1, fun x hx => by have := h2 (-x) (List.mem_map.2 ⟨x, hx, rfl⟩); omega⟩
    · rintro ⟨h1, h2⟩
      refine ⟨h1, fun y hy => ?_⟩
      obtain ⟨x, hx, rfl⟩ := List.mem_map.1 hy
      have := h2 x hx; omega
  unfold despread
  rw [hw, List.length_map]
  split
  · exact despL_neg _ _ _
  · rfl
end Go.Proofs.Ytgkkanamnhochaa
