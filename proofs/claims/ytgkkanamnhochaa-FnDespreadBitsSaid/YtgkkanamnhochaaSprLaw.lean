/-
  The plain law of spreading: what despreading gives back. No program in sight.
-/
import Derived.Test.YtgkkanamnhochaaDesBits
import Derived.Test.YtgkkanamnhochaaLWalshCode
import Derived.Test.YtgkkanamnhochaaSpreadS
namespace Go.Proofs.Ytgkkanamnhochaa
open Go.RowKit
set_option linter.unusedVariables false

theorem dot_chip (K k : Nat) (b : Int) : dot8 ((walsh K).map (chip1 b)) k = dotp K k 8 * (2 * b - 1) := by
  have e : (walsh K).map (chip1 b) = [wsign K 0 * (2 * b - 1), wsign K 1 * (2 * b - 1), wsign K 2 * (2 * b - 1), wsign K 3 * (2 * b - 1), wsign K 4 * (2 * b - 1), wsign K 5 * (2 * b - 1), wsign K 6 * (2 * b - 1), wsign K 7 * (2 * b - 1)] := rfl
  rw [e]
  show wsign K 0 * (2 * b - 1) * wsign k 0 + wsign K 1 * (2 * b - 1) * wsign k 1 + wsign K 2 * (2 * b - 1) * wsign k 2 + wsign K 3 * (2 * b - 1) * wsign k 3 + wsign K 4 * (2 * b - 1) * wsign k 4 + wsign K 5 * (2 * b - 1) * wsign k 5 + wsign K 6 * (2 * b - 1) * wsign k 6 + wsign K 7 * (2 * b - 1) * wsign k 7 = _
  simp only [dotp, Int.zero_add]
  generalize 2 * b - 1 = c
  simp only [Int.add_mul, Int.mul_right_comm _ c _]
theorem block_spread (K : Nat) : ∀ (bits : List Int) (i : Nat) (b : Int), bits[i]? = some b → block8 (spreadL K bits) i = (walsh K).map (chip1 b)
  | [], i, b, h => by simp at h
  | x :: bs, 0, b, h => by
    simp at h
    subst h
    rw [block8, spreadL, List.flatMap_cons, Nat.mul_zero, List.drop_zero, List.take_append_of_le_length (by simp [walsh_len]), List.take_of_length_le (by simp [walsh_len])]
  | x :: bs, i + 1, b, h => by
    have ih := block_spread K bs i b (by simpa using h)
    rw [← ih, block8, block8, spreadL, List.flatMap_cons, show 8 * (i + 1) = ((walsh K).map (chip1 x)).length + 8 * i by simp [walsh_len]; omega, ← List.drop_drop, List.drop_left]
    rfl
theorem block_add (C D : List Int) (i : Nat) : block8 (addL C D) i = addL (block8 C i) (block8 D i) := by
  simp [block8, addL, List.drop_zipWith, List.take_zipWith]
theorem getD_add {a b : List Int} (h : a.length = b.length) (i : Nat) : (addL a b).getD i 0 = a.getD i 0 + b.getD i 0 := by
  simp only [List.getD_eq_getElem?_getD, addL, List.getElem?_zipWith]
  by_cases hi : i < a.length
  · rw [List.getElem?_eq_getElem hi, List.getElem?_eq_getElem (h ▸ hi)]; rfl
  · rw [List.getElem?_eq_none (by omega), List.getElem?_eq_none (by omega)]; rfl
theorem dot_add {a b : List Int} (h : a.length = b.length) (k : Nat) : dot8 (addL a b) k = dot8 a k + dot8 b k := by
  simp only [dot8, getD_add h, Int.add_mul]
  omega
theorem desp_ext {xs : List Int} {k n : Nat} {ys : List Int} (hl : ys.length = n) (h : ∀ i y, ys[i]? = some y → dot8 (block8 xs i) k = y) : despL xs k n = ys := by
  apply List.ext_getElem?
  intro i
  by_cases hi : i < n
  · obtain ⟨y, hy⟩ : ∃ y, ys[i]? = some y := ⟨ys[i]'(by omega), List.getElem?_eq_getElem (by omega)⟩
    rw [hy, despL, List.getElem?_map, List.getElem?_range hi]
    exact congrArg some (h i y hy)
  · rw [List.getElem?_eq_none (by simp [despL]; omega), List.getElem?_eq_none (by omega)]
theorem desp_spread (K : Nat) (bits : List Int) (hK : K < 8) : despL (spreadL K bits) K bits.length = bits.map fun b => 8 * (2 * b - 1) := by
  refine desp_ext (by simp) fun i y hy => ?_
  rw [List.getElem?_map] at hy
  cases hb : bits[i]? with
  | none => rw [hb] at hy; cases hy
  | some b =>
    rw [hb] at hy
    injection hy with hy
    rw [block_spread K bits i b hb, dot_chip, dotp_all K hK K hK, if_pos rfl]; exact hy
theorem desp_cross (K J : Nat) (bits : List Int) (hK : K < 8) (hJ : J < 8) (hne : J ≠ K) : despL (spreadL K bits) J bits.length = List.replicate bits.length 0 := by
  refine desp_ext (by simp) fun i y hy => ?_
  rw [List.getElem?_replicate] at hy
  split at hy
  · rename_i hi
    injection hy with hy
    rw [block_spread K bits i (bits[i]'hi) (List.getElem?_eq_getElem hi), dot_chip, dotp_all K hK J hJ, if_neg hne, ← hy, Int.zero_mul]
  · cases hy
theorem desp_both (K J : Nat) (us bs : List Int) (hK : K < 8) (hJ : J < 8) (hne : J ≠ K) (hl : bs.length = us.length) : despL (addL (spreadL K us) (spreadL J bs)) K us.length = us.map fun b => 8 * (2 * b - 1) := by
  refine desp_ext (by simp) fun i y hy => ?_
  rw [List.getElem?_map] at hy
  cases hb : us[i]? with
  | none => rw [hb] at hy; cases hy
  | some b =>
    rw [hb] at hy
    injection hy with hy
    have hi : i < us.length := (List.getElem?_eq_some_iff.1 hb).1
    obtain ⟨d, hd⟩ : ∃ d, bs[i]? = some d := ⟨bs[i]'(by omega), List.getElem?_eq_getElem (by omega)⟩
    rw [block_add, block_spread K us i b hb, block_spread J bs i d hd, dot_add (by simp [walsh_len]), dot_chip, dot_chip, dotp_all K hK K hK, if_pos rfl, dotp_all J hJ K hK, if_neg (fun e => hne e.symm), Int.zero_mul, Int.add_zero]; exact hy
theorem addL_comm (a b : List Int) : addL a b = addL b a := by
  rw [addL, addL, List.zipWith_comm]
  congr 1
  funext x y
  exact Int.add_comm _ _
theorem sbit_back (bits : List Int) (h : AllBit bits) : (bits.map fun b => 8 * (2 * b - 1)).map sbit = bits := by
  rw [List.map_map]
  conv => rhs; rw [← List.map_id bits]
  apply List.map_congr_left
  intro b hb
  have := h b hb
  show sbit (8 * (2 * b - 1)) = b
  unfold sbit
  split <;> omega
theorem allIn_spread (K : Nat) {bits : List Int} (h : AllBit bits) : AllIn 1 (spreadL K bits) := by
  intro x hx
  rw [spreadL, List.mem_flatMap] at hx
  obtain ⟨b, hb, hx⟩ := hx
  obtain ⟨c, hc, rfl⟩ := List.mem_map.1 hx
  obtain ⟨j, _, rfl⟩ := List.mem_map.1 hc
  rcases wsign_pm K j with e | e <;> rcases h b hb with rfl | rfl <;> rw [chip1, e] <;> omega
theorem allIn_add : ∀ {a b : List Int}, AllIn 1 a → AllIn 1 b → AllIn 2 (addL a b)
  | [], b, _, _ => by intro x hx; simp [addL] at hx
  | x :: a, [], _, _ => by intro x hx; simp [addL] at hx
  | x :: a, y :: b, ha, hb => by
    intro z hz
    rw [addL, List.zipWith_cons_cons] at hz
    have h1 := ha x List.mem_cons_self
    have h2 := hb y List.mem_cons_self
    rcases List.mem_cons.1 hz with rfl | hz
    · omega
    · exact allIn_add (fun u hu => ha u (List.mem_cons_of_mem _ hu)) (fun u hu => hb u (List.mem_cons_of_mem _ hu)) z hz
theorem allIn_more {a b : Int} {xs : List Int} (h : AllIn a xs) (hab : a ≤ b) : AllIn b xs := fun x hx => by have := h x hx; omega
theorem desp_val {xs : List Int} {k n : Nat} (hk : k < 8) (hl : xs.length = 8 * n) (hn : n ≤ 32) (ha : AllIn 8000 xs) : despread xs (k : Int) = despL xs k n := by
  rw [despread, if_pos ⟨by omega, by omega, by omega, withinB_iff.2 ⟨by omega, ha⟩⟩, Int.toNat_natCast, hl, Nat.mul_div_cancel_left _ (by omega : 0 < 8)]
end Go.Proofs.Ytgkkanamnhochaa
