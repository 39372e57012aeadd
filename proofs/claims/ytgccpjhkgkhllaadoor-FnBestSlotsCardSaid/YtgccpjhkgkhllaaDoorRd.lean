/-
  The reader that the drawn inputs come from: its state, and 'pick', walked: a number in 0..n-1.
-/
import Derived.Test.YtgccpjhkgkhllaaDoorProg
import Derived.Test.YtgccpjhkgkhllaaDoorBase
import Derived.Deep.QuietTactic
import Derived.BigQuiet
import Derived.Outline
namespace Go.Proofs.YtgccpjhkgkhllaaDoor
open Go.RowKit
set_option linter.unusedVariables false

theorem ofInt_i64 (a : Nat) (ha : a < 9223372036854775808) : (BitVec.ofInt 64 (a : Int)).toNat = a := by
  rw [BitVec.ofInt_natCast, BitVec.toNat_ofNat]; exact Nat.mod_eq_of_lt (by omega)
theorem i64_xor_nat (a b : Nat) (ha : a < 9223372036854775808) (hb : b < 9223372036854775808) : bits .xor .i64 (a : Int) (b : Int) = ((a ^^^ b : Nat) : Int) := by
  have hx : a ^^^ b < 2 ^ 63 := Nat.xor_lt_two_pow (by omega) (by omega)
  show IntKind.i64.wrap ((BitVec.ofInt 64 (a : Int) ^^^ BitVec.ofInt 64 (b : Int)).toNat : Int) = _
  rw [BitVec.toNat_xor, ofInt_i64 a ha, ofInt_i64 b hb, IntKind.wrap_i64]
  omega
theorem i64_xor_bd {x y : Int} (hx0 : 0 ≤ x) (hx : x ≤ 1000000000000) (hy0 : 0 ≤ y) (hy : y ≤ 1000000000000) : 0 ≤ bits .xor .i64 x y ∧ bits .xor .i64 x y ≤ 4000000000000 := by
  obtain ⟨a, rfl⟩ := Int.eq_ofNat_of_zero_le hx0
  obtain ⟨b, rfl⟩ := Int.eq_ofNat_of_zero_le hy0
  rw [i64_xor_nat a b (by omega) (by omega)]
  have : a ^^^ b < 2 ^ 40 := Nat.xor_lt_two_pow (by omega) (by omega)
  omega

/-- A reader in block g that has picked p times: its bytes lie below it. -/
def Rd (w : World) (g p : Nat) : Prop := ∃ (A : Option Addr) (n c : Nat) (bs : List Int),
  Blk w g 58 #[.slice A n c, .int .i64 (p : Int)] ∧ RB w g A n bs ∧ n ≤ 2000 ∧ ∀ x ∈ bs, 0 ≤ x ∧ x ≤ 255
theorem Rd.lt {w : World} {g p : Nat} (h : Rd w g p) : g < w.heap.size := by obtain ⟨_, _, _, _, hb, _⟩ := h; exact hb.lt
theorem Rd.below {w w' : World} {g p B : Nat} (h : Rd w g p) (hb : Below B w w') (hB : g < B) : Rd w' g p := by
  obtain ⟨A, n, c, bs, h1, h2, h3, h4⟩ := h
  exact ⟨A, n, c, bs, h1.below hb hB, RV.below h2 (hb.mono (by omega)), h3, h4⟩
theorem Rd.alloc {w : World} {g p : Nat} (h : Rd w g p) (o : Obj) : Rd (w.alloc o) g p := h.below ((Below.refl _ _).alloc (Nat.le_refl _) o) h.lt
theorem Rd.drewN {w : World} {g p : Nat} (h : Rd w g p) (m : Nat) : Rd (w.drewN m) g p := h
theorem Rd.drew {w : World} {g p : Nat} (h : Rd w g p) : Rd w.drew g p := h

/-- The call returned a number in 0..n-1 (0 if n < 1), and the reader has picked once more. -/
def Picked (n : Int) (g p : Nat) (w : World) (e : Ending) (w' : World) : Prop :=
  ∃ k : Int, e = .returned (.int .i64 k) ∧ (1 ≤ n → 0 ≤ k ∧ k < n) ∧ (n < 1 → k = 0) ∧ Rd w' g (p + 1) ∧ Only g (g + 1) w w' ∧ w'.heap.size = w.heap.size

set_option maxHeartbeats 1600000 in
theorem pick_any (g p : Nat) (n : Int) (w : World) (h : Rd w g p) (hp : p ≤ 100000000) :
    Calls Tryd.prog 44 #[.pointer (some ⟨g, 0, none⟩), .int .i64 n] w fun e w' => Picked n g p w e w' := by
  obtain ⟨A, l, c, bs, hblk, hbs, hl, hby⟩ := h
  have c0 : w.cell? ⟨g, 0, none⟩ = some (.slice A l c) := by rw [hblk.cell]; rfl
  have c1 : w.cell? ⟨g, 1, none⟩ = some (.int .i64 (p : Int)) := by rw [hblk.cell]; rfl
  have f1 : w.frozen? ⟨g, 1, none⟩ = false := hblk.frozen 1
  have hlt := hblk.lt
  have hR : Rd (w.setCell ⟨g, 1, none⟩ (.int .i64 (((p + 1 : Nat)) : Int))) g (p + 1) :=
    ⟨A, l, c, bs, by have := hblk.set_ 1 (.int .i64 (((p + 1 : Nat)) : Int)); simpa using this, RV.setCell hbs (Nat.le_refl _) _, hl, hby⟩
  have hO : Only g (g + 1) w (w.setCell ⟨g, 1, none⟩ (.int .i64 (((p + 1 : Nat)) : Int))) := Only.setCell (p := ⟨g, 1, none⟩) (Only.refl _ _ _) (Nat.le_refl _) (Nat.lt_succ_self _) _
  have hS : (w.setCell ⟨g, 1, none⟩ (.int .i64 (((p + 1 : Nat)) : Int))).heap.size = w.heap.size := by simp [World.setCell]
  have ep : (((p + 1 : Nat)) : Int) = (p : Int) + 1 := by omega
  rw [ep] at hR hO hS
  have HF := hid (And.intro hR (And.intro hO hS))
  have HB := hid hby
  have HS := hid hbs
  clear hR hO hS ep hblk hby hbs
  by_cases hn : n < 1
  · go_enter Tryd.func44, Tryd.ntmps44
    go_wp2
    go_ret
    exact ⟨0, rfl, fun h => absurd h (by omega), fun _ => rfl, HF.out.1, HF.out.2.1, HF.out.2.2⟩
  · rcases Nat.eq_zero_or_pos l with rfl | hl0
    · go_enter Tryd.func44, Tryd.ntmps44
      go_wp2
      go_ret
      exact ⟨0, rfl, fun h => ⟨by omega, by omega⟩, fun _ => rfl, HF.out.1, HF.out.2.1, HF.out.2.2⟩
    · have hne : ((l : Int) == 0) = false := by simp; omega
      have hl1 : ¬ l = 0 := by omega
      by_cases hk : p < l
      · obtain ⟨b, o, x, rfl, hb, hx, hc⟩ := RB.at_ HS.out hk
        obtain ⟨x0, x1⟩ := HB.out x (List.mem_of_getElem? hx)
        clear hx
        have hbg : b ≠ g := by omega
        have hm0 := Int.emod_nonneg x (show n ≠ 0 by omega)
        have hm1 := Int.emod_lt_of_pos x (show 0 < n by omega)
        go_enter Tryd.func44, Tryd.ntmps44
        go_wp2
        go_ret
        exact ⟨_, rfl, fun h => ⟨hm0, hm1⟩, fun h => absurd h (by omega), HF.out.1, HF.out.2.1, HF.out.2.2⟩
      · obtain ⟨u1, hu1⟩ : ∃ u, u = p % l := ⟨_, rfl⟩
        obtain ⟨u2, hu2⟩ : ∃ u, u = (p * 7 + 3) % l := ⟨_, rfl⟩
        have hm1 : u1 < l := by rw [hu1]; exact Nat.mod_lt _ hl0
        have hm2 : u2 < l := by rw [hu2]; exact Nat.mod_lt _ hl0
        have HS' := HS.out
        obtain ⟨b, o, x, rfl, hb, hx, hc⟩ := RB.at_ HS' hm1
        obtain ⟨b', o', y, hbo, hb', hy, hc'⟩ := RB.at_ HS' hm2
        injection hbo with hbo
        injection hbo with hb1 hb2
        subst hb1 hb2
        obtain ⟨x0, x1⟩ := HB.out x (List.mem_of_getElem? hx)
        obtain ⟨y0, y1⟩ := HB.out y (List.mem_of_getElem? hy)
        clear hx hy HS'
        have hbg : b ≠ g := by omega
        have e1 : (p : Int) % (l : Int) = (u1 : Int) := by rw [hu1]; rfl
        have e1' : (p : Int).tmod (l : Int) = (u1 : Int) := by rw [Int.tmod_eq_emod_of_nonneg (by omega), e1]
        have e2 : IntKind.i64.wrap ((p : Int) * 7) = (p : Int) * 7 := IntWalk.i64_in _ (by omega)
        have e3 : IntKind.i64.wrap ((p : Int) * 7 + 3) = (p : Int) * 7 + 3 := IntWalk.i64_in _ (by omega)
        have e4 : ((p : Int) * 7 + 3) % (l : Int) = (u2 : Int) := by rw [show (p : Int) * 7 + 3 = ((p * 7 + 3 : Nat) : Int) by omega, hu2]; rfl
        have e4' : ((p : Int) * 7 + 3).tmod (l : Int) = (u2 : Int) := by rw [Int.tmod_eq_emod_of_nonneg (by omega), e4]
        clear hu1 hu2
        have hd : p / l ≤ p := Nat.div_le_self _ _
        have r1 : IntKind.i64.wrap (x * 131) = x * 131 := IntWalk.i64_in _ (by omega)
        have r2 : IntKind.i64.wrap (y * 1117) = y * 1117 := IntWalk.i64_in _ (by omega)
        have r3 : IntKind.i64.wrap (x * 131 + y * 1117) = x * 131 + y * 1117 := IntWalk.i64_in _ (by omega)
        have r4 : IntKind.i64.wrap ((p : Int) * 29) = (p : Int) * 29 := IntWalk.i64_in _ (by omega)
        have r5 : IntKind.i64.wrap (x * 131 + y * 1117 + (p : Int) * 29) = x * 131 + y * 1117 + (p : Int) * 29 := IntWalk.i64_in _ (by omega)
        obtain ⟨q, hq⟩ : ∃ q, q = p / l := ⟨_, rfl⟩
        have r6 : IntKind.i64.wrap ((p : Int).tdiv (l : Int)) = (q : Int) := by
          rw [Int.tdiv_eq_ediv_of_nonneg (by omega), show (p : Int) / (l : Int) = (q : Int) by rw [hq]; rfl]; exact IntWalk.i64_in _ (by omega)
        have r6' : (p : Int) / (l : Int) = (q : Int) := by rw [hq]; rfl
        have r6'' : IntKind.i64.wrap (q : Int) = (q : Int) := IntWalk.i64_in _ (by rw [← hq] at hd; omega)
        rw [← hq] at hd
        clear hq
        have r7 : IntKind.i64.wrap ((q : Int) * 53) = (q : Int) * 53 := IntWalk.i64_in _ (by omega)
        have r8 : IntKind.i64.wrap (x * 131 + y * 1117 + (p : Int) * 29 + (q : Int) * 53) = x * 131 + y * 1117 + (p : Int) * 29 + (q : Int) * 53 := IntWalk.i64_in _ (by omega)
        have hX : 0 ≤ (bits .xor .i64 (x * 131 + y * 1117 + (p : Int) * 29 + (q : Int) * 53) ((x * 131 + y * 1117 + (p : Int) * 29 + (q : Int) * 53) / 64)).tmod n ∧
            (bits .xor .i64 (x * 131 + y * 1117 + (p : Int) * 29 + (q : Int) * 53) ((x * 131 + y * 1117 + (p : Int) * 29 + (q : Int) * 53) / 64)).tmod n < n := by
          have hb := i64_xor_bd (x := x * 131 + y * 1117 + (p : Int) * 29 + (q : Int) * 53) (y := (x * 131 + y * 1117 + (p : Int) * 29 + (q : Int) * 53) / 64) (by omega) (by omega) (by omega) (by omega)
          rw [Int.tmod_eq_emod_of_nonneg hb.1]
          exact ⟨Int.emod_nonneg _ (by omega), Int.emod_lt_of_pos _ (by omega)⟩
        have HX := hid hX
        clear hX
        go_enter Tryd.func44, Tryd.ntmps44
        go_wp2
        go_quiet (fail)
        go_wp2
        go_ret
        exact ⟨_, rfl, fun _ => HX.out, fun h => absurd h (by omega), HF.out.1.drewN _, HF.out.2.1.drewN _, HF.out.2.2⟩
end Go.Proofs.YtgccpjhkgkhllaaDoor
