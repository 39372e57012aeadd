/-
  A sender's failed attempt, walked.
-/
import Derived.Test.YtnebmfdjcikegaaHm
import Derived.Test.YtnebmfdjcikegaaAcc1
import Derived.StillTailTactics
namespace Go.Proofs.Ytnebmfdjcikegaa
open Go.RowKit
set_option linter.unusedVariables false

/-- The number of slots until the next attempt. -/
def waitS (s : Snd) : Int := backoff (nextSeed s.seed) (min (s.fails + 1) 100)
def failS (s : Snd) : Snd := ⟨s.slot + (1 + waitS s), s.number, nextSeed s.seed, s.fails + 1⟩
theorem nextSeed_in {x : Int} (h0 : 0 ≤ x) (h1 : x ≤ 2047) : 0 ≤ nextSeed x ∧ nextSeed x ≤ 2047 := by
  rw [nextSeed, if_pos ⟨h0, h1⟩]
  omega
theorem backoff_in {x a : Int} (h0 : 0 ≤ x) (h1 : x ≤ 2047) (ha : 1 ≤ a) (hb : a ≤ 100) : 0 ≤ backoff x a ∧ backoff x a ≤ 63 := by
  rw [backoff, if_pos ⟨h0, h1, ha, hb⟩]
  have hp : (0 : Int) < 2 ^ (min a 6).toNat := Int.pow_pos (by omega)
  refine ⟨Int.emod_nonneg _ (by omega), ?_⟩
  have h := Int.emod_lt_of_pos (x / 8) hp
  have h6 : (min a 6).toNat ≤ 6 := by omega
  have h64 : (2 : Int) ^ (min a 6).toNat ≤ 2 ^ 6 := by
    have := Nat.pow_le_pow_right (show 0 < 2 by omega) h6
    exact_mod_cast this
  have : (2 : Int) ^ 6 = 64 := by decide
  omega
/-- A sender in range. -/
def OkS (s : Snd) : Prop := 0 ≤ s.slot ∧ s.slot < 400 ∧ 0 ≤ s.seed ∧ s.seed ≤ 2047 ∧ 0 ≤ s.fails ∧ s.fails ≤ 400
set_option maxRecDepth 100000 in
set_option maxHeartbeats 3200000 in
theorem fail_q {sb : Nat} {s : Snd} {w : World} (h : Blk w sb 46 #[.int .i64 s.slot, .int .i64 s.number, .int .i64 s.seed, .int .i64 s.fails]) (ok : OkS s) :
    Calls Try.prog 34 #[.pointer (some ⟨sb, 0, none⟩)] w fun e w' => e = .returned (.tuple #[]) ∧ Blk w' sb 46 #[.int .i64 (failS s).slot, .int .i64 (failS s).number, .int .i64 (failS s).seed, .int .i64 (failS s).fails] ∧ Only sb (sb + 1) w w' := by
  obtain ⟨x0, x1, x2, x3⟩ := s
  obtain ⟨k0, k1, k2, k3, k4, k5⟩ := ok
  simp only at k0 k1 k2 k3 k4 k5 h
  have H := hid h
  have c0 : w.cell? ⟨sb, 0, none⟩ = some (.int .i64 x0) := by rw [h.cell]; rfl
  have c2 : w.cell? ⟨sb, 2, none⟩ = some (.int .i64 x2) := by rw [h.cell]; rfl
  have c3 : w.cell? ⟨sb, 3, none⟩ = some (.int .i64 x3) := by rw [h.cell]; rfl
  have f0 := h.frozen 0
  have f2 := h.frozen 2
  have f3 := h.frozen 3
  obtain ⟨Y, hY⟩ : ∃ Y, nextSeed x2 = Y := ⟨_, rfl⟩
  have HNS := hid (nextSeed_impl x2)
  have hy := nextSeed_in k2 k3
  rw [hY] at HNS hy
  obtain ⟨y0, y1⟩ := hy
  have HY := hid hY
  obtain ⟨M, hM⟩ : ∃ M, min (x3 + 1) 100 = M := ⟨_, rfl⟩
  have hM1 : 1 ≤ M := by omega
  have hM2 : M ≤ 100 := by omega
  have HB := hid (backoff_impl Y M)
  have hb := backoff_in y0 y1 hM1 hM2
  obtain ⟨B, hB⟩ : ∃ B, backoff Y M = B := ⟨_, rfl⟩
  rw [hB] at HB hb
  obtain ⟨b0, b1⟩ := hb
  have HBB := hid hB
  have HMM := hid hM
  clear h hY hB hM
  go_enter Try.func34, Try.ntmps34
  go_wp2_with fail
  refine (HNS.out _).mono ?_
  rintro e w_ ⟨rfl, rfl⟩
  go_wp2_with fail
  have HW := hid (H.out.set_ 3 (.int .i64 (x3 + 1)) |>.set_ 2 (.int .i64 Y))
  have OW := hid (((Only.refl sb (sb + 1) w).setCell (p := ⟨sb, 3, none⟩) (Nat.le_refl _) (Nat.lt_succ_self _) (.int .i64 (x3 + 1))).setCell (p := ⟨sb, 2, none⟩) (Nat.le_refl _) (Nat.lt_succ_self _) (.int .i64 Y))
  clear c0 c2 c3 f0 f2 f3 HNS
  generalize (w.setCell ⟨sb, 3, none⟩ (.int .i64 (x3 + 1))).setCell ⟨sb, 2, none⟩ (.int .i64 Y) = W at *
  have c0 : W.cell? ⟨sb, 0, none⟩ = some (.int .i64 x0) := by rw [HW.out.cell]; rfl
  have c2 : W.cell? ⟨sb, 2, none⟩ = some (.int .i64 Y) := by rw [HW.out.cell]; rfl
  have c3 : W.cell? ⟨sb, 3, none⟩ = some (.int .i64 (x3 + 1)) := by rw [HW.out.cell]; rfl
  have f0 := HW.out.frozen 0
  have HR := hid (show Blk ((W.drew).setCell ⟨sb, 0, none⟩ (.int .i64 (x0 + (1 + B)))) sb 46 #[.int .i64 (x0 + (1 + B)), .int .i64 x1, .int .i64 Y, .int .i64 (x3 + 1)] from HW.out.drew.set_ 0 _)
  have hmi : (if 100 < x3 + 1 then (100 : Int) else x3 + 1) = M := by
    have := HMM.out
    split <;> omega
  have hfin : (failS ⟨x0, x1, x2, x3⟩) = ⟨x0 + (1 + B), x1, Y, x3 + 1⟩ := by
    unfold failS waitS
    simp only [HY.out, HMM.out, HBB.out]
  have HFN := hid hfin
  clear hfin
  go_still_tail 16, (by kernel_rfl)
  still_call ((HB.out _).mono fun _ _ ⟨a, b⟩ => ⟨a, b.symm⟩)
  repeat still_step
  refine wpStill_nil ?_
  change wpList _ _ _ _ _ W.drew
  have c0' : W.drew.cell? ⟨sb, 0, none⟩ = some (.int .i64 x0) := c0
  have f0' : W.drew.frozen? ⟨sb, 0, none⟩ = false := f0
  have OW2 := hid ((OW.out.drew).setCell (p := ⟨sb, 0, none⟩) (Nat.le_refl _) (Nat.lt_succ_self _) (.int .i64 (x0 + (1 + B))))
  go_wp2
  go_end0
  rw [HFN.out]
  exact ⟨rfl, HR.out, OW2.out⟩
end Go.Proofs.Ytnebmfdjcikegaa
