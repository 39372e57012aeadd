/-
  FnAddChips, walked: the sum is commutative; adding zeros changes nothing.
-/
import Derived.Test.YtgkkanamnhochaaDSpr2
import Derived.Test.YtgkkanamnhochaaAlive
import Derived.Test.YtgkkanamnhochaaSprLaw
import Derived.Test.YtgkkanamnhochaaAdd
namespace Go.Proofs.Ytgkkanamnhochaa
open Go.RowKit
set_option linter.unusedVariables false

theorem addChips_comm (a b : List Int) : addChips a b = addChips b a := by
  unfold addChips
  by_cases h : a.length = b.length ∧ withinB 256 1000 a = true ∧ withinB 256 1000 b = true
  · rw [if_pos h, if_pos ⟨h.1.symm, h.2.2, h.2.1⟩, addL_comm]
  · rw [if_neg h, if_neg (fun h' => h ⟨h'.1.symm, h'.2.2, h'.2.1⟩)]
theorem addL_zero : ∀ a : List Int, addL a (List.replicate a.length 0) = a := by
  intro a
  induction a with
  | nil => rfl
  | cons x a ih =>
    rw [List.length_cons, List.replicate_succ]
    show (x + 0) :: addL a (List.replicate a.length 0) = _
    rw [ih, Int.add_zero]
theorem addChips_zero {a b : List Int} (h : addChips a b ≠ []) : addChips a (List.replicate a.length 0) = a ∧ (addChips a b).length = a.length := by
  unfold addChips at h ⊢
  split at h
  · rename_i hh
    rw [if_pos hh, addL_len hh.1]
    refine ⟨?_, rfl⟩
    rw [if_pos, addL_zero]
    refine ⟨by simp, hh.2.1, withinB_iff.2 ⟨by have := (withinB_iff.1 hh.2.1).1; simpa using this, fun x hx => ?_⟩⟩
    rw [List.mem_replicate] at hx
    omega
  · exact absurd rfl h

set_option maxHeartbeats 1600000 in
theorem fnAddChips_walk {A : Option Addr} {n c : Nat} {bs : List Int} (w : World) (h : RV w w.heap.size A n (bs.map (Value.int .u8))) (wf : ∀ x ∈ bs, (Lit.int .u8 x).wf = true) (hl : n ≤ c) (hm : c ≤ maxLen) :
    Calls Try.prog 7 #[.slice A n c] w fun e w' => e = .returned (.bool true) ∧ Below w.heap.size w w' := by
  unfold maxLen at hm
  by_cases hn : n ≤ 1048576
  · have hd := drawAddChips_any A n c w.heap.size bs w h (Nat.le_refl _) hl hn (fun x hx => bounds_u8 (wf x hx))
    clear wf h
    have hbel : Below w.heap.size w w := Below.refl _ _
    go_enter Try.func7, Try.ntmps7
    go_wp2_with fail
    refine (hd).mono ?_
    rintro e w1 ⟨A1, n1, c1, A2, n2, c2, xs, ys, rfl, hr1, hr2, hz1, hz2, hb⟩
    have nX := hr1
    have nY := hr2
    have hbel_ := Below.next hbel hb; clear hbel; have hbel := hbel_; clear hbel_
    clear hb
    have rX := nX; clear nX
    have rY := nY; clear nY
    clear hd hr1 hr2
    have LX := hid (RI.len rX)
    obtain ⟨V, HV⟩ : ∃ V, Hid (V = addChips xs ys) := ⟨_, hid rfl⟩
    have hVl : V.length ≤ 256 := by rw [HV.out]; exact addChips_len _ _
    go_wp2_with fail
    refine (addChips_impl _ _ _ _ _ _ _ _ _ _ rX rY (Nat.le_refl _) (by omega) (by omega)).mono ?_
    rintro e w2 ⟨A3, n3, c3, rfl, ho, hb⟩
    have nC := OwnI.ri (by rw [← HV.out] at ho; exact ho)
    have hbel_ := Below.next hbel hb; clear hbel; have hbel := hbel_; clear hbel_
    have rX_ := RV.next rX hb; clear rX; have rX := rX_; clear rX_
    have rY_ := RV.next rY hb; clear rY; have rY := rY_; clear rY_
    clear hb
    have rC := nC; clear nC
    clear ho
    have LC := hid (RI.len rC)
    go_wp2_with fail
    refine (addChips_spec _ _ _ _ _ _ _ _ _ _ rX rY (Nat.le_refl _) (by omega) (by omega)).mono ?_
    rintro e w3 ⟨A4, n4, c4, rfl, ho, hb⟩
    have nD := OwnI.ri (by rw [← HV.out] at ho; exact ho)
    have hbel_ := Below.next hbel hb; clear hbel; have hbel := hbel_; clear hbel_
    have rX_ := RV.next rX hb; clear rX; have rX := rX_; clear rX_
    have rY_ := RV.next rY hb; clear rY; have rY := rY_; clear rY_
    have rC_ := RV.next rC hb; clear rC; have rC := rC_; clear rC_
    clear hb
    have rD := nD; clear nD
    clear ho
    go_wp2_with fail
    refine (sameInts_same _ _ _ _ _ _ _ _ _ _ rC rD (by omega)).mono ?_
    rintro e w4 ⟨rfl, hb⟩
    have hbel_ := Below.next hbel hb; clear hbel; have hbel := hbel_; clear hbel_
    have rX_ := RV.next rX hb; clear rX; have rX := rX_; clear rX_
    have rY_ := RV.next rY hb; clear rY; have rY := rY_; clear rY_
    have rC_ := RV.next rC hb; clear rC; have rC := rC_; clear rC_
    have rD_ := RV.next rD hb; clear rD; have rD := rD_; clear rD_
    clear hb
    clear rD
    go_wp2_with fail
    refine (addChips_impl _ _ _ _ _ _ _ _ _ _ rY rX (Nat.le_refl _) (by omega) (by omega)).mono ?_
    rintro e w5 ⟨A5, n5, c5, rfl, ho, hb⟩
    have nE := OwnI.ri (by rw [addChips_comm, ← HV.out] at ho; exact ho)
    have hbel_ := Below.next hbel hb; clear hbel; have hbel := hbel_; clear hbel_
    have rX_ := RV.next rX hb; clear rX; have rX := rX_; clear rX_
    have rY_ := RV.next rY hb; clear rY; have rY := rY_; clear rY_
    have rC_ := RV.next rC hb; clear rC; have rC := rC_; clear rC_
    clear hb
    have rE := nE; clear nE
    clear ho
    go_wp2_with fail
    refine (sameInts_same _ _ _ _ _ _ _ _ _ _ rC rE (by omega)).mono ?_
    rintro e w6 ⟨rfl, hb⟩
    have hbel_ := Below.next hbel hb; clear hbel; have hbel := hbel_; clear hbel_
    have rX_ := RV.next rX hb; clear rX; have rX := rX_; clear rX_
    have rY_ := RV.next rY hb; clear rY; have rY := rY_; clear rY_
    have rC_ := RV.next rC hb; clear rC; have rC := rC_; clear rC_
    have rE_ := RV.next rE hb; clear rE; have rE := rE_; clear rE_
    clear hb
    clear rE rY
    rcases Nat.eq_zero_or_pos n3 with hz | hpos
    · subst hz
      go_wp2_with fail
      refine (alive_any _).mono ?_
      rintro e w7 ⟨rfl, hb⟩
      have hbel_ := Below.next hbel hb; clear hbel; have hbel := hbel_; clear hbel_
      have rX_ := RV.next rX hb; clear rX; have rX := rX_; clear rX_
      have rC_ := RV.next rC hb; clear rC; have rC := rC_; clear rC_
      clear hb
      go_wp2
      go_ret
      exact ⟨rfl, hbel⟩
    · have hb0 : ((n3 : Int) == 0) = false := by simp; omega
      have hne : addChips xs ys ≠ [] := fun e => by have h1 := LC.out; have h2 := HV.out; rw [e] at h2; subst h2; simp at h1; omega
      obtain ⟨z1, z2⟩ := addChips_zero hne
      have hn31 : n3 = n1 := by rw [← LC.out, ← LX.out, HV.out]; exact z2
      subst hn31
      have HZ := hid z1
      clear z1 z2 hne
      have hmk : ∀ w, (Instr.makeSlice 22 (.int .i64 (n3 : Int)) (.int .i64 (n3 : Int))).run Try.prog w = .ok (.slice (some ⟨w.heap.size, 0, none⟩) n3 n3) (w.alloc (.cells (madeCells #[.int .i64 0] n3) 3)) := run_make_row' (P := Try.prog) 22 3 (.int .i64 0) 8 Try.underlying22 infoI rfl .i64 .i64 n3 (by omega) (by omega)
      have hba : Below w6.heap.size w6 (w6.alloc (.cells (madeCells #[.int .i64 0] n3) 3)) := (Below.refl _ _).alloc (Nat.le_refl _) _
      have rZ : RI (w6.alloc (.cells (madeCells #[.int .i64 0] n3) 3)) (w6.alloc (.cells (madeCells #[.int .i64 0] n3) 3)).heap.size (some ⟨w6.heap.size, 0, none⟩) n3 (List.replicate n3 0) := OwnI.ri (ownV_blk (blk_made _ _ n3 (0 : Int) rfl) (Nat.zero_le _) (by simp) (by simp) (by unfold maxLen; omega))
      have hbel_ := Below.next hbel hba; clear hbel; have hbel := hbel_; clear hbel_
      have rX_ := RV.next rX hba; clear rX; have rX := rX_; clear rX_
      have rC_ := RV.next rC hba; clear rC; have rC := rC_; clear rC_
      clear hba
      go_wp2_with fail
      refine (addChips_impl _ _ _ _ _ _ _ _ _ _ rX rZ (Nat.le_refl _) (by omega) (by omega)).mono ?_
      rintro e w7 ⟨A6, n6, c6, rfl, ho, hb⟩
      have nF := OwnI.ri (by have h1 := HZ.out; rw [LX.out] at h1; rw [h1] at ho; exact ho)
      have hbel_ := Below.next hbel hb; clear hbel; have hbel := hbel_; clear hbel_
      have rX_ := RV.next rX hb; clear rX; have rX := rX_; clear rX_
      have rC_ := RV.next rC hb; clear rC; have rC := rC_; clear rC_
      have rZ_ := RV.next rZ hb; clear rZ; have rZ := rZ_; clear rZ_
      clear hb
      have rF := nF; clear nF
      clear ho
      go_wp2_with fail
      refine (sameInts_same _ _ _ _ _ _ _ _ _ _ rF rX (by have := LX.out; omega)).mono ?_
      rintro e w8 ⟨rfl, hb⟩
      have hbel_ := Below.next hbel hb; clear hbel; have hbel := hbel_; clear hbel_
      have rX_ := RV.next rX hb; clear rX; have rX := rX_; clear rX_
      have rC_ := RV.next rC hb; clear rC; have rC := rC_; clear rC_
      have rZ_ := RV.next rZ hb; clear rZ; have rZ := rZ_; clear rZ_
      have rF_ := RV.next rF hb; clear rF; have rF := rF_; clear rF_
      clear hb
      go_wp2
      go_ret
      exact ⟨rfl, hbel⟩
  · go_enter Try.func7, Try.ntmps7
    go_wp2
    go_ret
    exact ⟨rfl, Below.refl _ _⟩
end Go.Proofs.Ytgkkanamnhochaa
