/-
  GoBack and SelectRepeat, the program's, walked.
-/
import Derived.Test.YtnnapbjaidbkgaaRepIn
import Derived.Test.YtnnapbjaidbkgaaRepAny
namespace Go.Proofs.Ytnnapbjaidbkgaa
open Go.RowKit
set_option linter.unusedVariables false

/-- The call returned a slice of its own and a bool; nothing that was there has turned. -/
def RetIB (w : World) (e : Ending) (w' : World) (V : List Int × Bool) : Prop :=
  ∃ A n c, e = .returned (.tuple #[.slice A n c, .bool V.2]) ∧ OwnI w' 3 w.heap.size w'.heap.size A n c V.1 ∧ Below w.heap.size w w'
def ValidGo (n win : Int) : Prop := 0 ≤ n ∧ n ≤ 30 ∧ 1 ≤ win ∧ win ≤ 8
theorem goBack_no {n win : Int} (lost : List Bool) (h : ¬ ValidGo n win) : goBack n win lost = ([], false) := by unfold goBack; exact if_neg h
theorem selRep_no {n win : Int} (lost : List Bool) (h : ¬ ValidGo n win) : selRep n win lost = ([], false) := by unfold selRep; exact if_neg h
theorem goBack_yes {n win : Nat} (lost : List Bool) (h : ValidGo n win) : goBack n win lost = goOut (gO accIn stepIn lost n win 301 0 0 []) := by unfold goBack; exact (if_pos h).trans (by rw [gO_in]; rfl)
theorem selRep_yes {n win : Nat} (lost : List Bool) (h : ValidGo n win) : selRep n win lost = goOut (gO accAny stepAny lost n win 301 0 (fun _ => false) []) := by unfold selRep; exact (if_pos h).trans (by rw [gO_any]; rfl)
theorem repeat_no (v : Value) (n win : Int) (A : Option Addr) (l c : Nat) (w : World) (h : ¬ ValidGo n win) :
    Calls Try.prog 34 #[v, .int .i64 n, .int .i64 win, .slice A l c] w fun e w' => e = .returned (.tuple #[.slice none 0 0, .bool false]) ∧ w = w' := by
  by_cases h0 : 0 ≤ n
  · by_cases h1 : n ≤ 30
    · by_cases h2 : 1 ≤ win
      · have h3 : 8 < win := by
          rcases Int.lt_or_le 8 win with h3 | h3
          · exact h3
          · exact absurd ⟨h0, h1, h2, h3⟩ h
        clear h
        go_enter Try.func34, Try.ntmps34
        go_wp2
        go_ret2
        exact ⟨rfl, rfl⟩
      · clear h
        go_enter Try.func34, Try.ntmps34
        go_wp2
        go_ret2
        exact ⟨rfl, rfl⟩
    · clear h
      go_enter Try.func34, Try.ntmps34
      go_wp2
      go_ret2
      exact ⟨rfl, rfl⟩
  · clear h
    go_enter Try.func34, Try.ntmps34
    go_wp2
    go_ret2
    exact ⟨rfl, rfl⟩
theorem goBack_impl (n win : Int) (A : Option Addr) (l c B : Nat) (lost : List Bool) (w : World) (h : RT w B A l lost) (hB : B ≤ w.heap.size) (hl : l ≤ 1000000000) :
    Calls Try.prog 22 #[.int .i64 n, .int .i64 win, .slice A l c] w fun e w' => RetIB w e w' (goBack n win lost) := by
  by_cases hv : ValidGo n win
  · obtain ⟨N, rfl⟩ := Int.eq_ofNat_of_zero_le hv.1
    obtain ⟨W, rfl⟩ := Int.eq_ofNat_of_zero_le (show 0 ≤ win by have := hv.2.2.1; omega)
    have HV := hid (goBack_yes lost hv)
    have hcon := repeatIn N W l c w.heap.size w.heap.size A lost (w.alloc (.cells #[.int .i64 0] 52)) (RV.alloc (RV.more h hB) (Nat.le_refl _) _) (Blk.new _ _ _) (Nat.le_refl _) (by have := hv.2.1; omega) (by have := hv.2.2.1; omega) (by have := hv.2.2.2; omega) hl
    have HC := hid hcon
    clear hcon hv
    go_enter Try.func22, Try.ntmps22
    go_wp2_with fail
    refine HC.out.mono ?_
    rintro e w1 ⟨A1, n1, c1, rfl, ho, hon⟩
    have HO := hid (And.intro ho hon)
    clear ho hon
    go_wp2
    go_ret2
    rw [HV.out]
    exact ⟨_, _, _, rfl, HO.out.1.more (by simp) (Nat.le_refl _), ((Below.refl _ _).alloc (Nat.le_refl _) _).trans (HO.out.2.below (Nat.le_refl _) (by simp))⟩
  · have HV := hid (goBack_no lost hv)
    have HC := hid (fun v w => repeat_no v n win A l c w hv)
    clear hv
    go_enter Try.func22, Try.ntmps22
    go_wp2_with fail
    refine (HC.out _ _).mono ?_
    rintro e w1 ⟨rfl, rfl⟩
    go_wp2
    go_ret2
    rw [HV.out]
    exact ⟨none, 0, 0, rfl, ⟨rfl, Nat.le_refl _, by simp, .inl ⟨rfl, rfl, rfl⟩⟩, (Below.refl _ _).alloc (Nat.le_refl _) _⟩
theorem any_new (w : World) : AnO (w.alloc (.cells #[.bool false, .bool false, .bool false, .bool false, .bool false, .bool false, .bool false, .bool false, .bool false, .bool false, .bool false, .bool false, .bool false, .bool false, .bool false, .bool false, .bool false, .bool false, .bool false, .bool false, .bool false, .bool false, .bool false, .bool false, .bool false, .bool false, .bool false, .bool false, .bool false, .bool false] 57)) w.heap.size (fun _ => false) := by
  unfold AnO
  exact Blk.new w _ _
theorem selRep_impl (n win : Int) (A : Option Addr) (l c B : Nat) (lost : List Bool) (w : World) (h : RT w B A l lost) (hB : B ≤ w.heap.size) (hl : l ≤ 1000000000) :
    Calls Try.prog 25 #[.int .i64 n, .int .i64 win, .slice A l c] w fun e w' => RetIB w e w' (selRep n win lost) := by
  by_cases hv : ValidGo n win
  · obtain ⟨N, rfl⟩ := Int.eq_ofNat_of_zero_le hv.1
    obtain ⟨W, rfl⟩ := Int.eq_ofNat_of_zero_le (show 0 ≤ win by have := hv.2.2.1; omega)
    have HV := hid (selRep_yes lost hv)
    have hcon := repeatAny N W l c w.heap.size w.heap.size A lost _ (RV.alloc (RV.more h hB) (Nat.le_refl _) _) (any_new w) (Nat.le_refl _) (by have := hv.2.1; omega) (by have := hv.2.2.1; omega) (by have := hv.2.2.2; omega) hl
    have HC := hid hcon
    clear hcon hv
    go_enter Try.func25, Try.ntmps25
    go_wp2_with fail
    refine HC.out.mono ?_
    rintro e w1 ⟨A1, n1, c1, rfl, ho, hon⟩
    have HO := hid (And.intro ho hon)
    clear ho hon
    go_wp2
    go_ret2
    rw [HV.out]
    exact ⟨_, _, _, rfl, HO.out.1.more (by simp) (Nat.le_refl _), ((Below.refl _ _).alloc (Nat.le_refl _) _).trans (HO.out.2.below (Nat.le_refl _) (by simp))⟩
  · have HV := hid (selRep_no lost hv)
    have HC := hid (fun v w => repeat_no v n win A l c w hv)
    clear hv
    go_enter Try.func25, Try.ntmps25
    go_wp2_with fail
    refine (HC.out _ _).mono ?_
    rintro e w1 ⟨rfl, rfl⟩
    go_wp2
    go_ret2
    rw [HV.out]
    exact ⟨none, 0, 0, rfl, ⟨rfl, Nat.le_refl _, by simp, .inl ⟨rfl, rfl, rfl⟩⟩, (Below.refl _ _).alloc (Nat.le_refl _) _⟩
end Go.Proofs.Ytnnapbjaidbkgaa
