/-
  THE HELPERS OF THE EXACT LAWS for slices of bools, walked: toBoolS copies; eqBoolS compares; markBoolS writes.
-/
import Derived.Test.YtgccpjhkgkhllaaDoorExactB
namespace Go.Proofs.YtgccpjhkgkhllaaDoor
open Go.RowKit
set_option linter.unusedVariables false

theorem infoBool : (Tryd.prog.info? 4).map (fun i => (i.zero, i.size, i.bytes)) = some (some (.bool false), 1, 1) := by kernel_rfl

theorem toBoolS_any (A : Option Addr) (n c B : Nat) (xs : List Bool) (w : World) (h : RT w B A n xs) (hB : B ≤ w.heap.size) (hn : n ≤ 1000000000) :
    Calls Tryd.prog 41 #[.slice A n c] w fun e w' => e = .returned (.slice (some ⟨w.heap.size, 0, none⟩) n n) ∧
      OwnT w' 4 w.heap.size (w.heap.size + 1) (some ⟨w.heap.size, 0, none⟩) n n xs ∧ Below w.heap.size w w' ∧ w'.heap.size = w.heap.size + 1 := by
  have hmk := run_make_row' (P := Tryd.prog) 26 4 (.bool false) 1 Tryd.underlying26 infoBool rfl .i64 .i64 n (by omega) (by omega)
  have HL := hid (RT.len h)
  go_enter Tryd.func41, Tryd.ntmps41
  go_wp2
  go_loopw [4] (fun i wr => ∃ (k : Nat) (ys : List Bool), k ≤ n ∧ i = .int .i64 k ∧ Hid (ys.length = n) ∧ Hid (ys.take k = xs.take k) ∧ Blk wr w.heap.size 4 (ys.map Value.bool).toArray ∧ Below w.heap.size w wr ∧ Hid (wr.heap.size = w.heap.size + 1))
    (fun i _ => n - (intOf i).toNat)
  case atStart => exact ⟨0, List.replicate n false, Nat.zero_le _, rfl, hid (by simp), hid (by simp), blk_made w _ n false rfl, (Below.refl _ _).alloc (Nat.le_refl _) _, hid (by simp)⟩
  case round =>
    obtain ⟨k, ys, hk, rfl, HY, HE, hblk, hbel, HS⟩ := hrel
    by_cases hlt : k < n
    · obtain ⟨b, o, x, rfl, hb, hx, hc⟩ := RT.at_ (RV.below h (hbel.mono hB)) hlt
      have HX := hid hx
      clear hx
      obtain ⟨y, hy, hcy⟩ := hblk.cellL (k := k) (by rw [HY.out]; omega)
      have hfr := hblk.frozen k
      clear hy
      go_wp2
      go_roundw
      case rel => exact ⟨k + 1, ys.set k x, by omega, by go_num, hid (by rw [List.length_set]; exact HY.out), hid (by rw [take_set_snoc _ _ _ (by rw [HY.out]; omega), take_snoc _ _ _ HX.out, HE.out]), hblk.setL k x, hbel.setCell (Nat.le_refl _) _, hid (by have := HS.out; simpa [World.setCell] using this)⟩
      case measure => simp [intOf]; omega
    · go_wp2
      go_ret
      have e : ys = xs := by
        have := HE.out
        rw [List.take_of_length_le (by rw [HY.out]; omega), List.take_of_length_le (by rw [HL.out]; omega)] at this
        exact this
      subst e
      exact ⟨rfl, ownV_blk hblk (Nat.le_refl _) (by omega) (by simpa using HL.out) (by unfold maxLen; omega), hbel, HS.out⟩

theorem eqBoolS_yes (A A' : Option Addr) (n n' c c' B B' : Nat) (xs : List Bool) (w : World) (h : RT w B A n xs) (h' : RT w B' A' n' xs) (hn : n ≤ 1000000000) :
    Calls Tryd.prog 42 #[.slice A n c, .slice A' n' c'] w fun e w' => e = .returned (.bool true) ∧ ∃ m, w' = w.drewN m := by
  have hnn : n' = n := by rw [← RT.len h, ← RT.len h']
  subst hnn
  have hne : ((n' : Int) != (n' : Int)) = false := by simp
  go_enter Tryd.func42, Tryd.ntmps42
  go_wp2
  go_loopw [5] (fun i wr => ∃ k m : Nat, k ≤ n' ∧ i = .int .i64 k ∧ wr = w.drewN m) (fun i _ => n' - (intOf i).toNat)
  case atStart => exact ⟨0, 0, Nat.zero_le _, rfl, rfl⟩
  case round =>
    obtain ⟨k, m, hk, rfl, rfl⟩ := hrel
    by_cases hlt : k < n'
    · obtain ⟨b, o, x, rfl, hb, hx, hc⟩ := RT.at_ h hlt
      obtain ⟨b', o', y, rfl, hb', hy, hc'⟩ := RT.at_ h' hlt
      rw [hx] at hy
      injection hy with hy
      subst hy
      clear hx
      cases x
      all_goals
        go_wp2
        go_quiet (fail)
        go_wp2
        go_roundw
        case rel => exact ⟨k + 1, _, by omega, by go_num, rfl⟩
        case measure => simp [intOf]; omega
    · go_wp2
      go_ret
      exact ⟨rfl, _, by first | rfl | exact World.drewN_drewN _ _ _⟩
theorem eqBoolS_same (A A' : Option Addr) (n n' c c' B B' : Nat) (xs : List Bool) (w : World) (h : RT w B A n xs) (h' : RT w B' A' n' xs) (hn : xs.length ≤ 1000000000) :
    Calls Tryd.prog 42 #[.slice A n c, .slice A' n' c'] w fun e w' => e = .returned (.bool true) ∧ Below w.heap.size w w' :=
  (eqBoolS_yes A A' n n' c c' B B' xs w h h' (by have := RT.len h; omega)).mono fun _ _ ⟨he, hw⟩ => ⟨he, (Same.of_drewN hw).bel _⟩

def marksT (k : Int) (n : Nat) : List Bool := (List.range n).map fun i : Nat => (k + (i : Int)) % 3 == 0
theorem marksT_len (k : Int) (n : Nat) : (marksT k n).length = n := by simp [marksT]
theorem marksT_get (k : Int) (n j : Nat) (h : j < n) : (marksT k n)[j]? = some ((k + (j : Int)) % 3 == 0) := by simp [marksT, h]
theorem markBoolS_any (A : Option Addr) (n c lo hi : Nat) (xs : List Bool) (k : Int) (w : World) (h : OwnT w 4 lo hi A n c xs) (hn : n ≤ 1000000000) (hk0 : 0 ≤ k) (hk1 : k ≤ 1000000000000) :
    Calls Tryd.prog 43 #[.slice A n c, .int .i64 k] w fun e w' => e = .returned (.int .i64 (k + n)) ∧
      OwnT w' 4 lo hi A n c (marksT k n) ∧ Only lo hi w w' ∧ w'.heap.size = w.heap.size := by
  have HL := hid (OwnT.len h)
  go_enter Tryd.func43, Tryd.ntmps43
  go_wp2
  go_loopw [1, 5] (fun kk i wr => ∃ (j : Nat) (ys : List Bool), j ≤ n ∧ i = .int .i64 j ∧ kk = .int .i64 (k + j) ∧ Hid (ys.length = n) ∧ Hid (ys.take j = (marksT k n).take j) ∧ OwnT wr 4 lo hi A n c ys ∧ Only lo hi w wr ∧ Hid (wr.heap.size = w.heap.size))
    (fun _ i _ => n - (intOf i).toNat)
  case atStart => exact ⟨0, xs, Nat.zero_le _, rfl, by simp, HL, hid (by simp), h, Only.refl _ _ _, hid rfl⟩
  case round =>
    obtain ⟨j, ys, hj, rfl, rfl, HY, HE, hown, honly, HS⟩ := hrel
    by_cases hlt : j < n
    · obtain ⟨g, y, rfl, h1, h2, h3, hy, hcy, hfr, hown'⟩ := OwnT.stored hown hlt ((k + (j : Int)) % 3 == 0)
      clear hy
      go_wp2
      go_roundw
      case rel => exact ⟨j + 1, ys.set j ((k + (j : Int)) % 3 == 0), by omega, by go_num, by go_num, hid (by rw [List.length_set]; exact HY.out), hid (by rw [take_set_snoc _ _ _ (by rw [HY.out]; omega), take_snoc _ _ _ (marksT_get k n j hlt), HE.out]), hown', honly.setCell h1 h2 _, hid (by have := HS.out; simpa [World.setCell] using this)⟩
      case measure => simp [intOf]; omega
    · have e : j = n := by omega
      subst e
      clear hlt
      go_wp2
      go_ret
      have e : ys = marksT k j := by
        have := HE.out
        rw [List.take_of_length_le (by rw [HY.out]; omega), List.take_of_length_le (by rw [marksT_len]; omega)] at this
        exact this
      subst e
      exact ⟨rfl, hown, honly, HS.out⟩
end Go.Proofs.YtgccpjhkgkhllaaDoor
