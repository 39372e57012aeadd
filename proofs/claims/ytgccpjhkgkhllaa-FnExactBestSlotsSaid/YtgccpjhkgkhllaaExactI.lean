/-
  THE HELPERS OF THE EXACT LAWS, walked: toIntS copies.
-/
import Derived.Test.YtgccpjhkgkhllaaExactB
namespace Go.Proofs.Ytgccpjhkgkhllaa
open Go.RowKit
set_option linter.unusedVariables false

theorem toIntS_any (A : Option Addr) (n c B : Nat) (xs : List Int) (w : World) (h : RI w B A n xs) (hB : B ≤ w.heap.size) (hn : n ≤ 1000000000) :
    Calls Try.prog 16 #[.slice A n c] w fun e w' => e = .returned (.slice (some ⟨w.heap.size, 0, none⟩) n n) ∧
      OwnI w' 3 w.heap.size (w.heap.size + 1) (some ⟨w.heap.size, 0, none⟩) n n xs ∧ Below w.heap.size w w' ∧ w'.heap.size = w.heap.size + 1 := by
  have hmk := run_make_row' (P := Try.prog) 32 3 (.int .i64 0) 8 Try.underlying32 infoInt rfl .i64 .i64 n (by omega) (by omega)
  have HL := hid (RI.len h)
  go_enter Try.func16, Try.ntmps16
  go_wp2
  go_loopw [4] (fun i wr => ∃ (k : Nat) (ys : List Int), k ≤ n ∧ i = .int .i64 k ∧ Hid (ys.length = n) ∧ Hid (ys.take k = xs.take k) ∧ Blk wr w.heap.size 3 (ys.map (Value.int .i64)).toArray ∧ Below w.heap.size w wr ∧ Hid (wr.heap.size = w.heap.size + 1))
    (fun i _ => n - (intOf i).toNat)
  case atStart => exact ⟨0, List.replicate n 0, Nat.zero_le _, rfl, hid (by simp), hid (by simp), blk_made w _ n (0 : Int) rfl, (Below.refl _ _).alloc (Nat.le_refl _) _, hid (by simp)⟩
  case round =>
    obtain ⟨k, ys, hk, rfl, HY, HE, hblk, hbel, HS⟩ := hrel
    by_cases hlt : k < n
    · obtain ⟨b, o, x, rfl, hb, hx, hc⟩ := RI.at_ (RV.below h (hbel.mono hB)) hlt
      have HX := hid hx
      clear hx
      obtain ⟨y, hy, hcy⟩ := hblk.cellL (k := k) (by rw [HY.out]; omega)
      have hfr := hblk.frozen k
      clear hy
      go_wp2
      go_roundw
      case rel => exact ⟨k + 1, ys.set k x, by omega, by go_num, hid (by rw [List.length_set]; exact HY.out), hid (by rw [take_set_snoc _ _ _ (by rw [HY.out]; omega), take_snoc _ _ _ HX.out, HE.out]), hblk.setL k x, hbel.setCell (Nat.le_refl _) _, hid (by have := HS.out; simpa [World.setCell] using this)⟩
      case measure => simp [intOf]; omega
    · go_wp2
      go_ret
      have e : ys = xs := by
        have := HE.out
        rw [List.take_of_length_le (by rw [HY.out]; omega), List.take_of_length_le (by rw [HL.out]; omega)] at this
        exact this
      subst e
      exact ⟨rfl, ownV_blk hblk (Nat.le_refl _) (by omega) (by simpa using HL.out) (by unfold maxLen; omega), hbel, HS.out⟩
end Go.Proofs.Ytgccpjhkgkhllaa
