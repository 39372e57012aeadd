/-
  THE HELPERS OF THE EXACT LAWS, walked: toIntS copies; eqIntS compares; markIntS writes k, k+1, ..; heldIntS finds them.
-/
import Derived.Test.YtnebmfdjcikegaaProg
import Derived.Test.YtnebmfdjcikegaaBase
import Derived.Deep.QuietTactic
import Derived.BigQuiet
import Derived.Outline
namespace Go.Proofs.Ytnebmfdjcikegaa
open Go.RowKit
set_option linter.unusedVariables false

theorem infoInt : (Try.prog.info? 3).map (fun i => (i.zero, i.size, i.bytes)) = some (some (.int .i64 0), 1, 8) := by kernel_rfl

/-- k, k+1, .., k+n-1 -/
def marks (k : Int) (n : Nat) : List Int := (List.range n).map fun i : Nat => k + (i : Int)
theorem marks_len (k : Int) (n : Nat) : (marks k n).length = n := by simp [marks]
theorem marks_get (k : Int) (n j : Nat) (h : j < n) : (marks k n)[j]? = some (k + (j : Int)) := by simp [marks, h]

theorem toIntS_any (A : Option Addr) (n c B : Nat) (xs : List Int) (w : World) (h : RI w B A n xs) (hB : B ≤ w.heap.size) (hn : n ≤ 1000000000) :
    Calls Try.prog 18 #[.slice A n c] w fun e w' => e = .returned (.slice (some ⟨w.heap.size, 0, none⟩) n n) ∧
      OwnI w' 3 w.heap.size (w.heap.size + 1) (some ⟨w.heap.size, 0, none⟩) n n xs ∧ Below w.heap.size w w' ∧ w'.heap.size = w.heap.size + 1 := by
  have hmk := run_make_row' (P := Try.prog) 32 3 (.int .i64 0) 8 Try.underlying32 infoInt rfl .i64 .i64 n (by omega) (by omega)
  have HL := hid (RI.len h)
  go_enter Try.func18, Try.ntmps18
  go_wp2
  go_loopw [4] (fun i wr => ∃ (k : Nat) (ys : List Int), k ≤ n ∧ i = .int .i64 k ∧ Hid (ys.length = n) ∧ Hid (ys.take k = xs.take k) ∧ Blk wr w.heap.size 3 (ys.map (Value.int .i64)).toArray ∧ Below w.heap.size w wr ∧ Hid (wr.heap.size = w.heap.size + 1))
    (fun i _ => n - (intOf i).toNat)
  case atStart => exact ⟨0, List.replicate n 0, Nat.zero_le _, rfl, hid (by simp), hid (by simp), blk_made w _ n (0 : Int) rfl, (Below.refl _ _).alloc (Nat.le_refl _) _, hid (by simp)⟩
  case round =>
    obtain ⟨k, ys, hk, rfl, HY, HE, hblk, hbel, HS⟩ := hrel
    by_cases hlt : k < n
    · obtain ⟨b, o, x, rfl, hb, hx, hc⟩ := RI.at_ (RV.below h (hbel.mono hB)) hlt
      have HX := hid hx
      clear hx
      obtain ⟨y, hy, hcy⟩ := hblk.cellL (k := k) (by rw [HY.out]; omega)
      have hfr := hblk.frozen k
      clear hy
      go_wp2
      go_roundw
      case rel => exact ⟨k + 1, ys.set k x, by omega, by go_num, hid (by rw [List.length_set]; exact HY.out), hid (by rw [take_set_snoc _ _ _ (by rw [HY.out]; omega), take_snoc _ _ _ HX.out, HE.out]), hblk.setL k x, hbel.setCell (Nat.le_refl _) _, hid (by have := HS.out; simpa [World.setCell] using this)⟩
      case measure => simp [intOf]; omega
    · go_wp2
      go_ret
      have e : ys = xs := by
        have := HE.out
        rw [List.take_of_length_le (by rw [HY.out]; omega), List.take_of_length_le (by rw [HL.out]; omega)] at this
        exact this
      subst e
      exact ⟨rfl, ownV_blk hblk (Nat.le_refl _) (by omega) (by simpa using HL.out) (by unfold maxLen; omega), hbel, HS.out⟩

theorem eqIntS_any (A A' : Option Addr) (n n' c c' B B' : Nat) (xs ys : List Int) (w : World) (h : RI w B A n xs) (h' : RI w B' A' n' ys) (hn : n ≤ 1000000000) (hn' : n' ≤ 1000000000) :
    Calls Try.prog 20 #[.slice A n c, .slice A' n' c'] w fun e w' => e = .returned (.bool (decide (xs = ys))) ∧ ∃ m, w' = w.drewN m := by
  have HL := hid (RI.len h)
  have HL' := hid (RI.len h')
  by_cases hnn : n = n'
  · subst hnn
    have hne : ((n : Int) != (n : Int)) = false := by simp
    go_enter Try.func20, Try.ntmps20
    go_wp2
    go_loopw [5] (fun i wr => ∃ k m : Nat, k ≤ n ∧ i = .int .i64 k ∧ wr = w.drewN m ∧ Hid (xs.take k = ys.take k)) (fun i _ => n - (intOf i).toNat)
    case atStart => exact ⟨0, 0, Nat.zero_le _, rfl, rfl, hid (by simp)⟩
    case round =>
      obtain ⟨k, m, hk, rfl, rfl, HE⟩ := hrel
      by_cases hlt : k < n
      · obtain ⟨b, o, x, rfl, hb, hx, hc⟩ := RI.at_ h hlt
        have HX := hid hx
        clear hx
        obtain ⟨b', o', y, rfl, hb', hy, hc'⟩ := RI.at_ h' hlt
        have HY := hid hy
        clear hy
        by_cases hxy : x = y
        · subst hxy
          go_wp2
          go_quiet (fail)
          go_wp2
          go_roundw
          case rel => exact ⟨k + 1, _, by omega, by go_num, rfl, hid (by rw [take_snoc _ _ _ HX.out, take_snoc _ _ _ HY.out, HE.out])⟩
          case measure => simp [intOf]; omega
        · have hd : (x != y) = true := by simp [hxy]
          go_wp2
          go_quiet (fail)
          go_wp2
          go_ret
          refine ⟨ret_bool ?_, _, by first | rfl | exact World.drewN_drewN _ _ _⟩
          have : xs ≠ ys := by
            rintro rfl
            have := HX.out.symm.trans HY.out
            injection this with this
            exact hxy this
          simp [this]
      · go_wp2
        go_ret
        refine ⟨ret_bool ?_, _, by first | rfl | exact World.drewN_drewN _ _ _⟩
        have e : xs = ys := by
          have := HE.out
          rw [List.take_of_length_le (by rw [HL.out]; omega), List.take_of_length_le (by rw [HL'.out]; omega)] at this
          exact this
        simp [e]
  · have hne : ((n : Int) != (n' : Int)) = true := by simp; omega
    go_enter Try.func20, Try.ntmps20
    go_wp2
    go_ret
    refine ⟨ret_bool ?_, 0, rfl⟩
    have : xs ≠ ys := by
      rintro rfl
      exact hnn (HL.out.symm.trans HL'.out)
    simp [this]
theorem eqIntS_yes (A A' : Option Addr) (n n' c c' B B' : Nat) (xs : List Int) (w : World) (h : RI w B A n xs) (h' : RI w B' A' n' xs) (hn : n ≤ 1000000000) :
    Calls Try.prog 20 #[.slice A n c, .slice A' n' c'] w fun e w' => e = .returned (.bool true) ∧ ∃ m, w' = w.drewN m :=
  (eqIntS_any A A' n n' c c' B B' xs xs w h h' hn (by have := RI.len h; have := RI.len h'; omega)).mono fun _ _ ⟨he, hw⟩ => ⟨he.trans (ret_bool (by simp)), hw⟩

theorem eqIntS_same (A A' : Option Addr) (n n' c c' B B' : Nat) (xs : List Int) (w : World) (h : RI w B A n xs) (h' : RI w B' A' n' xs) (hn : xs.length ≤ 1000000000) :
    Calls Try.prog 20 #[.slice A n c, .slice A' n' c'] w fun e w' => e = .returned (.bool true) ∧ Below w.heap.size w w' :=
  (eqIntS_yes A A' n n' c c' B B' xs w h h' (by have := RI.len h; omega)).mono fun _ _ ⟨he, hw⟩ => ⟨he, (Same.of_drewN hw).bel _⟩

theorem markIntS_any (A : Option Addr) (n c lo hi : Nat) (xs : List Int) (k : Int) (w : World) (h : OwnI w 3 lo hi A n c xs) (hn : n ≤ 1000000000) (hk0 : 0 ≤ k) (hk1 : k ≤ 1000000000000) :
    Calls Try.prog 21 #[.slice A n c, .int .i64 k] w fun e w' => e = .returned (.int .i64 (k + n)) ∧
      OwnI w' 3 lo hi A n c (marks k n) ∧ Only lo hi w w' ∧ w'.heap.size = w.heap.size := by
  have HL := hid (OwnI.len h)
  go_enter Try.func21, Try.ntmps21
  go_wp2
  go_loopw [1, 5] (fun kk i wr => ∃ (j : Nat) (ys : List Int), j ≤ n ∧ i = .int .i64 j ∧ kk = .int .i64 (k + j) ∧ Hid (ys.length = n) ∧ Hid (ys.take j = (marks k n).take j) ∧ OwnI wr 3 lo hi A n c ys ∧ Only lo hi w wr ∧ Hid (wr.heap.size = w.heap.size))
    (fun _ i _ => n - (intOf i).toNat)
  case atStart => exact ⟨0, xs, Nat.zero_le _, rfl, by simp, HL, hid (by simp), h, Only.refl _ _ _, hid rfl⟩
  case round =>
    obtain ⟨j, ys, hj, rfl, rfl, HY, HE, hown, honly, HS⟩ := hrel
    by_cases hlt : j < n
    · obtain ⟨g, y, rfl, h1, h2, h3, hy, hcy, hfr, hown'⟩ := OwnI.stored hown hlt (k + (j : Int))
      clear hy
      go_wp2
      go_roundw
      case rel => exact ⟨j + 1, ys.set j (k + (j : Int)), by omega, by go_num, by go_num, hid (by rw [List.length_set]; exact HY.out), hid (by rw [take_set_snoc _ _ _ (by rw [HY.out]; omega), take_snoc _ _ _ (marks_get k n j hlt), HE.out]), hown', honly.setCell h1 h2 _, hid (by have := HS.out; simpa [World.setCell] using this)⟩
      case measure => simp [intOf]; omega
    · have e : j = n := by omega
      subst e
      clear hlt
      go_wp2
      go_ret
      have e : ys = marks k j := by
        have := HE.out
        rw [List.take_of_length_le (by rw [HY.out]; omega), List.take_of_length_le (by rw [marks_len]; omega)] at this
        exact this
      subst e
      exact ⟨rfl, hown, honly, HS.out⟩

theorem heldIntS_yes (A : Option Addr) (n c B : Nat) (k : Int) (w : World) (h : RI w B A n (marks k n)) (hn : n ≤ 1000000000) (hk0 : 0 ≤ k) (hk1 : k ≤ 1000000000000) :
    Calls Try.prog 22 #[.slice A n c, .int .i64 k] w fun e w' => e = .returned (.int .i64 (k + n)) ∧ w = w' := by
  go_enter Try.func22, Try.ntmps22
  go_wp2
  go_loop [1, 5] (fun kk i => ∃ j : Nat, j ≤ n ∧ i = .int .i64 j ∧ kk = .int .i64 (k + j)) (fun _ i => n - (intOf i).toNat)
  case atStart => exact ⟨0, Nat.zero_le _, rfl, by simp⟩
  case round =>
    obtain ⟨j, hj, rfl, rfl⟩ := hrel
    by_cases hlt : j < n
    · obtain ⟨b, o, x, rfl, hb, hx, hc⟩ := RI.at_ h hlt
      rw [marks_get k n j hlt] at hx
      injection hx with hx
      subst hx
      go_wp2
      go_round
      case rel => exact ⟨j + 1, by omega, by go_num, by go_num⟩
      case measure => simp [intOf]; omega
    · have e : j = n := by omega
      subst e
      clear hlt
      go_wp2
      go_ret
      exact ⟨rfl, rfl⟩
end Go.Proofs.Ytnebmfdjcikegaa
