/-
  StopAndWait, the program's and the reference's, walked.
-/
import Derived.Test.YtnnapbjaidbkgaaL1
import Derived.Deep.QuietTactic
import Derived.BigQuiet
import Derived.Outline
namespace Go.Proofs.Ytnnapbjaidbkgaa
open Go.RowKit
set_option linter.unusedVariables false

theorem infoI : (Try.prog.info? 3).map (fun i => (i.zero, i.size, i.bytes)) = some (some (.int .i64 0), 1, 8) := by kernel_rfl
/-- Is transmission i lost? -/
def lostB (l : List Bool) (i : Nat) : Bool := l.getD i false
section
variable (A : Option Addr) (n c B : Nat) (xs : List Bool) (i : Nat) (w : World) (h : RT w B A n xs) (hi : i ≤ 1000000)
include h hi
theorem lostAt_impl : Calls Try.prog 29 #[.slice A n c, .int .i64 (i : Int)] w fun e w' => e = .returned (.bool (lostB xs i)) ∧ w = w' := by
  by_cases hlt : i < n
  · obtain ⟨b, o, x, rfl, hb, hx, hc⟩ := RT.at_ h hlt
    have hv : lostB xs i = x := by rw [lostB, List.getD_eq_getElem?_getD, hx]; rfl
    have HV := hid hv
    have hi0 : (0 : Int) ≤ (i : Int) := by omega
    have hi1 : (i : Int) < (n : Int) := by omega
    clear hv hx
    go_enter Try.func29, Try.ntmps29
    go_wp2
    go_ret
    exact ⟨ret_bool HV.out.symm, rfl⟩
  · have hv : lostB xs i = false := by rw [lostB, List.getD_eq_getElem?_getD, List.getElem?_eq_none (by rw [RT.len h]; omega)]; rfl
    have HV := hid hv
    clear hv
    go_enter Try.func29, Try.ntmps29
    go_wp2
    go_ret
    exact ⟨ret_bool HV.out.symm, rfl⟩
theorem lostAt_spec : Calls Try.prog 28 #[.slice A n c, .int .i64 (i : Int)] w fun e w' => e = .returned (.bool (lostB xs i)) ∧ w = w' := by
  by_cases hlt : i < n
  · obtain ⟨b, o, x, rfl, hb, hx, hc⟩ := RT.at_ h hlt
    have hv : lostB xs i = x := by rw [lostB, List.getD_eq_getElem?_getD, hx]; rfl
    have HV := hid hv
    have hi0 : (0 : Int) ≤ (i : Int) := by omega
    have hi1 : (i : Int) < (n : Int) := by omega
    clear hv hx
    go_enter Try.func28, Try.ntmps28
    go_wp2
    go_ret
    exact ⟨ret_bool HV.out.symm, rfl⟩
  · have hv : lostB xs i = false := by rw [lostB, List.getD_eq_getElem?_getD, List.getElem?_eq_none (by rw [RT.len h]; omega)]; rfl
    have HV := hid hv
    clear hv
    go_enter Try.func28, Try.ntmps28
    go_wp2
    go_ret
    exact ⟨ret_bool HV.out.symm, rfl⟩
end
/-- What is left of the sending, with f transmissions to go: transmission t, message k, ys the arrivals. -/
def swr (n : Nat) (lost un : List Bool) : Nat → Nat → Nat → List Int → Option (List Int × Nat)
  | 0, t, k, ys => if k < n then none else some (ys, t)
  | f + 1, t, k, ys => if k < n then (if lostB lost t = true then swr n lost un f (t + 1) k ys else swr n lost un f (t + 1) (if lostB un t = true then k else k + 1) (ys.set k (ys.getD k 0 + 1))) else some (ys, t)
def swOut : Option (List Int × Nat) → List Int × Int
  | some (ys, t) => (ys, (t : Int))
  | none => ([], 0)
def stopWait (n : Int) (lost un : List Bool) : List Int × Int := if 0 ≤ n ∧ n ≤ 30 then swOut (swr n.toNat lost un 300 0 0 (List.replicate n.toNat 0)) else ([], 0)
/-- The call returned a slice of its own, which reads as the first, and the second as an int; nothing that was there has turned. -/
def RetIK (t : TypeId) (w : World) (e : Ending) (w' : World) (V : List Int × Int) : Prop :=
  ∃ A n c, e = .returned (.tuple #[.slice A n c, .int .i64 V.2]) ∧ OwnI w' t w.heap.size w'.heap.size A n c V.1 ∧ Below w.heap.size w w'
theorem retIK_nil (t : TypeId) (w w' : World) (hb : Below w.heap.size w w') : RetIK t w (.returned (.tuple #[.slice none 0 0, .int .i64 0])) w' ([], 0) :=
  ⟨none, 0, 0, rfl, ⟨rfl, Nat.le_refl _, by simp, .inl ⟨rfl, rfl, rfl⟩⟩, hb⟩
theorem retIK_lit0 (t : TypeId) (w w' : World) (hb : Below w.heap.size w w') : RetIK t w (.returned (.tuple #[.slice (some ⟨w'.heap.size, 0, none⟩) 0 0, .int .i64 0])) (w'.alloc (.cells #[] t)) ([], 0) :=
  ⟨_, 0, 0, rfl, ownV_blk (vs := []) (Blk.new _ _ _) hb.size (by simp) rfl (by simp), hb.alloc hb.size _⟩
set_option maxHeartbeats 1600000 in
theorem stopWait_impl (n : Int) (A A' : Option Addr) (l l' c c' B : Nat) (lost un : List Bool) (w : World) (h : RT w B A l lost) (h' : RT w B A' l' un) (hB : B ≤ w.heap.size) (hl : l ≤ 1000000000) (hl' : l' ≤ 1000000000) :
    Calls Try.prog 12 #[.int .i64 n, .slice A l c, .slice A' l' c'] w fun e w' => RetIK 3 w e w' (stopWait n lost un) := by
  by_cases hv : 0 ≤ n ∧ n ≤ 30
  · obtain ⟨h0, h1⟩ := hv
    obtain ⟨N, rfl⟩ := Int.eq_ofNat_of_zero_le h0
    have hN : N ≤ 30 := by omega
    obtain ⟨V, HV⟩ : ∃ V, Hid (V = swr N lost un 300 0 0 (List.replicate N 0)) := ⟨_, hid rfl⟩
    have HW : Hid (stopWait (N : Int) lost un = swOut V) := hid (by rw [stopWait, if_pos ⟨h0, h1⟩, Int.toNat_natCast, HV.out])
    have hmk := run_make_row' (P := Try.prog) 23 3 (.int .i64 0) 8 Try.underlying23 infoI rfl .i64 .i64 N (by omega) (by omega)
    go_enter Try.func12, Try.ntmps12
    go_wp2
    go_loopw [10, 9] (fun kv tv wr => ∃ (k t : Nat) (ys : List Int), k ≤ N ∧ t ≤ 300 ∧ kv = .int .i64 k ∧ tv = .int .i64 t ∧ Hid (ys.length = N) ∧ Blk wr w.heap.size 3 (ys.map (Value.int .i64)).toArray ∧ Hid (∀ y ∈ ys, 0 ≤ y ∧ y ≤ t) ∧ Hid (swr N lost un (300 - t) t k ys = V) ∧ Below w.heap.size w wr)
      (fun _ tv _ => 300 - (intOf tv).toNat)
    case atStart => exact ⟨0, 0, List.replicate N 0, Nat.zero_le _, by omega, rfl, rfl, hid (by simp), blk_made w _ N (0 : Int) rfl, hid (by intro y hy; rw [List.mem_replicate] at hy; omega), hid HV.out.symm, (Below.refl _ _).alloc (Nat.le_refl _) _⟩
    case round =>
      obtain ⟨k, t, ys, hk, ht, rfl, rfl, HY, hblk, HB, HS, hbel⟩ := hrel
      by_cases hlt : k < N
      · by_cases h300 : t = 300
        · subst h300
          have hn : V = none := by rw [← HS.out, swr, if_pos hlt]
          have HN := hid hn
          clear hn hblk
          go_wp2
          go_ret2
          rw [HW.out, HN.out]
          exact retIK_nil _ _ _ hbel
        · have hne : ((t : Int) == 300) = false := by simp; omega
          obtain ⟨f, hf⟩ : ∃ f, 300 - t = f + 1 := ⟨299 - t, by omega⟩
          have hf' : 300 - (t + 1) = f := by omega
          have hs := HS.out
          rw [hf, swr, if_pos hlt] at hs
          have la := fun (wx : World) (hx : Below w.heap.size w wx) => lostAt_impl A l c B lost t wx (RV.below h (hx.mono hB)) (by omega)
          have lu := fun (wx : World) (hx : Below w.heap.size w wx) => lostAt_impl A' l' c' B un t wx (RV.below h' (hx.mono hB)) (by omega)
          have HLA := hid la; have HLU := hid lu
          clear la lu
          cases hlo : lostB lost t
          · rw [if_neg (by rw [hlo]; exact Bool.false_ne_true)] at hs
            have la' := HLA.out wr hbel
            rw [hlo] at la'
            obtain ⟨y, hy, hcy⟩ := hblk.cellL (k := k) (by rw [HY.out]; omega)
            have hyb := HB.out y (List.mem_of_getElem? hy)
            obtain ⟨y0, y1⟩ := hyb
            have hgd : ys.getD k 0 = y := by rw [List.getD_eq_getElem?_getD, hy]; rfl
            rw [hgd] at hs
            have hfr := hblk.frozen k
            have hblk2 := hblk.setL k (y + 1)
            have hbel2 := hbel.setCell (p := ⟨w.heap.size, k, none⟩) (Nat.le_refl _) (.int .i64 (y + 1))
            have lu' := HLU.out _ hbel2
            have HB2 : Hid (∀ z ∈ ys.set k (y + 1), 0 ≤ z ∧ z ≤ ((t + 1 : Nat) : Int)) := hid (by
              intro z hz
              rcases List.mem_or_eq_of_mem_set hz with hz | rfl
              · have := HB.out z hz; omega
              · omega)
            have H2 := hid (And.intro hblk2 hbel2)
            cases hun : lostB un t
            · rw [hun, if_neg Bool.false_ne_true] at hs
              rw [hun] at lu'
              have HS2 := hid hs
              have HLu := hid lu'
              have HLa := hid la'
              have hkk : (k : Int) < (N : Int) := by omega
              have hk0 : (0 : Int) ≤ (k : Int) := by omega
              clear hs lu' la' hlo hun hy hgd hblk hblk2 hbel2
              go_wp2_with fail
              refine HLa.out.mono ?_
              rintro e w1 ⟨rfl, rfl⟩
              go_wp2_with fail
              refine HLu.out.mono ?_
              rintro e w1 ⟨rfl, rfl⟩
              go_wp2
              go_roundw
              case rel => exact ⟨k + 1, t + 1, _, by omega, by omega, by go_num, by go_num, hid (by rw [List.length_set]; exact HY.out), H2.out.1, HB2, hid (by rw [hf']; exact HS2.out), H2.out.2⟩
              case measure => simp [intOf]; omega
            · rw [hun, if_pos rfl] at hs
              rw [hun] at lu'
              have HS2 := hid hs
              have HLu := hid lu'
              have HLa := hid la'
              have hkk : (k : Int) < (N : Int) := by omega
              have hk0 : (0 : Int) ≤ (k : Int) := by omega
              clear hs lu' la' hlo hun hy hgd hblk hblk2 hbel2
              go_wp2_with fail
              refine HLa.out.mono ?_
              rintro e w1 ⟨rfl, rfl⟩
              go_wp2_with fail
              refine HLu.out.mono ?_
              rintro e w1 ⟨rfl, rfl⟩
              go_wp2
              go_roundw
              case rel => exact ⟨k, t + 1, _, by omega, by omega, rfl, by go_num, hid (by rw [List.length_set]; exact HY.out), H2.out.1, HB2, hid (by rw [hf']; exact HS2.out), H2.out.2⟩
              case measure => simp [intOf]; omega
          · rw [if_pos hlo] at hs
            have la' := HLA.out wr hbel
            rw [hlo] at la'
            have HS2 := hid hs
            have HLa := hid la'
            have H2 := hid (And.intro hblk hbel)
            clear hs la' hlo hblk hbel
            go_wp2_with fail
            refine HLa.out.mono ?_
            rintro e w1 ⟨rfl, rfl⟩
            go_wp2
            go_roundw
            case rel => exact ⟨k, t + 1, ys, by omega, by omega, rfl, by go_num, HY, H2.out.1, hid (fun y hy => by have := HB.out y hy; omega), hid (by rw [hf']; exact HS2.out), H2.out.2⟩
            case measure => simp [intOf]; omega
      · have hn : V = some (ys, t) := by
          have hs := HS.out
          generalize 300 - t = f at hs
          cases f with
          | zero => rw [swr, if_neg hlt] at hs; exact hs.symm
          | succ f => rw [swr, if_neg hlt] at hs; exact hs.symm
        have HN := hid hn
        have H2 := hid (And.intro hblk hbel)
        clear hn hblk hbel
        go_wp2
        go_ret2
        rw [HW.out, HN.out]
        exact ⟨_, N, N, rfl, ownV_blk H2.out.1 (Nat.le_refl _) H2.out.1.lt (by rw [List.length_map]; exact HY.out) (by unfold maxLen; omega), H2.out.2⟩
  · have HW : Hid (stopWait n lost un = ([], 0)) := hid (by rw [stopWait, if_neg hv])
    by_cases h0 : 0 ≤ n
    · have h1 : 30 < n := by omega
      clear hv
      go_enter Try.func12, Try.ntmps12
      go_wp2
      go_ret2
      rw [HW.out]
      exact retIK_nil _ _ _ (Below.refl _ _)
    · clear hv
      go_enter Try.func12, Try.ntmps12
      go_wp2
      go_ret2
      rw [HW.out]
      exact retIK_nil _ _ _ (Below.refl _ _)
set_option maxHeartbeats 1600000 in
theorem stopWait_spec (n : Int) (A A' : Option Addr) (l l' c c' B : Nat) (lost un : List Bool) (w : World) (h : RT w B A l lost) (h' : RT w B A' l' un) (hB : B ≤ w.heap.size) (hl : l ≤ 1000000000) (hl' : l' ≤ 1000000000) :
    Calls Try.prog 10 #[.int .i64 n, .slice A l c, .slice A' l' c'] w fun e w' => RetIK 3 w e w' (stopWait n lost un) := by
  by_cases hv : 0 ≤ n ∧ n ≤ 30
  · obtain ⟨h0, h1⟩ := hv
    obtain ⟨N, rfl⟩ := Int.eq_ofNat_of_zero_le h0
    have hN : N ≤ 30 := by omega
    obtain ⟨V, HV⟩ : ∃ V, Hid (V = swr N lost un 300 0 0 (List.replicate N 0)) := ⟨_, hid rfl⟩
    have HW : Hid (stopWait (N : Int) lost un = swOut V) := hid (by rw [stopWait, if_pos ⟨h0, h1⟩, Int.toNat_natCast, HV.out])
    have hmk := run_make_row' (P := Try.prog) 23 3 (.int .i64 0) 8 Try.underlying23 infoI rfl .i64 .i64 N (by omega) (by omega)
    go_enter Try.func10, Try.ntmps10
    go_wp2_with (go_at_call 27; refine (l1In_yes _ _ _ _ (by omega) (by omega)).mono ?_; rintro e w1 ⟨rfl, rfl⟩)
    go_loopw [10, 9] (fun kv tv wr => ∃ (k t : Nat) (ys : List Int), k ≤ N ∧ t ≤ 300 ∧ kv = .int .i64 k ∧ tv = .int .i64 t ∧ Hid (ys.length = N) ∧ Blk wr w.heap.size 3 (ys.map (Value.int .i64)).toArray ∧ Hid (∀ y ∈ ys, 0 ≤ y ∧ y ≤ t) ∧ Hid (swr N lost un (300 - t) t k ys = V) ∧ Below w.heap.size w wr)
      (fun _ tv _ => 300 - (intOf tv).toNat)
    case atStart => exact ⟨0, 0, List.replicate N 0, Nat.zero_le _, by omega, rfl, rfl, hid (by simp), blk_made w _ N (0 : Int) rfl, hid (by intro y hy; rw [List.mem_replicate] at hy; omega), hid HV.out.symm, (Below.refl _ _).alloc (Nat.le_refl _) _⟩
    case round =>
      obtain ⟨k, t, ys, hk, ht, rfl, rfl, HY, hblk, HB, HS, hbel⟩ := hrel
      by_cases hlt : k < N
      · by_cases h300 : t = 300
        · subst h300
          have hn : V = none := by rw [← HS.out, swr, if_pos hlt]
          have HN := hid hn
          clear hn hblk
          go_wp2
          go_ret2
          rw [HW.out, HN.out]
          exact retIK_lit0 _ _ _ hbel
        · have hne : ((t : Int) == 300) = false := by simp; omega
          obtain ⟨f, hf⟩ : ∃ f, 300 - t = f + 1 := ⟨299 - t, by omega⟩
          have hf' : 300 - (t + 1) = f := by omega
          have hs := HS.out
          rw [hf, swr, if_pos hlt] at hs
          have la := fun (wx : World) (hx : Below w.heap.size w wx) => lostAt_spec A l c B lost t wx (RV.below h (hx.mono hB)) (by omega)
          have lu := fun (wx : World) (hx : Below w.heap.size w wx) => lostAt_spec A' l' c' B un t wx (RV.below h' (hx.mono hB)) (by omega)
          have HLA := hid la; have HLU := hid lu
          clear la lu
          cases hlo : lostB lost t
          · rw [if_neg (by rw [hlo]; exact Bool.false_ne_true)] at hs
            have la' := HLA.out wr hbel
            rw [hlo] at la'
            obtain ⟨y, hy, hcy⟩ := hblk.cellL (k := k) (by rw [HY.out]; omega)
            have hyb := HB.out y (List.mem_of_getElem? hy)
            obtain ⟨y0, y1⟩ := hyb
            have hgd : ys.getD k 0 = y := by rw [List.getD_eq_getElem?_getD, hy]; rfl
            rw [hgd] at hs
            have hfr := hblk.frozen k
            have hblk2 := hblk.setL k (y + 1)
            have hbel2 := hbel.setCell (p := ⟨w.heap.size, k, none⟩) (Nat.le_refl _) (.int .i64 (y + 1))
            have lu' := HLU.out _ hbel2
            have HB2 : Hid (∀ z ∈ ys.set k (y + 1), 0 ≤ z ∧ z ≤ ((t + 1 : Nat) : Int)) := hid (by
              intro z hz
              rcases List.mem_or_eq_of_mem_set hz with hz | rfl
              · have := HB.out z hz; omega
              · omega)
            have H2 := hid (And.intro hblk2 hbel2)
            cases hun : lostB un t
            · rw [hun, if_neg Bool.false_ne_true] at hs
              rw [hun] at lu'
              have HS2 := hid hs
              have HLu := hid lu'
              have HLa := hid la'
              have hkk : (k : Int) < (N : Int) := by omega
              have hk0 : (0 : Int) ≤ (k : Int) := by omega
              clear hs lu' la' hlo hun hy hgd hblk hblk2 hbel2
              go_wp2_with fail
              refine HLa.out.mono ?_
              rintro e w1 ⟨rfl, rfl⟩
              go_wp2_with fail
              refine HLu.out.mono ?_
              rintro e w1 ⟨rfl, rfl⟩
              go_wp2
              go_roundw
              case rel => exact ⟨k + 1, t + 1, _, by omega, by omega, by go_num, by go_num, hid (by rw [List.length_set]; exact HY.out), H2.out.1, HB2, hid (by rw [hf']; exact HS2.out), H2.out.2⟩
              case measure => simp [intOf]; omega
            · rw [hun, if_pos rfl] at hs
              rw [hun] at lu'
              have HS2 := hid hs
              have HLu := hid lu'
              have HLa := hid la'
              have hkk : (k : Int) < (N : Int) := by omega
              have hk0 : (0 : Int) ≤ (k : Int) := by omega
              clear hs lu' la' hlo hun hy hgd hblk hblk2 hbel2
              go_wp2_with fail
              refine HLa.out.mono ?_
              rintro e w1 ⟨rfl, rfl⟩
              go_wp2_with fail
              refine HLu.out.mono ?_
              rintro e w1 ⟨rfl, rfl⟩
              go_wp2
              go_roundw
              case rel => exact ⟨k, t + 1, _, by omega, by omega, rfl, by go_num, hid (by rw [List.length_set]; exact HY.out), H2.out.1, HB2, hid (by rw [hf']; exact HS2.out), H2.out.2⟩
              case measure => simp [intOf]; omega
          · rw [if_pos hlo] at hs
            have la' := HLA.out wr hbel
            rw [hlo] at la'
            have HS2 := hid hs
            have HLa := hid la'
            have H2 := hid (And.intro hblk hbel)
            clear hs la' hlo hblk hbel
            go_wp2_with fail
            refine HLa.out.mono ?_
            rintro e w1 ⟨rfl, rfl⟩
            go_wp2
            go_roundw
            case rel => exact ⟨k, t + 1, ys, by omega, by omega, rfl, by go_num, HY, H2.out.1, hid (fun y hy => by have := HB.out y hy; omega), hid (by rw [hf']; exact HS2.out), H2.out.2⟩
            case measure => simp [intOf]; omega
      · have hn : V = some (ys, t) := by
          have hs := HS.out
          generalize 300 - t = f at hs
          cases f with
          | zero => rw [swr, if_neg hlt] at hs; exact hs.symm
          | succ f => rw [swr, if_neg hlt] at hs; exact hs.symm
        have HN := hid hn
        have H2 := hid (And.intro hblk hbel)
        clear hn hblk hbel
        go_wp2
        go_ret2
        rw [HW.out, HN.out]
        exact ⟨_, N, N, rfl, ownV_blk H2.out.1 (Nat.le_refl _) H2.out.1.lt (by rw [List.length_map]; exact HY.out) (by unfold maxLen; omega), H2.out.2⟩
  · have HW : Hid (stopWait n lost un = ([], 0)) := hid (by rw [stopWait, if_neg hv])
    have hno := l1In_no n 0 30 w (by omega)
    clear hv
    go_enter Try.func10, Try.ntmps10
    go_wp2_with fail
    refine hno.mono ?_
    rintro e w1 ⟨rfl, rfl⟩
    go_wp2
    go_ret2
    rw [HW.out]
    exact retIK_lit0 _ _ _ (Below.refl _ _)
theorem swr_len (n : Nat) (lost un : List Bool) : ∀ (f t k : Nat) (ys : List Int), ys.length ≤ 30 → (swOut (swr n lost un f t k ys)).1.length ≤ 30 := by
  intro f
  induction f with
  | zero => intro t k ys h; rw [swr]; split <;> simp [swOut, h]
  | succ f ih =>
    intro t k ys h
    rw [swr]
    split
    · split
      · exact ih _ _ _ h
      · exact ih _ _ _ (by rw [List.length_set]; exact h)
    · simpa [swOut] using h
theorem stopWait_len (n : Int) (lost un : List Bool) : (stopWait n lost un).1.length ≤ 30 := by
  unfold stopWait
  split
  · exact swr_len _ _ _ _ _ _ _ (by simp; omega)
  · simp
end Go.Proofs.Ytnnapbjaidbkgaa
