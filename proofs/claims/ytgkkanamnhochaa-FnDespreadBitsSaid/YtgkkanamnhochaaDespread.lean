/-
  DespreadSums, the program's, walked.
-/
import Derived.Test.YtgkkanamnhochaaFast
import Derived.Test.YtgkkanamnhochaaAdd
import Derived.Laws.CopyOwn
import Derived.Deep.RegionLaw
import Derived.Deep.RegionHeld3
namespace Go.Proofs.Ytgkkanamnhochaa
open Go.RowKit
set_option linter.unusedVariables false

def block8 (xs : List Int) (i : Nat) : List Int := (xs.drop (8 * i)).take 8
def despL (xs : List Int) (k m : Nat) : List Int := (List.range m).map fun i => dot8 (block8 xs i) k
def despread (xs : List Int) (k : Int) : List Int := if 0 ≤ k ∧ k ≤ 7 ∧ xs.length % 8 = 0 ∧ withinB 256 8000 xs = true then despL xs k.toNat (xs.length / 8) else []
theorem desp_no {xs : List Int} {k : Int} (h : k < 0 ∨ 7 < k ∨ xs.length % 8 ≠ 0 ∨ withinB 256 8000 xs = false) : despread xs k = [] := by
  rw [despread, if_neg]
  rintro ⟨h1, h2, h3, h4⟩
  rcases h with h | h | h | h
  · omega
  · omega
  · exact h h3
  · rw [h4] at h; cases h
theorem block8_len {xs : List Int} {i : Nat} (h : 8 * i + 8 ≤ xs.length) : (block8 xs i).length = 8 := by simp [block8]; omega
theorem block8_get {xs : List Int} {i j : Nat} (hj : j < 8) : (block8 xs i)[j]? = xs[8 * i + j]? := by
  simp [block8, hj]
theorem allIn_block {b : Int} {xs : List Int} {i : Nat} (h : AllIn b xs) : AllIn b (block8 xs i) := fun x hx => h x (List.mem_of_mem_drop (List.mem_of_mem_take hx))

set_option maxHeartbeats 1600000 in
theorem despread_impl (A : Option Addr) (n c B : Nat) (xs : List Int) (k : Int) (w : World) (h : RI w B A n xs) (hB : B ≤ w.heap.size) (hn : n ≤ 1000000000) (hcap : n ≤ c) (hcm : c ≤ maxLen) :
    Calls Try.prog 27 #[.slice A n c, .int .i64 k] w fun e w' => RetI 3 w e w' (despread xs k) := by
  unfold maxLen at hcm
  have HL := hid (RI.len h)
  obtain ⟨i0, hi0, hz0, hz1, hz2⟩ := info_parts infoI
  by_cases k0 : 0 ≤ k
  · by_cases k1 : k ≤ 7
    · by_cases h8 : n % 8 = 0
      · obtain ⟨N, hN⟩ : ∃ N, n = 8 * N := ⟨n / 8, by omega⟩
        subst hN
        cases hv : withinB 256 8000 xs
        · have hw := within_not A (8 * N) c B xs 256 8000 w h hn (by omega) (by omega) hv
          have HV := hid hv
          clear hv
          go_enter Try.func27, Try.ntmps27
          go_wp2_with (go_at_call 42; refine hw.mono ?_; rintro e w1 ⟨rfl, rfl⟩)
          go_ret
          rw [desp_no (.inr (.inr (.inr HV.out)))]
          exact retI_nil _ _
        · have hw := within_yes A (8 * N) c B xs 256 8000 w h hn (by omega) (by omega) hv
          have HV := hid hv
          have HA := hid (withinB_iff.1 hv).2
          have h256 : 8 * N ≤ 256 := by have := (withinB_iff.1 hv).1; have := HL.out; omega
          obtain ⟨K, rfl⟩ := Int.eq_ofNat_of_zero_le k0
          have hmk : ∀ w, (Instr.makeSlice 22 (.int .i64 0) (.int .i64 (N : Int))).run Try.prog w = .ok (.slice (some ⟨w.heap.size, 0, none⟩) 0 N) (w.alloc (.cells (madeCells #[.int .i64 0] N) 3)) :=
            run_make0 (P := Try.prog) 22 3 (.int .i64 0) 8 Try.underlying22 infoI rfl .i64 .i64 N (by omega) (by omega)
          have hdiv : (8 * (N : Int)) / 8 = (N : Int) := by omega
          have hmod : (8 * (N : Int)) % 8 = 0 := by omega
          clear hv h8
          go_enter Try.func27, Try.ntmps27
          go_wp2_with (go_at_call 42; refine hw.mono ?_; rintro e w1 ⟨rfl, rfl⟩)
          clear hw hmk
          go_loopw [5, 6] (fun v av wr => ∃ (i cc : Nat) (AA : Option Addr), i ≤ N ∧ av = .int .i64 (8 * (i : Int)) ∧ v = .slice AA i cc ∧ wr.ownsRow w.heap.size 3 1 (.slice AA i cc) i ((despL xs K i).map (Value.int .i64)) ∧ Below w.heap.size w wr)
            (fun _ av _ => 8 * N - (intOf av).toNat)
          case atStart => exact ⟨0, N, _, Nat.zero_le _, rfl, rfl, own_made0 _ _ _ (Nat.le_refl _) (by unfold maxLen; omega), (Below.refl _ _).alloc (Nat.le_refl _) _⟩
          case round =>
            obtain ⟨i, cc, AA, hi, rfl, rfl, hown, hbel⟩ := hrel
            have hsz := hbel.size
            by_cases hlt : i < N
            · obtain ⟨b, o, rfl, hb, hcell⟩ := h.2 (by omega)
              have HC := hid hcell
              clear hcell
              have hl1 : (8 * (i : Int)) ≤ (8 * (N : Int)) := by omega
              have hl2 : (8 * (i : Int)) ≤ (c : Int) := by omega
              have hl3 : (0 : Int) ≤ 8 * (i : Int) := by omega
              have hti : (8 * (i : Int)).toNat = 8 * i := by omega
              have hci : ¬ c = 8 * i := by omega
              have hbl := block8_len (xs := xs) (i := i) (by have := HL.out; omega)
              have hbA : Below wr.heap.size wr (wr.alloc (.cells #[.int .i64 0, .int .i64 0, .int .i64 0, .int .i64 0, .int .i64 0, .int .i64 0, .int .i64 0, .int .i64 0] 50)).drew := ((Below.refl _ _).alloc (Nat.le_refl _) _).drew
              have hpx : ∀ j v, ((block8 xs i).map (Value.int .i64))[j]? = some v → (wr.alloc (.cells #[.int .i64 0, .int .i64 0, .int .i64 0, .int .i64 0, .int .i64 0, .int .i64 0, .int .i64 0, .int .i64 0] 50)).drew.cell? ((⟨b, o + 8 * i, none⟩ : Addr).add j) = some v := by
                intro j v hv
                have hj8 : j < 8 := by
                  have := (List.getElem?_eq_some_iff.1 hv).1
                  simpa [hbl] using this
                rw [List.getElem?_map, block8_get hj8] at hv
                obtain ⟨b', o', x, hbo, _, hx, hc⟩ := h.at_ (k := 8 * i + j) (by omega)
                injection hbo with hbo
                injection hbo with e1 e2
                subst e1 e2
                rw [hx] at hv
                injection hv with hv
                subst hv
                rw [show (⟨b, o + 8 * i, none⟩ : Addr).add j = ⟨b, o + (8 * i + j), none⟩ by simp [Addr.add, Nat.add_assoc]]
                exact (hbA.cell (p := ⟨b, o + (8 * i + j), none⟩) (by show b < _; omega)).trans ((hbel.cell (p := ⟨b, o + (8 * i + j), none⟩) (by show b < _; omega)).trans hc)
              have hnl : ((block8 xs i).map (Value.int .i64)).length = Nat.min (8 * N - 8 * i) 8 := by
                rw [List.length_map, hbl]; exact (Nat.min_eq_right (by omega)).symm
              have hfit : 0 + ((block8 xs i).map (Value.int .i64)).length ≤ (List.replicate 8 (Value.int .i64 0)).length := by
                rw [List.length_map, hbl]; simp
              have hone : ∀ v ∈ (block8 xs i).map (Value.int .i64), v.oneCell' = true := by
                intro v hv
                obtain ⟨x, _, rfl⟩ := List.mem_map.1 hv
                rfl
              have hnew : (wr.alloc (.cells #[.int .i64 0, .int .i64 0, .int .i64 0, .int .i64 0, .int .i64 0, .int .i64 0, .int .i64 0, .int .i64 0] 50)).drew.heap[wr.heap.size]? = some (.cells (List.replicate 8 (.int .i64 0)).toArray 50 (0, 0)) := Blk.new wr 50 _
              have hsp : splice (List.replicate 8 (Value.int .i64 0)) 0 ((block8 xs i).map (Value.int .i64)) = (block8 xs i).map (Value.int .i64) := by
                simp [splice, hbl]
              go_wp2
              go_region_law (refine step_copy_splice rfl (.tmp 35) (.tmp 38) 22 22 rfl 3 Try.underlying22 (by rfl) _ _ _ _ _ _ (by rfl) (by rfl) wr.heap.size 0 (List.replicate 8 (.int .i64 0)) 50 hnew ((block8 xs i).map (Value.int .i64)) hnl (fun _ => ⟨rfl, ⟨b, o + 8 * i, none⟩, by rfl, hpx⟩) hfit hone wr.heap.size wr hbA (Nat.le_refl _) ?_; intro w8 hblk8 hb8)
              rw [hsp] at hblk8
              have hfw := fastWalsh_any wr.heap.size 50 (block8 xs i) w8 hblk8.out hbl (allIn_block HA.out)
              obtain ⟨D, hD⟩ : ∃ D, D = dot8 (block8 xs i) K := ⟨_, rfl⟩
              have hfk : ((fastL (block8 xs i)).map (Value.int .i64)).toArray[K]? = some (.int .i64 D) := by
                rw [fastL_eq _ hbl, hD]; simp [show K < 8 by omega]
              have HD := hid hD
              clear hfit hnl hone hpx hnew hsp hblk8 hD hbl
              have hs8 := hid hb8.size
              go_wp2_with (first | (go_at_call 44; refine hfw.mono ?_; rintro e w9 ⟨rfl, hblk9, hO9, hs9⟩; have hc9 : w9.cell? ⟨wr.heap.size, K, none⟩ = some (.int .i64 D) := (hblk9.cell K).trans hfk; have hb9 : Below wr.heap.size wr w9 := hb8.trans (hO9.below (Nat.le_refl _) hs8.out); have hown9 := own_only (lo := wr.heap.size) (hi := wr.heap.size) hown (Below.only hb9) (.inr (Nat.le_refl _)); have hs9' := hid hb9.size; clear hfw hfk hblk9 hO9 hs9 hb8) | (at_builtin; refine wpList_push rfl _ _ _ rfl w.heap.size 3 i0 _ 8 Try.underlying22 hi0 hz0 hz1 hz2 rfl (by omega) _ _ AA i cc _ rfl hown9 rfl rfl (by omega) (by have := hs9'.out; omega) ?_; intro g' cap w3 hown3 hgrow3 hlies3 hlt3))
              have hbel9 := hbel.trans (hb9.mono hsz)
              have hbel3 := below_push hbel9 hown9 (Nat.le_refl _) (hbel9.size) hgrow3
              go_roundw
              case rel =>
                refine ⟨i + 1, cap, _, by omega, by go_num, rfl, ?_, hbel3⟩
                have e : (despL xs K (i + 1)).map (Value.int .i64) = (despL xs K i).map (Value.int .i64) ++ [.int .i64 D] := by
                  rw [HD.out]; simp [despL, List.range_succ]
                rw [e]
                exact hown3
              case measure => simp [intOf]; omega
            · have e : i = N := by omega
              subst e
              clear hlt
              go_wp2
              go_ret
              refine retI_of (n := i) ?_ hbel
              rw [despread, if_pos ⟨by omega, by omega, by rw [HL.out]; omega, HV.out⟩, Int.toNat_natCast, HL.out, Nat.mul_div_cancel_left _ (by omega : 0 < 8)]
              exact hown
      · have hmod : ¬ (n : Int) % 8 = 0 := by omega
        have H8 := hid h8
        clear h8
        go_enter Try.func27, Try.ntmps27
        go_wp2
        go_ret
        rw [desp_no (.inr (.inr (.inl (by rw [HL.out]; exact H8.out))))]
        exact retI_nil _ _
    · have HK := hid k1
      have hk8 : 8 ≤ k := by omega
      clear k1
      go_enter Try.func27, Try.ntmps27
      go_wp2
      go_ret
      rw [desp_no (.inr (.inl (by omega)))]
      exact retI_nil _ _
  · have hk0 : k < 0 := by omega
    clear k0
    go_enter Try.func27, Try.ntmps27
    go_wp2
    go_ret
    rw [desp_no (.inl hk0)]
    exact retI_nil _ _
end Go.Proofs.Ytgkkanamnhochaa
