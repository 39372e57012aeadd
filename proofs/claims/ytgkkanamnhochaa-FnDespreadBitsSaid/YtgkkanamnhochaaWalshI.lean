/-
  The program's WalshCode, walked: a code of half the length, followed by itself, or negated.
-/
import Derived.Test.YtgkkanamnhochaaWalsh
namespace Go.Proofs.Ytgkkanamnhochaa
open Go.RowKit
set_option linter.unusedVariables false

theorem walsh_n1 (k : Int) (w : World) (h0 : 0 ≤ k) (h1 : k < 1) : Calls Try.prog 38 #[.int .i64 k, .int .i64 1] w fun e w' => RetI 3 w e w' (walshL 0 k.toNat) := by
  go_enter Try.func38, Try.ntmps38
  go_wp2_with fail
  go_ret
  exact retI_of (n := 1) (World.ownsRow_lit w #[.int .i64 1] 1 (Nat.le_refl _) (by unfold maxLen; omega) rfl) ((Below.refl _ _).alloc (Nat.le_refl _) _)

set_option maxHeartbeats 1600000 in
theorem walsh_n2 (k : Int) (w : World) (h0 : 0 ≤ k) (h1 : k < 2) : Calls Try.prog 38 #[.int .i64 k, .int .i64 2] w fun e w' => RetI 3 w e w' (walshL 1 k.toNat) := by
  obtain ⟨i0, hi0, hz0, hz1, hz2⟩ := info_parts infoI
  have hmk : ∀ w, (Instr.makeSlice 22 (.int .i64 0) (.int .i64 2)).run Try.prog w = .ok (.slice (some ⟨w.heap.size, 0, none⟩) 0 2) (w.alloc (.cells (madeCells #[.int .i64 0] 2) 3)) :=
    fun w => run_make0 (P := Try.prog) 22 3 (.int .i64 0) 8 Try.underlying22 infoI rfl .i64 .i64 2 (by omega) (by omega) w
  have HMK := hid hmk
  clear hmk
  have hr0 : 0 ≤ (0 : Int) := by omega
  have hr1 : (0 : Int) < 1 := by omega
  have ek : (0 : Int).toNat = k.toNat % 2 ^ 0 := by have : (2 : Nat) ^ 0 = 1 := rfl; rw [this]; omega
  have EK := hid ek
  clear ek
  obtain ⟨s, hs⟩ : ∃ s : Int, s = (if 2 ^ 0 ≤ k.toNat then -1 else 1) := ⟨_, rfl⟩
  have hs1 : s = 1 ∨ s = -1 := by rw [hs]; split <;> simp
  have hs2 : (1 ≤ k → s = -1) ∧ (k < 1 → s = 1) := by
    have : (2 : Nat) ^ 0 = 1 := rfl
    rw [hs, this]
    exact ⟨fun h => if_pos (by omega), fun h => if_neg (by omega)⟩
  have HS := hid hs
  have HS1 := hid hs1
  have HS2 := hid hs2
  clear hs hs1 hs2
  have main : ∀ (hb : Bool), (hb = true → 1 ≤ k) → (hb = false → k < 1) → Calls Try.prog 38 #[.int .i64 k, .int .i64 2] w fun e w' => RetI 3 w e w' (walshL 1 k.toNat) := by
    intro hb hbt hbf
    have hmk := HMK.out
    cases hb
    · have hkm : k < 1 := hbf rfl
      clear hbt hbf
      have es : s = 1 := HS2.out.2 hkm
      subst es
      go_enter Try.func38, Try.ntmps38
      go_wp2_with fail
      refine (walsh_n1 ((0 : Int)) _ hr0 hr1).mono ?_
      rintro e w1 ⟨A1, n1, c1, rfl, hown, hb1⟩
      have hpm := walshL_pm 0 ((0 : Int).toNat)
      have hlen := OwnI.len hown
      rw [walshL_len] at hlen
      have hn1 : n1 = 1 := hlen.symm
      subst hn1
      have hr := OwnI.ri hown
      obtain ⟨V, hV⟩ : ∃ V, V = walshL 0 ((0 : Int).toNat) := ⟨_, rfl⟩
      rw [← hV] at hr hpm
      have HV := hid hV
      have HPM := hid hpm
      have HLV := hid (RI.len hr)
      clear hV hpm hown hlen
      have hb1s := hb1.size
      have hM : Blk (w1.alloc (.cells (madeCells #[.int .i64 0] 2) 3)) w1.heap.size 3 (madeCells #[.int .i64 0] 2) := Blk.new _ _ _
      have hown0 := own_made0 (w := w1) (base := w1.heap.size) 3 (.int .i64 0) 2 (Nat.le_refl _) (by unfold maxLen; omega)
      have hrA : RI (w1.alloc (.cells (madeCells #[.int .i64 0] 2) 3)) w1.heap.size A1 1 V := RV.alloc hr (Nat.le_refl _) _
      clear hM
      go_wp2_with (first | (at_builtin; refine wpList_all rfl _ _ _ rfl w1.heap.size 3 i0 _ 8 Try.underlying22 hi0 hz0 hz1 hz2 rfl (by omega) _ 0 2 [] rfl hown0 w1.heap.size A1 1 c1 (V.map (Value.int .i64)) rfl hrA (by intro u hu; obtain ⟨x, _, rfl⟩ := List.mem_map.1 hu; rfl) (by omega) (by omega) (by simp) ?_; intro A2 c2 w2 hown2 hgrow2))
      have hb2 : Below w1.heap.size w1 w2 := below_push ((Below.refl _ _).alloc (Nat.le_refl _) _) hown0 (Nat.le_refl _) (by simp) hgrow2
      have hr0' : RI w1 w1.heap.size A1 1 V := hr
      have hb2s := hb2.size
      simp only [List.nil_append, Nat.zero_add] at hown2
      try simp only [Nat.zero_add]
      clear hgrow2 hown0 hrA hr
      go_loopw [7, 30] (fun v i wr => ∃ (j cc : Nat) (AA : Option Addr), j ≤ 1 ∧ i = .int .i64 j ∧ v = .slice AA (1 + j) cc ∧ wr.ownsRow w1.heap.size 3 1 (.slice AA (1 + j) cc) (1 + j) ((V ++ (V.take j).map fun c => (1 : Int) * c).map (Value.int .i64)) ∧ Below w1.heap.size w1 wr)
        (fun _ i _ => 1 - (intOf i).toNat)
      case atStart => exact ⟨0, c2, A2, by omega, rfl, rfl, by simpa using hown2, hb2⟩
      case round =>
        obtain ⟨j, cc, AA, hj, rfl, rfl, hown, hbel⟩ := hrel
        have hsz := hbel.size
        by_cases hlt : j < 1
        · obtain ⟨pb, po, x, rfl, hpb, hx, hc⟩ := RI.at_ (RV.below hr0' hbel) hlt
          have hx1 := HPM.out x (List.mem_of_getElem? hx)
          have HX := hid hx
          have hxa : -1 ≤ x := by omega
          have hxb : x ≤ 1 := by omega
          clear hx hx1
          go_wp2_with (at_builtin; refine wpList_push rfl _ _ _ rfl w1.heap.size 3 i0 _ 8 Try.underlying22 hi0 hz0 hz1 hz2 rfl (by omega) _ _ AA (1 + j) cc _ rfl hown rfl rfl (by omega) (by omega) ?_; intro g' cap w3 hown3 hgrow3 hlies3 hlt3)
          have hbel3 := below_push hbel hown (Nat.le_refl _) (by omega) hgrow3
          go_roundw
          case rel =>
            refine ⟨j + 1, cap, _, by omega, by go_num, rfl, ?_, hbel3⟩
            have e : ∀ f : Int → Int, (V ++ (V.take (j + 1)).map f).map (Value.int .i64) = (V ++ (V.take j).map f).map (Value.int .i64) ++ [.int .i64 (f x)] := fun f => by rw [take_snoc _ _ _ HX.out]; simp
            rw [e]
            simpa [Nat.add_assoc] using hown3
          case measure => simp [intOf]; omega
        · have e : j = 1 := by omega
          subst e
          clear hlt
          go_wp2
          go_ret
          refine retI_of (n := 1 + 1) ?_ (Below.next hb1 hbel)
          have hown' := hown
          rw [List.take_of_length_le (by rw [HLV.out]; exact Nat.le_refl _)] at hown'
          have e1 : walshL 1 k.toNat = V ++ V.map fun c => (1 : Int) * c := by
            rw [HV.out, EK.out]
            show walshL 0 (k.toNat % 2 ^ 0) ++ _ = _
            rw [← HS.out]
          rw [e1]
          exact own_base hown' hb1s
    · have hkm : 1 ≤ k := hbt rfl
      clear hbt hbf
      have es : s = -1 := HS2.out.1 hkm
      subst es
      go_enter Try.func38, Try.ntmps38
      go_wp2_with fail
      refine (walsh_n1 ((0 : Int)) _ hr0 hr1).mono ?_
      rintro e w1 ⟨A1, n1, c1, rfl, hown, hb1⟩
      have hpm := walshL_pm 0 ((0 : Int).toNat)
      have hlen := OwnI.len hown
      rw [walshL_len] at hlen
      have hn1 : n1 = 1 := hlen.symm
      subst hn1
      have hr := OwnI.ri hown
      obtain ⟨V, hV⟩ : ∃ V, V = walshL 0 ((0 : Int).toNat) := ⟨_, rfl⟩
      rw [← hV] at hr hpm
      have HV := hid hV
      have HPM := hid hpm
      have HLV := hid (RI.len hr)
      clear hV hpm hown hlen
      have hb1s := hb1.size
      have hM : Blk (w1.alloc (.cells (madeCells #[.int .i64 0] 2) 3)) w1.heap.size 3 (madeCells #[.int .i64 0] 2) := Blk.new _ _ _
      have hown0 := own_made0 (w := w1) (base := w1.heap.size) 3 (.int .i64 0) 2 (Nat.le_refl _) (by unfold maxLen; omega)
      have hrA : RI (w1.alloc (.cells (madeCells #[.int .i64 0] 2) 3)) w1.heap.size A1 1 V := RV.alloc hr (Nat.le_refl _) _
      clear hM
      go_wp2_with (first | (at_builtin; refine wpList_all rfl _ _ _ rfl w1.heap.size 3 i0 _ 8 Try.underlying22 hi0 hz0 hz1 hz2 rfl (by omega) _ 0 2 [] rfl hown0 w1.heap.size A1 1 c1 (V.map (Value.int .i64)) rfl hrA (by intro u hu; obtain ⟨x, _, rfl⟩ := List.mem_map.1 hu; rfl) (by omega) (by omega) (by simp) ?_; intro A2 c2 w2 hown2 hgrow2))
      have hb2 : Below w1.heap.size w1 w2 := below_push ((Below.refl _ _).alloc (Nat.le_refl _) _) hown0 (Nat.le_refl _) (by simp) hgrow2
      have hr0' : RI w1 w1.heap.size A1 1 V := hr
      have hb2s := hb2.size
      simp only [List.nil_append, Nat.zero_add] at hown2
      try simp only [Nat.zero_add]
      clear hgrow2 hown0 hrA hr
      go_loopw [7, 30] (fun v i wr => ∃ (j cc : Nat) (AA : Option Addr), j ≤ 1 ∧ i = .int .i64 j ∧ v = .slice AA (1 + j) cc ∧ wr.ownsRow w1.heap.size 3 1 (.slice AA (1 + j) cc) (1 + j) ((V ++ (V.take j).map fun c => (-1 : Int) * c).map (Value.int .i64)) ∧ Below w1.heap.size w1 wr)
        (fun _ i _ => 1 - (intOf i).toNat)
      case atStart => exact ⟨0, c2, A2, by omega, rfl, rfl, by simpa using hown2, hb2⟩
      case round =>
        obtain ⟨j, cc, AA, hj, rfl, rfl, hown, hbel⟩ := hrel
        have hsz := hbel.size
        by_cases hlt : j < 1
        · obtain ⟨pb, po, x, rfl, hpb, hx, hc⟩ := RI.at_ (RV.below hr0' hbel) hlt
          have hx1 := HPM.out x (List.mem_of_getElem? hx)
          have HX := hid hx
          have hxa : -1 ≤ x := by omega
          have hxb : x ≤ 1 := by omega
          clear hx hx1
          go_wp2_with (at_builtin; refine wpList_push rfl _ _ _ rfl w1.heap.size 3 i0 _ 8 Try.underlying22 hi0 hz0 hz1 hz2 rfl (by omega) _ _ AA (1 + j) cc _ rfl hown rfl rfl (by omega) (by omega) ?_; intro g' cap w3 hown3 hgrow3 hlies3 hlt3)
          have hbel3 := below_push hbel hown (Nat.le_refl _) (by omega) hgrow3
          go_roundw
          case rel =>
            refine ⟨j + 1, cap, _, by omega, by go_num, rfl, ?_, hbel3⟩
            have e : ∀ f : Int → Int, (V ++ (V.take (j + 1)).map f).map (Value.int .i64) = (V ++ (V.take j).map f).map (Value.int .i64) ++ [.int .i64 (f x)] := fun f => by rw [take_snoc _ _ _ HX.out]; simp
            rw [e]
            simpa [Nat.add_assoc] using hown3
          case measure => simp [intOf]; omega
        · have e : j = 1 := by omega
          subst e
          clear hlt
          go_wp2
          go_ret
          refine retI_of (n := 1 + 1) ?_ (Below.next hb1 hbel)
          have hown' := hown
          rw [List.take_of_length_le (by rw [HLV.out]; exact Nat.le_refl _)] at hown'
          have e1 : walshL 1 k.toNat = V ++ V.map fun c => (-1 : Int) * c := by
            rw [HV.out, EK.out]
            show walshL 0 (k.toNat % 2 ^ 0) ++ _ = _
            rw [← HS.out]
          rw [e1]
          exact own_base hown' hb1s
  rcases Int.lt_or_le k 1 with h | h
  · exact main false (fun h => by cases h) (fun _ => h)
  · exact main true (fun _ => h) (fun h => by cases h)

set_option maxHeartbeats 1600000 in
theorem walsh_n4 (k : Int) (w : World) (h0 : 0 ≤ k) (h1 : k < 4) : Calls Try.prog 38 #[.int .i64 k, .int .i64 4] w fun e w' => RetI 3 w e w' (walshL 2 k.toNat) := by
  obtain ⟨i0, hi0, hz0, hz1, hz2⟩ := info_parts infoI
  have hmk : ∀ w, (Instr.makeSlice 22 (.int .i64 0) (.int .i64 4)).run Try.prog w = .ok (.slice (some ⟨w.heap.size, 0, none⟩) 0 4) (w.alloc (.cells (madeCells #[.int .i64 0] 4) 3)) :=
    fun w => run_make0 (P := Try.prog) 22 3 (.int .i64 0) 8 Try.underlying22 infoI rfl .i64 .i64 4 (by omega) (by omega) w
  have HMK := hid hmk
  clear hmk
  have hr0 : 0 ≤ k % 2 := by omega
  have hr1 : k % 2 < 2 := by omega
  have ek : (k % 2).toNat = k.toNat % 2 ^ 1 := by have : (2 : Nat) ^ 1 = 2 := rfl; rw [this]; omega
  have EK := hid ek
  clear ek
  obtain ⟨s, hs⟩ : ∃ s : Int, s = (if 2 ^ 1 ≤ k.toNat then -1 else 1) := ⟨_, rfl⟩
  have hs1 : s = 1 ∨ s = -1 := by rw [hs]; split <;> simp
  have hs2 : (2 ≤ k → s = -1) ∧ (k < 2 → s = 1) := by
    have : (2 : Nat) ^ 1 = 2 := rfl
    rw [hs, this]
    exact ⟨fun h => if_pos (by omega), fun h => if_neg (by omega)⟩
  have HS := hid hs
  have HS1 := hid hs1
  have HS2 := hid hs2
  clear hs hs1 hs2
  have main : ∀ (hb : Bool), (hb = true → 2 ≤ k) → (hb = false → k < 2) → Calls Try.prog 38 #[.int .i64 k, .int .i64 4] w fun e w' => RetI 3 w e w' (walshL 2 k.toNat) := by
    intro hb hbt hbf
    have hmk := HMK.out
    cases hb
    · have hkm : k < 2 := hbf rfl
      clear hbt hbf
      have es : s = 1 := HS2.out.2 hkm
      subst es
      go_enter Try.func38, Try.ntmps38
      go_wp2_with fail
      refine (walsh_n2 (k % 2) _ hr0 hr1).mono ?_
      rintro e w1 ⟨A1, n1, c1, rfl, hown, hb1⟩
      have hpm := walshL_pm 1 ((k % 2).toNat)
      have hlen := OwnI.len hown
      rw [walshL_len] at hlen
      have hn1 : n1 = 2 := hlen.symm
      subst hn1
      have hr := OwnI.ri hown
      obtain ⟨V, hV⟩ : ∃ V, V = walshL 1 ((k % 2).toNat) := ⟨_, rfl⟩
      rw [← hV] at hr hpm
      have HV := hid hV
      have HPM := hid hpm
      have HLV := hid (RI.len hr)
      clear hV hpm hown hlen
      have hb1s := hb1.size
      have hM : Blk (w1.alloc (.cells (madeCells #[.int .i64 0] 4) 3)) w1.heap.size 3 (madeCells #[.int .i64 0] 4) := Blk.new _ _ _
      have hown0 := own_made0 (w := w1) (base := w1.heap.size) 3 (.int .i64 0) 4 (Nat.le_refl _) (by unfold maxLen; omega)
      have hrA : RI (w1.alloc (.cells (madeCells #[.int .i64 0] 4) 3)) w1.heap.size A1 2 V := RV.alloc hr (Nat.le_refl _) _
      clear hM
      go_wp2_with (first | (at_builtin; refine wpList_all rfl _ _ _ rfl w1.heap.size 3 i0 _ 8 Try.underlying22 hi0 hz0 hz1 hz2 rfl (by omega) _ 0 4 [] rfl hown0 w1.heap.size A1 2 c1 (V.map (Value.int .i64)) rfl hrA (by intro u hu; obtain ⟨x, _, rfl⟩ := List.mem_map.1 hu; rfl) (by omega) (by omega) (by simp) ?_; intro A2 c2 w2 hown2 hgrow2))
      have hb2 : Below w1.heap.size w1 w2 := below_push ((Below.refl _ _).alloc (Nat.le_refl _) _) hown0 (Nat.le_refl _) (by simp) hgrow2
      have hr0' : RI w1 w1.heap.size A1 2 V := hr
      have hb2s := hb2.size
      simp only [List.nil_append, Nat.zero_add] at hown2
      try simp only [Nat.zero_add]
      clear hgrow2 hown0 hrA hr
      go_loopw [7, 30] (fun v i wr => ∃ (j cc : Nat) (AA : Option Addr), j ≤ 2 ∧ i = .int .i64 j ∧ v = .slice AA (2 + j) cc ∧ wr.ownsRow w1.heap.size 3 1 (.slice AA (2 + j) cc) (2 + j) ((V ++ (V.take j).map fun c => (1 : Int) * c).map (Value.int .i64)) ∧ Below w1.heap.size w1 wr)
        (fun _ i _ => 2 - (intOf i).toNat)
      case atStart => exact ⟨0, c2, A2, by omega, rfl, rfl, by simpa using hown2, hb2⟩
      case round =>
        obtain ⟨j, cc, AA, hj, rfl, rfl, hown, hbel⟩ := hrel
        have hsz := hbel.size
        by_cases hlt : j < 2
        · obtain ⟨pb, po, x, rfl, hpb, hx, hc⟩ := RI.at_ (RV.below hr0' hbel) hlt
          have hx1 := HPM.out x (List.mem_of_getElem? hx)
          have HX := hid hx
          have hxa : -1 ≤ x := by omega
          have hxb : x ≤ 1 := by omega
          clear hx hx1
          go_wp2_with (at_builtin; refine wpList_push rfl _ _ _ rfl w1.heap.size 3 i0 _ 8 Try.underlying22 hi0 hz0 hz1 hz2 rfl (by omega) _ _ AA (2 + j) cc _ rfl hown rfl rfl (by omega) (by omega) ?_; intro g' cap w3 hown3 hgrow3 hlies3 hlt3)
          have hbel3 := below_push hbel hown (Nat.le_refl _) (by omega) hgrow3
          go_roundw
          case rel =>
            refine ⟨j + 1, cap, _, by omega, by go_num, rfl, ?_, hbel3⟩
            have e : ∀ f : Int → Int, (V ++ (V.take (j + 1)).map f).map (Value.int .i64) = (V ++ (V.take j).map f).map (Value.int .i64) ++ [.int .i64 (f x)] := fun f => by rw [take_snoc _ _ _ HX.out]; simp
            rw [e]
            simpa [Nat.add_assoc] using hown3
          case measure => simp [intOf]; omega
        · have e : j = 2 := by omega
          subst e
          clear hlt
          go_wp2
          go_ret
          refine retI_of (n := 2 + 2) ?_ (Below.next hb1 hbel)
          have hown' := hown
          rw [List.take_of_length_le (by rw [HLV.out]; exact Nat.le_refl _)] at hown'
          have e1 : walshL 2 k.toNat = V ++ V.map fun c => (1 : Int) * c := by
            rw [HV.out, EK.out]
            show walshL 1 (k.toNat % 2 ^ 1) ++ _ = _
            rw [← HS.out]
          rw [e1]
          exact own_base hown' hb1s
    · have hkm : 2 ≤ k := hbt rfl
      clear hbt hbf
      have es : s = -1 := HS2.out.1 hkm
      subst es
      go_enter Try.func38, Try.ntmps38
      go_wp2_with fail
      refine (walsh_n2 (k % 2) _ hr0 hr1).mono ?_
      rintro e w1 ⟨A1, n1, c1, rfl, hown, hb1⟩
      have hpm := walshL_pm 1 ((k % 2).toNat)
      have hlen := OwnI.len hown
      rw [walshL_len] at hlen
      have hn1 : n1 = 2 := hlen.symm
      subst hn1
      have hr := OwnI.ri hown
      obtain ⟨V, hV⟩ : ∃ V, V = walshL 1 ((k % 2).toNat) := ⟨_, rfl⟩
      rw [← hV] at hr hpm
      have HV := hid hV
      have HPM := hid hpm
      have HLV := hid (RI.len hr)
      clear hV hpm hown hlen
      have hb1s := hb1.size
      have hM : Blk (w1.alloc (.cells (madeCells #[.int .i64 0] 4) 3)) w1.heap.size 3 (madeCells #[.int .i64 0] 4) := Blk.new _ _ _
      have hown0 := own_made0 (w := w1) (base := w1.heap.size) 3 (.int .i64 0) 4 (Nat.le_refl _) (by unfold maxLen; omega)
      have hrA : RI (w1.alloc (.cells (madeCells #[.int .i64 0] 4) 3)) w1.heap.size A1 2 V := RV.alloc hr (Nat.le_refl _) _
      clear hM
      go_wp2_with (first | (at_builtin; refine wpList_all rfl _ _ _ rfl w1.heap.size 3 i0 _ 8 Try.underlying22 hi0 hz0 hz1 hz2 rfl (by omega) _ 0 4 [] rfl hown0 w1.heap.size A1 2 c1 (V.map (Value.int .i64)) rfl hrA (by intro u hu; obtain ⟨x, _, rfl⟩ := List.mem_map.1 hu; rfl) (by omega) (by omega) (by simp) ?_; intro A2 c2 w2 hown2 hgrow2))
      have hb2 : Below w1.heap.size w1 w2 := below_push ((Below.refl _ _).alloc (Nat.le_refl _) _) hown0 (Nat.le_refl _) (by simp) hgrow2
      have hr0' : RI w1 w1.heap.size A1 2 V := hr
      have hb2s := hb2.size
      simp only [List.nil_append, Nat.zero_add] at hown2
      try simp only [Nat.zero_add]
      clear hgrow2 hown0 hrA hr
      go_loopw [7, 30] (fun v i wr => ∃ (j cc : Nat) (AA : Option Addr), j ≤ 2 ∧ i = .int .i64 j ∧ v = .slice AA (2 + j) cc ∧ wr.ownsRow w1.heap.size 3 1 (.slice AA (2 + j) cc) (2 + j) ((V ++ (V.take j).map fun c => (-1 : Int) * c).map (Value.int .i64)) ∧ Below w1.heap.size w1 wr)
        (fun _ i _ => 2 - (intOf i).toNat)
      case atStart => exact ⟨0, c2, A2, by omega, rfl, rfl, by simpa using hown2, hb2⟩
      case round =>
        obtain ⟨j, cc, AA, hj, rfl, rfl, hown, hbel⟩ := hrel
        have hsz := hbel.size
        by_cases hlt : j < 2
        · obtain ⟨pb, po, x, rfl, hpb, hx, hc⟩ := RI.at_ (RV.below hr0' hbel) hlt
          have hx1 := HPM.out x (List.mem_of_getElem? hx)
          have HX := hid hx
          have hxa : -1 ≤ x := by omega
          have hxb : x ≤ 1 := by omega
          clear hx hx1
          go_wp2_with (at_builtin; refine wpList_push rfl _ _ _ rfl w1.heap.size 3 i0 _ 8 Try.underlying22 hi0 hz0 hz1 hz2 rfl (by omega) _ _ AA (2 + j) cc _ rfl hown rfl rfl (by omega) (by omega) ?_; intro g' cap w3 hown3 hgrow3 hlies3 hlt3)
          have hbel3 := below_push hbel hown (Nat.le_refl _) (by omega) hgrow3
          go_roundw
          case rel =>
            refine ⟨j + 1, cap, _, by omega, by go_num, rfl, ?_, hbel3⟩
            have e : ∀ f : Int → Int, (V ++ (V.take (j + 1)).map f).map (Value.int .i64) = (V ++ (V.take j).map f).map (Value.int .i64) ++ [.int .i64 (f x)] := fun f => by rw [take_snoc _ _ _ HX.out]; simp
            rw [e]
            simpa [Nat.add_assoc] using hown3
          case measure => simp [intOf]; omega
        · have e : j = 2 := by omega
          subst e
          clear hlt
          go_wp2
          go_ret
          refine retI_of (n := 2 + 2) ?_ (Below.next hb1 hbel)
          have hown' := hown
          rw [List.take_of_length_le (by rw [HLV.out]; exact Nat.le_refl _)] at hown'
          have e1 : walshL 2 k.toNat = V ++ V.map fun c => (-1 : Int) * c := by
            rw [HV.out, EK.out]
            show walshL 1 (k.toNat % 2 ^ 1) ++ _ = _
            rw [← HS.out]
          rw [e1]
          exact own_base hown' hb1s
  rcases Int.lt_or_le k 2 with h | h
  · exact main false (fun h => by cases h) (fun _ => h)
  · exact main true (fun _ => h) (fun h => by cases h)

set_option maxHeartbeats 1600000 in
theorem walsh_n8 (k : Int) (w : World) (h0 : 0 ≤ k) (h1 : k < 8) : Calls Try.prog 38 #[.int .i64 k, .int .i64 8] w fun e w' => RetI 3 w e w' (walshL 3 k.toNat) := by
  obtain ⟨i0, hi0, hz0, hz1, hz2⟩ := info_parts infoI
  have hmk : ∀ w, (Instr.makeSlice 22 (.int .i64 0) (.int .i64 8)).run Try.prog w = .ok (.slice (some ⟨w.heap.size, 0, none⟩) 0 8) (w.alloc (.cells (madeCells #[.int .i64 0] 8) 3)) :=
    fun w => run_make0 (P := Try.prog) 22 3 (.int .i64 0) 8 Try.underlying22 infoI rfl .i64 .i64 8 (by omega) (by omega) w
  have HMK := hid hmk
  clear hmk
  have hr0 : 0 ≤ k % 4 := by omega
  have hr1 : k % 4 < 4 := by omega
  have ek : (k % 4).toNat = k.toNat % 2 ^ 2 := by have : (2 : Nat) ^ 2 = 4 := rfl; rw [this]; omega
  have EK := hid ek
  clear ek
  obtain ⟨s, hs⟩ : ∃ s : Int, s = (if 2 ^ 2 ≤ k.toNat then -1 else 1) := ⟨_, rfl⟩
  have hs1 : s = 1 ∨ s = -1 := by rw [hs]; split <;> simp
  have hs2 : (4 ≤ k → s = -1) ∧ (k < 4 → s = 1) := by
    have : (2 : Nat) ^ 2 = 4 := rfl
    rw [hs, this]
    exact ⟨fun h => if_pos (by omega), fun h => if_neg (by omega)⟩
  have HS := hid hs
  have HS1 := hid hs1
  have HS2 := hid hs2
  clear hs hs1 hs2
  have main : ∀ (hb : Bool), (hb = true → 4 ≤ k) → (hb = false → k < 4) → Calls Try.prog 38 #[.int .i64 k, .int .i64 8] w fun e w' => RetI 3 w e w' (walshL 3 k.toNat) := by
    intro hb hbt hbf
    have hmk := HMK.out
    cases hb
    · have hkm : k < 4 := hbf rfl
      clear hbt hbf
      have es : s = 1 := HS2.out.2 hkm
      subst es
      go_enter Try.func38, Try.ntmps38
      go_wp2_with fail
      refine (walsh_n4 (k % 4) _ hr0 hr1).mono ?_
      rintro e w1 ⟨A1, n1, c1, rfl, hown, hb1⟩
      have hpm := walshL_pm 2 ((k % 4).toNat)
      have hlen := OwnI.len hown
      rw [walshL_len] at hlen
      have hn1 : n1 = 4 := hlen.symm
      subst hn1
      have hr := OwnI.ri hown
      obtain ⟨V, hV⟩ : ∃ V, V = walshL 2 ((k % 4).toNat) := ⟨_, rfl⟩
      rw [← hV] at hr hpm
      have HV := hid hV
      have HPM := hid hpm
      have HLV := hid (RI.len hr)
      clear hV hpm hown hlen
      have hb1s := hb1.size
      have hM : Blk (w1.alloc (.cells (madeCells #[.int .i64 0] 8) 3)) w1.heap.size 3 (madeCells #[.int .i64 0] 8) := Blk.new _ _ _
      have hown0 := own_made0 (w := w1) (base := w1.heap.size) 3 (.int .i64 0) 8 (Nat.le_refl _) (by unfold maxLen; omega)
      have hrA : RI (w1.alloc (.cells (madeCells #[.int .i64 0] 8) 3)) w1.heap.size A1 4 V := RV.alloc hr (Nat.le_refl _) _
      clear hM
      go_wp2_with (first | (at_builtin; refine wpList_all rfl _ _ _ rfl w1.heap.size 3 i0 _ 8 Try.underlying22 hi0 hz0 hz1 hz2 rfl (by omega) _ 0 8 [] rfl hown0 w1.heap.size A1 4 c1 (V.map (Value.int .i64)) rfl hrA (by intro u hu; obtain ⟨x, _, rfl⟩ := List.mem_map.1 hu; rfl) (by omega) (by omega) (by simp) ?_; intro A2 c2 w2 hown2 hgrow2))
      have hb2 : Below w1.heap.size w1 w2 := below_push ((Below.refl _ _).alloc (Nat.le_refl _) _) hown0 (Nat.le_refl _) (by simp) hgrow2
      have hr0' : RI w1 w1.heap.size A1 4 V := hr
      have hb2s := hb2.size
      simp only [List.nil_append, Nat.zero_add] at hown2
      try simp only [Nat.zero_add]
      clear hgrow2 hown0 hrA hr
      go_loopw [7, 30] (fun v i wr => ∃ (j cc : Nat) (AA : Option Addr), j ≤ 4 ∧ i = .int .i64 j ∧ v = .slice AA (4 + j) cc ∧ wr.ownsRow w1.heap.size 3 1 (.slice AA (4 + j) cc) (4 + j) ((V ++ (V.take j).map fun c => (1 : Int) * c).map (Value.int .i64)) ∧ Below w1.heap.size w1 wr)
        (fun _ i _ => 4 - (intOf i).toNat)
      case atStart => exact ⟨0, c2, A2, by omega, rfl, rfl, by simpa using hown2, hb2⟩
      case round =>
        obtain ⟨j, cc, AA, hj, rfl, rfl, hown, hbel⟩ := hrel
        have hsz := hbel.size
        by_cases hlt : j < 4
        · obtain ⟨pb, po, x, rfl, hpb, hx, hc⟩ := RI.at_ (RV.below hr0' hbel) hlt
          have hx1 := HPM.out x (List.mem_of_getElem? hx)
          have HX := hid hx
          have hxa : -1 ≤ x := by omega
          have hxb : x ≤ 1 := by omega
          clear hx hx1
          go_wp2_with (at_builtin; refine wpList_push rfl _ _ _ rfl w1.heap.size 3 i0 _ 8 Try.underlying22 hi0 hz0 hz1 hz2 rfl (by omega) _ _ AA (4 + j) cc _ rfl hown rfl rfl (by omega) (by omega) ?_; intro g' cap w3 hown3 hgrow3 hlies3 hlt3)
          have hbel3 := below_push hbel hown (Nat.le_refl _) (by omega) hgrow3
          go_roundw
          case rel =>
            refine ⟨j + 1, cap, _, by omega, by go_num, rfl, ?_, hbel3⟩
            have e : ∀ f : Int → Int, (V ++ (V.take (j + 1)).map f).map (Value.int .i64) = (V ++ (V.take j).map f).map (Value.int .i64) ++ [.int .i64 (f x)] := fun f => by rw [take_snoc _ _ _ HX.out]; simp
            rw [e]
            simpa [Nat.add_assoc] using hown3
          case measure => simp [intOf]; omega
        · have e : j = 4 := by omega
          subst e
          clear hlt
          go_wp2
          go_ret
          refine retI_of (n := 4 + 4) ?_ (Below.next hb1 hbel)
          have hown' := hown
          rw [List.take_of_length_le (by rw [HLV.out]; exact Nat.le_refl _)] at hown'
          have e1 : walshL 3 k.toNat = V ++ V.map fun c => (1 : Int) * c := by
            rw [HV.out, EK.out]
            show walshL 2 (k.toNat % 2 ^ 2) ++ _ = _
            rw [← HS.out]
          rw [e1]
          exact own_base hown' hb1s
    · have hkm : 4 ≤ k := hbt rfl
      clear hbt hbf
      have es : s = -1 := HS2.out.1 hkm
      subst es
      go_enter Try.func38, Try.ntmps38
      go_wp2_with fail
      refine (walsh_n4 (k % 4) _ hr0 hr1).mono ?_
      rintro e w1 ⟨A1, n1, c1, rfl, hown, hb1⟩
      have hpm := walshL_pm 2 ((k % 4).toNat)
      have hlen := OwnI.len hown
      rw [walshL_len] at hlen
      have hn1 : n1 = 4 := hlen.symm
      subst hn1
      have hr := OwnI.ri hown
      obtain ⟨V, hV⟩ : ∃ V, V = walshL 2 ((k % 4).toNat) := ⟨_, rfl⟩
      rw [← hV] at hr hpm
      have HV := hid hV
      have HPM := hid hpm
      have HLV := hid (RI.len hr)
      clear hV hpm hown hlen
      have hb1s := hb1.size
      have hM : Blk (w1.alloc (.cells (madeCells #[.int .i64 0] 8) 3)) w1.heap.size 3 (madeCells #[.int .i64 0] 8) := Blk.new _ _ _
      have hown0 := own_made0 (w := w1) (base := w1.heap.size) 3 (.int .i64 0) 8 (Nat.le_refl _) (by unfold maxLen; omega)
      have hrA : RI (w1.alloc (.cells (madeCells #[.int .i64 0] 8) 3)) w1.heap.size A1 4 V := RV.alloc hr (Nat.le_refl _) _
      clear hM
      go_wp2_with (first | (at_builtin; refine wpList_all rfl _ _ _ rfl w1.heap.size 3 i0 _ 8 Try.underlying22 hi0 hz0 hz1 hz2 rfl (by omega) _ 0 8 [] rfl hown0 w1.heap.size A1 4 c1 (V.map (Value.int .i64)) rfl hrA (by intro u hu; obtain ⟨x, _, rfl⟩ := List.mem_map.1 hu; rfl) (by omega) (by omega) (by simp) ?_; intro A2 c2 w2 hown2 hgrow2))
      have hb2 : Below w1.heap.size w1 w2 := below_push ((Below.refl _ _).alloc (Nat.le_refl _) _) hown0 (Nat.le_refl _) (by simp) hgrow2
      have hr0' : RI w1 w1.heap.size A1 4 V := hr
      have hb2s := hb2.size
      simp only [List.nil_append, Nat.zero_add] at hown2
      try simp only [Nat.zero_add]
      clear hgrow2 hown0 hrA hr
      go_loopw [7, 30] (fun v i wr => ∃ (j cc : Nat) (AA : Option Addr), j ≤ 4 ∧ i = .int .i64 j ∧ v = .slice AA (4 + j) cc ∧ wr.ownsRow w1.heap.size 3 1 (.slice AA (4 + j) cc) (4 + j) ((V ++ (V.take j).map fun c => (-1 : Int) * c).map (Value.int .i64)) ∧ Below w1.heap.size w1 wr)
        (fun _ i _ => 4 - (intOf i).toNat)
      case atStart => exact ⟨0, c2, A2, by omega, rfl, rfl, by simpa using hown2, hb2⟩
      case round =>
        obtain ⟨j, cc, AA, hj, rfl, rfl, hown, hbel⟩ := hrel
        have hsz := hbel.size
        by_cases hlt : j < 4
        · obtain ⟨pb, po, x, rfl, hpb, hx, hc⟩ := RI.at_ (RV.below hr0' hbel) hlt
          have hx1 := HPM.out x (List.mem_of_getElem? hx)
          have HX := hid hx
          have hxa : -1 ≤ x := by omega
          have hxb : x ≤ 1 := by omega
          clear hx hx1
          go_wp2_with (at_builtin; refine wpList_push rfl _ _ _ rfl w1.heap.size 3 i0 _ 8 Try.underlying22 hi0 hz0 hz1 hz2 rfl (by omega) _ _ AA (4 + j) cc _ rfl hown rfl rfl (by omega) (by omega) ?_; intro g' cap w3 hown3 hgrow3 hlies3 hlt3)
          have hbel3 := below_push hbel hown (Nat.le_refl _) (by omega) hgrow3
          go_roundw
          case rel =>
            refine ⟨j + 1, cap, _, by omega, by go_num, rfl, ?_, hbel3⟩
            have e : ∀ f : Int → Int, (V ++ (V.take (j + 1)).map f).map (Value.int .i64) = (V ++ (V.take j).map f).map (Value.int .i64) ++ [.int .i64 (f x)] := fun f => by rw [take_snoc _ _ _ HX.out]; simp
            rw [e]
            simpa [Nat.add_assoc] using hown3
          case measure => simp [intOf]; omega
        · have e : j = 4 := by omega
          subst e
          clear hlt
          go_wp2
          go_ret
          refine retI_of (n := 4 + 4) ?_ (Below.next hb1 hbel)
          have hown' := hown
          rw [List.take_of_length_le (by rw [HLV.out]; exact Nat.le_refl _)] at hown'
          have e1 : walshL 3 k.toNat = V ++ V.map fun c => (-1 : Int) * c := by
            rw [HV.out, EK.out]
            show walshL 2 (k.toNat % 2 ^ 2) ++ _ = _
            rw [← HS.out]
          rw [e1]
          exact own_base hown' hb1s
  rcases Int.lt_or_le k 4 with h | h
  · exact main false (fun h => by cases h) (fun _ => h)
  · exact main true (fun _ => h) (fun h => by cases h)

theorem walshCode_impl (k : Int) (w : World) : Calls Try.prog 15 #[.int .i64 k] w fun e w' => RetI 3 w e w' (walshCode k) := by
  by_cases h0 : 0 ≤ k
  · by_cases h1 : k < 8
    · go_enter Try.func15, Try.ntmps15
      go_wp2_with fail
      refine (walsh_n8 k _ h0 h1).mono ?_
      rintro e w1 ⟨A1, n1, c1, rfl, hown, hb1⟩
      have HH := hid (And.intro hown hb1)
      clear hown hb1
      go_wp2
      go_ret
      refine ⟨A1, n1, c1, rfl, ?_, HH.out.2⟩
      rw [walshCode, if_pos (by omega), ← walshL_three _ (by omega)]
      exact HH.out.1
    · go_enter Try.func15, Try.ntmps15
      go_wp2
      go_ret
      rw [walshCode, if_neg (by omega)]
      exact retI_nil _ _
  · go_enter Try.func15, Try.ntmps15
    go_wp2
    go_ret
    rw [walshCode, if_neg (by omega)]
    exact retI_nil _ _
end Go.Proofs.Ytgkkanamnhochaa
