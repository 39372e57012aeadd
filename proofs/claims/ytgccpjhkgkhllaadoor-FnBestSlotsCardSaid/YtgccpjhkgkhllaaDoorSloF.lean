/-
  The program's sets of stations, walked: conflictSets.
-/
import Derived.Test.YtgccpjhkgkhllaaDoorSloE
import Derived.Test.YtgccpjhkgkhllaaDoorRegL
namespace Go.Proofs.YtgccpjhkgkhllaaDoor
open Go.RowKit
set_option linter.unusedVariables false

theorem infoSet : (Tryd.prog.info? 45).map (fun i => (i.zero, i.size, i.bytes)) = some (some (.int .u64 0), 1, 8) := by kernel_rfl
/-- A set as a value. -/
def fU (x : Nat) : Value := .int .u64 (x : Int)
/-- What is known while one station is laid into a set. -/
def SetS (w1 : World) (g k V : Nat) (ys : List Nat) (b8 : Bool) (W : World) : Prop :=
  Below w1.heap.size w1 W ∧ (b8 = false → Blk W g 45 (ys.map fU).toArray) ∧ (b8 = true → Blk W g 45 ((ys.set k V).map fU).toArray)
/-- The sets of all stations. -/
def setsL (rows : List (List Bool)) (n : Nat) : List Nat := (List.range n).map fun i => rowN rows i n
set_option maxRecDepth 100000 in
set_option maxHeartbeats 3200000 in
theorem conflictSets_impl (A : Option Addr) (n c B : Nat) (rows : List (List Bool)) (w1 : World) (h : RTT w1 B A n rows) (hB : B ≤ w1.heap.size) (hsq : ∀ r ∈ rows, r.length = n) (hn : n ≤ 10) :
    Calls Tryd.prog 31 #[.slice A n c] w1 fun e w' => e = .returned (.slice (some ⟨w1.heap.size, 0, none⟩) n n) ∧ Blk w' w1.heap.size 45 ((setsL rows n).map fU).toArray ∧ Below w1.heap.size w1 w' := by
  have hmk := run_make_row' (P := Tryd.prog) 41 45 (.int .u64 0) 8 Tryd.underlying41 infoSet rfl .i64 .i64 n (by omega) (by omega)
  obtain ⟨g, hg⟩ : ∃ g, w1.heap.size = g := ⟨_, rfl⟩
  have hb0 : Blk (w1.alloc (.cells (madeCells #[.int .u64 0] n) 45)) g 45 ((List.replicate n 0).map fU).toArray := by rw [← hg]; exact blk_made w1 45 n 0 rfl
  have hbel0 : Below w1.heap.size w1 (w1.alloc (.cells (madeCells #[.int .u64 0] n) 45)) := (Below.refl _ _).alloc (Nat.le_refl _) _
  go_enter Tryd.func31, Tryd.ntmps31
  go_wp2
  clear hmk
  go_loopw [13] (fun i wr => ∃ (k : Nat) (ys : List Nat), k ≤ n ∧ i = .int .i64 k ∧ Blk wr g 45 (ys.map fU).toArray ∧ Below w1.heap.size w1 wr ∧ Hid (ys.length = n) ∧ Hid (∀ i, i < n → ys[i]? = some (if i < k then rowN rows i n else 0))) (fun i _ => n - (intOf i).toNat)
  case atStart => exact ⟨0, List.replicate n 0, Nat.zero_le _, rfl, hb0, hbel0, hid (by simp), hid (fun i hi => by simp [hi])⟩
  case round =>
    obtain ⟨k, ys, hk, rfl, hblk, hbel, HYL, HY⟩ := hrel
    by_cases hlt : k < n
    · obtain ⟨b, o, A', n1, c', r, rfl, hb, hx, hcl, hr, _, _⟩ := RTT.at_ (RVV.below h (hbel.mono hB)) hlt
      have hn1 : n1 = n := by rw [← RT.len hr]; exact hsq r (List.mem_of_getElem? hx)
      subst hn1
      have HX := hid hx
      have hbw : b < w1.heap.size := by omega
      obtain ⟨b', o', eA', hb', hcr⟩ := hr.2 (by omega)
      subst eA'
      have HH0 := hid (And.intro hblk hbel)
      have hbl2 := hblk
      have HR := hid (show RT w1 B (some ⟨b', o', none⟩) n1 r from by
        have := RVV.at_ h hlt
        exact ⟨hr.1, fun hn => ⟨b', o', rfl, hb', fun j u hu => ((hbel.cell (p := ⟨b', o' + j, none⟩) (by show b' < w1.heap.size; omega)).symm.trans (hcr j u hu))⟩⟩)
      obtain ⟨wo, hwo⟩ : ∃ wo : World, wo = wr := ⟨_, rfl⟩
      rw [← hwo] at HH0 hcl
      clear hblk hbel hx hr hcr hb0 hbel0 hbl2
      subst hwo
      go_wp2
      go_loopw [20] (fun jv wr => ∃ (j : Nat) (ys : List Nat), j ≤ n1 ∧ jv = .int .i64 j ∧ Blk wr g 45 (ys.map fU).toArray ∧ Below w1.heap.size w1 wr ∧ Hid (ys.length = n1) ∧ Hid (∀ i, i < n1 → ys[i]? = some (if i < k then rowN rows i n1 else if i = k then rowN rows k j else 0))) (fun jv _ => n1 - (intOf jv).toNat)
      case atStart => exact ⟨0, ys, Nat.zero_le _, rfl, HH0.out.1, HH0.out.2, HYL, hid (fun i hi => by rw [HY.out i hi]; simp only [rowN]; split <;> (try split) <;> rfl)⟩
      case round =>
        obtain ⟨j, ys, hj, rfl, hblk, hbel, HYL, HY⟩ := hrel
        by_cases hjt : j < n1
        · obtain ⟨b3, o3, x, e3, hb3, hx3, hc3⟩ := RT.at_ (RV.below HR.out (hbel.mono hB)) hjt
          injection e3 with e3
          injection e3 with e31 e32
          subst e31 e32
          have HC := hid (cf_of HX.out hx3)
          have hj16 : j < 16 := by omega
          have hYk := HY.out k hlt
          rw [if_neg (by omega), if_pos rfl] at hYk
          clear hx3
          cases x with
          | false =>
            have HY2 := hid (show ∀ i, i < n1 → ys[i]? = some (if i < k then rowN rows i n1 else if i = k then rowN rows k (j + 1) else 0) from fun i hi => by
              rw [HY.out i hi, rowN, HC.out]; simp)
            have HB := hid (And.intro hblk hbel)
            clear hblk hbel hYk
            go_wp2
            go_roundw
            case rel => exact ⟨j + 1, ys, by omega, by go_num, HB.out.1, HB.out.2, HYL, HY2⟩
            case measure => simp [intOf]; omega
          | true =>
            obtain ⟨Y, hYY⟩ : ∃ Y, rowN rows k j = Y := ⟨_, rfl⟩
            rw [hYY] at hYk
            have hYlt : Y < 65536 := by
              have := rowN_lt rows k j
              have h2 : 2 ^ j ≤ 2 ^ 10 := Nat.pow_le_pow_right (by omega) (by omega)
              omega
            obtain ⟨V, hV⟩ : ∃ V, Y ||| 2 ^ j = V := ⟨_, rfl⟩
            have HYY := hid (show (ys.map fU)[k]? = some (.int .u64 (Y : Nat)) by rw [List.getElem?_map, hYk]; rfl)
            have HY2 := hid (show ∀ i, i < n1 → (ys.set k V)[i]? = some (if i < k then rowN rows i n1 else if i = k then rowN rows k (j + 1) else 0) from fun i hi => by
              rw [List.getElem?_set]
              by_cases hik : k = i
              · subst hik
                rw [if_pos rfl, if_pos (by rw [HYL.out]; exact hi), if_neg (by omega), if_pos rfl, rowN, HC.out, if_pos rfl, hYY, hV]
              · rw [if_neg hik, HY.out i hi]
                by_cases hik2 : i < k
                · rw [if_pos hik2, if_pos hik2]
                · rw [if_neg hik2, if_neg hik2, if_neg (by omega), if_neg (by omega)])
            have hpw := pow_wrap j hj16
            have hor : bits .or .u64 (Y : Int) ((2 ^ j : Nat) : Int) = (V : Int) := by rw [u64_or_nat Y (2 ^ j) hYlt (pow_lt16 j hj16), hV]
            have hor2 : bits .or .u64 (Y : Int) ((2 : Int) ^ j) = (V : Int) := by rw [u64_or_pow Y j hYlt hj16, hV]
            have hkn : (k : Int) < (n1 : Int) := by omega
            have hk0 : (0 : Int) ≤ (k : Int) := by omega
            have hS0 := hid (And.intro hbel hblk)
            clear hblk hbel hYk hYY hV
            go_wp2
            refine wp_region_gL (by kernel_rfl) [[], [], [0, 1], [2], [], [4], [3, 5], [0, 1], [6, 7]] (by kernel_rfl) 9 (by rfl) [some 26, some 27, some 28, some 29, some 30, some 31, some 32, some 33, none] (by rfl)
              [fun v x _ => v = .slice (some ⟨g, 0, none⟩) n1 n1,
               fun v x _ => v = .int .i64 (k : Int),
               fun v x _ => v = .pointer (some ⟨g, k, none⟩),
               fun v x _ => v = .int .u64 (Y : Nat),
               fun v x _ => v = .int .i64 (j : Int),
               fun v x _ => v = .int .u64 ((2 ^ j : Nat) : Int),
               fun v x _ => v = .int .u64 (V : Nat),
               fun v x _ => v = .pointer (some ⟨g, k, none⟩),
               fun v x _ => True]
              (fun L x w' => SetS w1 g k V ys (L 8) w') (fun _ _ => True) (fun _ => trivial) (fun x => ⟨hS0.out.1.drew, fun _ => hS0.out.2, fun h => (by cases h)⟩) ?loc ?ob ?fin
            case loc =>
              refine ⟨⟨⟨⟨⟨⟨⟨⟨⟨trivial, ?_⟩, ?_⟩, ?_⟩, ?_⟩, ?_⟩, ?_⟩, ?_⟩, ?_⟩, ?_⟩
              · exact fun _ _ _ _ _ _ _ h => h
              · exact fun _ _ _ _ _ _ _ h => h
              · exact fun _ _ _ _ _ _ _ h => h
              · exact fun _ _ _ _ _ _ _ h => h
              · exact fun _ _ _ _ _ _ _ h => h
              · exact fun _ _ _ _ _ _ _ h => h
              · exact fun _ _ _ _ _ _ _ h => h
              · exact fun _ _ _ _ _ _ _ h => h
              · intro v x x' w w' hx hR h
                revert h
                show (fun v x _ => True) v x w → (fun v x _ => True) v x' w'
                intro h
                exact h
            case ob =>
              refine ⟨⟨⟨⟨⟨⟨⟨⟨⟨trivial, ?_⟩, ?_⟩, ?_⟩, ?_⟩, ?_⟩, ?_⟩, ?_⟩, ?_⟩, ?_⟩
              · intro L hL hLa hLc x W hS hd KO hK
                clear hd
                simp only [List.getD_cons_zero, fillL, Nat.reduceAdd, Act.put, List.setIfInBounds_toArray, List.set_cons_zero, List.set_cons_succ] at hK ⊢
                refine wpOp_plain rfl rfl ?_
                go_simp
                exact hK _ _ hS (trivial) rfl
              · intro L hL hLa hLc x W hS hd KO hK
                clear hd
                simp only [List.getD_cons_zero, List.getD_cons_succ, fillL, Nat.reduceAdd, Act.put, List.setIfInBounds_toArray, List.set_cons_zero, List.set_cons_succ] at hK ⊢
                refine wpOp_plain rfl rfl ?_
                go_simp
                exact hK _ _ hS (trivial) rfl
              · intro L hL hLa hLc x W hS hd KO hK
                have h0 : (fun v x _ => v = .slice (some ⟨g, 0, none⟩) n1 n1) (x 0) x W := hd 0 (by decide)
                have e0 : x 0 = .slice (some ⟨g, 0, none⟩) n1 n1 := h0
                clear h0
                have h1 : (fun v x _ => v = .int .i64 (k : Int)) (x 1) x W := hd 1 (by decide)
                have e1 : x 1 = .int .i64 (k : Int) := h1
                clear h1
                clear hd
                simp only [List.getD_cons_zero, List.getD_cons_succ, fillL, Nat.reduceAdd, Act.put, List.setIfInBounds_toArray, List.set_cons_zero, List.set_cons_succ, e0, e1] at hK ⊢
                refine wpOp_plain rfl rfl ?_
                go_simp
                exact hK _ _ hS trivial rfl
              · intro L hL hLa hLc x W hS hd KO hK
                have h2 : (fun v x _ => v = .pointer (some ⟨g, k, none⟩)) (x 2) x W := hd 2 (by decide)
                have e2 : x 2 = .pointer (some ⟨g, k, none⟩) := h2
                clear h2
                clear hd
                have hl8 : L 8 = false := Bool.eq_false_iff.2 (fun h => absurd (hLc 8 6 h (by decide)) (fun h6 => absurd (hLc 6 3 h6 (by decide)) (by rw [hL]; simp)))
                have hb8 := hS.2.1 hl8
                have hc8 : W.cell? ⟨g, k, none⟩ = some (.int .u64 (Y : Nat)) := by rw [hb8.cell]; simpa using HYY.out
                simp only [List.getD_cons_zero, List.getD_cons_succ, fillL, Nat.reduceAdd, Act.put, List.setIfInBounds_toArray, List.set_cons_zero, List.set_cons_succ, e2] at hK ⊢
                refine wpOp_plain rfl rfl ?_
                go_simp
                exact hK _ _ hS trivial rfl
              · intro L hL hLa hLc x W hS hd KO hK
                clear hd
                simp only [List.getD_cons_zero, List.getD_cons_succ, fillL, Nat.reduceAdd, Act.put, List.setIfInBounds_toArray, List.set_cons_zero, List.set_cons_succ] at hK ⊢
                refine wpOp_plain rfl rfl ?_
                go_simp
                exact hK _ _ hS (trivial) rfl
              · intro L hL hLa hLc x W hS hd KO hK
                have h4 : (fun v x _ => v = .int .i64 (j : Int)) (x 4) x W := hd 4 (by decide)
                have e4 : x 4 = .int .i64 (j : Int) := h4
                clear h4
                clear hd
                simp only [List.getD_cons_zero, List.getD_cons_succ, fillL, Nat.reduceAdd, Act.put, List.setIfInBounds_toArray, List.set_cons_zero, List.set_cons_succ, e4] at hK ⊢
                refine wpOp_plain rfl rfl ?_
                go_simp
                exact hK _ _ hS trivial rfl
              · intro L hL hLa hLc x W hS hd KO hK
                have h3 : (fun v x _ => v = .int .u64 (Y : Nat)) (x 3) x W := hd 3 (by decide)
                have e3 : x 3 = .int .u64 (Y : Nat) := h3
                clear h3
                have h5 : (fun v x _ => v = .int .u64 ((2 ^ j : Nat) : Int)) (x 5) x W := hd 5 (by decide)
                have e5 : x 5 = .int .u64 ((2 ^ j : Nat) : Int) := h5
                clear h5
                clear hd
                simp only [List.getD_cons_zero, List.getD_cons_succ, fillL, Nat.reduceAdd, Act.put, List.setIfInBounds_toArray, List.set_cons_zero, List.set_cons_succ, e3, e5] at hK ⊢
                refine wpOp_plain rfl rfl ?_
                go_simp
                exact hK _ _ hS trivial rfl
              · intro L hL hLa hLc x W hS hd KO hK
                have h0 : (fun v x _ => v = .slice (some ⟨g, 0, none⟩) n1 n1) (x 0) x W := hd 0 (by decide)
                have e0 : x 0 = .slice (some ⟨g, 0, none⟩) n1 n1 := h0
                clear h0
                have h1 : (fun v x _ => v = .int .i64 (k : Int)) (x 1) x W := hd 1 (by decide)
                have e1 : x 1 = .int .i64 (k : Int) := h1
                clear h1
                clear hd
                simp only [List.getD_cons_zero, List.getD_cons_succ, fillL, Nat.reduceAdd, Act.put, List.setIfInBounds_toArray, List.set_cons_zero, List.set_cons_succ, e0, e1] at hK ⊢
                refine wpOp_plain rfl rfl ?_
                go_simp
                exact hK _ _ hS trivial rfl
              · intro L hL hLa hLc x W hS hd KO hK
                have h6 : (fun v x _ => v = .int .u64 (V : Nat)) (x 6) x W := hd 6 (by decide)
                have e6 : x 6 = .int .u64 (V : Nat) := h6
                clear h6
                have h7 : (fun v x _ => v = .pointer (some ⟨g, k, none⟩)) (x 7) x W := hd 7 (by decide)
                have e7 : x 7 = .pointer (some ⟨g, k, none⟩) := h7
                clear h7
                clear hd
                have hb8 := hS.2.1 hL
                have hc8 : W.cell? ⟨g, k, none⟩ = some (.int .u64 (Y : Nat)) := by rw [hb8.cell]; simpa using HYY.out
                have hf8 := hb8.frozen k
                have HQ := hid (And.intro hS.1 hb8)
                clear hb8
                simp only [List.getD_cons_zero, List.getD_cons_succ, fillL, Nat.reduceAdd, Act.put, List.setIfInBounds_toArray, List.set_cons_zero, List.set_cons_succ, e6, e7] at hK ⊢
                refine wpOp_plain rfl rfl ?_
                go_simp
                exact hK undef _ (show SetS w1 g k V ys true (W.setCell ⟨g, k, none⟩ (.int .u64 (V : Nat))) from ⟨HQ.out.1.setCell (p := ⟨g, k, none⟩) (by show w1.heap.size ≤ g; omega) _, fun h => (by cases h), fun _ => HQ.out.2.setL k V⟩) trivial trivial
            case fin =>
              intro x W L hL hS hd
              have h0 : (fun v x _ => v = .slice (some ⟨g, 0, none⟩) n1 n1) (x 0) x W := hd 0 (by decide)
              have e0 : x 0 = .slice (some ⟨g, 0, none⟩) n1 n1 := h0
              clear h0
              have h1 : (fun v x _ => v = .int .i64 (k : Int)) (x 1) x W := hd 1 (by decide)
              have e1 : x 1 = .int .i64 (k : Int) := h1
              clear h1
              have h2 : (fun v x _ => v = .pointer (some ⟨g, k, none⟩)) (x 2) x W := hd 2 (by decide)
              have e2 : x 2 = .pointer (some ⟨g, k, none⟩) := h2
              clear h2
              have h3 : (fun v x _ => v = .int .u64 (Y : Nat)) (x 3) x W := hd 3 (by decide)
              have e3 : x 3 = .int .u64 (Y : Nat) := h3
              clear h3
              have h4 : (fun v x _ => v = .int .i64 (j : Int)) (x 4) x W := hd 4 (by decide)
              have e4 : x 4 = .int .i64 (j : Int) := h4
              clear h4
              have h5 : (fun v x _ => v = .int .u64 ((2 ^ j : Nat) : Int)) (x 5) x W := hd 5 (by decide)
              have e5 : x 5 = .int .u64 ((2 ^ j : Nat) : Int) := h5
              clear h5
              have h6 : (fun v x _ => v = .int .u64 (V : Nat)) (x 6) x W := hd 6 (by decide)
              have e6 : x 6 = .int .u64 (V : Nat) := h6
              clear h6
              have h7 : (fun v x _ => v = .pointer (some ⟨g, k, none⟩)) (x 7) x W := hd 7 (by decide)
              have e7 : x 7 = .pointer (some ⟨g, k, none⟩) := h7
              clear h7
              have h8 : (fun v x _ => True) (x 8) x W := hd 8 (by decide)
              clear hd
              simp only [fillL, Nat.reduceAdd, Act.put, List.setIfInBounds_toArray, List.set_cons_zero, List.set_cons_succ, e0, e1, e2, e3, e4, e5, e6, e7]
              clear e0 e1 e2 e3 e4 e5 e6 e7
              have hl8 := hL 8 (by omega)
              have HB := hid (And.intro (hS.2.2 hl8) hS.1)
              clear hS h8
              go_wp2
              go_roundw
              case rel => exact ⟨j + 1, _, by omega, by go_num, HB.out.1, HB.out.2, hid (by rw [List.length_set]; exact HYL.out), HY2⟩
              case measure => simp [intOf]; omega
        · have hjn : j = n1 := by omega
          subst hjn
          have HB := hid (And.intro hblk hbel)
          have HY2 := hid (show ∀ i, i < j → ys[i]? = some (if i < k + 1 then rowN rows i j else 0) from fun i hi => by
            rw [HY.out i hi]
            by_cases h1 : i < k
            · rw [if_pos h1, if_pos (by omega)]
            · by_cases h2 : i = k
              · subst h2; rw [if_neg (by omega), if_pos rfl, if_pos (by omega)]
              · rw [if_neg h1, if_neg h2, if_neg (by omega)])
          clear hblk hbel
          go_wp2
          go_roundw
          case rel => exact ⟨k + 1, ys, by omega, by go_num, HB.out.1, HB.out.2, HYL, HY2⟩
          case measure => simp [intOf]; omega
    · have hkn : k = n := by omega
      subst hkn
      have hys : ys = setsL rows k := by
        apply List.ext_getElem?
        intro i
        by_cases hi : i < k
        · rw [HY.out i hi, if_pos hi, setsL, List.getElem?_map, List.getElem?_range hi]; rfl
        · rw [List.getElem?_eq_none (by rw [HYL.out]; omega), List.getElem?_eq_none (by simp [setsL]; omega)]
      subst hys
      have HB := hid (And.intro hblk hbel)
      clear hblk hbel hb0 hbel0
      go_wp2
      go_ret
      exact ⟨by rw [hg]; rfl, by rw [hg]; exact HB.out.1, HB.out.2⟩
end Go.Proofs.YtgccpjhkgkhllaaDoor
