/-
  The program's GroupSize, walked.
-/
import Derived.Test.YtgccpjhkgkhllaaDoorSloT
import Derived.Test.YtgccpjhkgkhllaaDoorReg
namespace Go.Proofs.YtgccpjhkgkhllaaDoor
open Go.RowKit
set_option linter.unusedVariables false

open Classical in
/-- The greatest group of a valid table; -1 for other tables. -/
noncomputable def groupZ (rows : List (List Bool)) : Int := if h : ConfOk rows ∧ ∃ b, IsMax rows (2 ^ rows.length - 1) b then ((Classical.choose h.2 : Nat) : Int) else -1
theorem groupZ_yes {rows : List (List Bool)} (h : ConfOk rows) {b : Nat} (hb : IsMax rows (2 ^ rows.length - 1) b) : groupZ rows = (b : Int) := by
  have hh : ConfOk rows ∧ ∃ b, IsMax rows (2 ^ rows.length - 1) b := ⟨h, b, hb⟩
  unfold groupZ
  rw [dif_pos hh, IsMax.uniq (Classical.choose_spec hh.2) hb]
theorem groupZ_no {rows : List (List Bool)} (h : ¬ ConfOk rows) : groupZ rows = -1 := by
  unfold groupZ
  exact dif_neg (fun hh => h hh.1)
set_option maxRecDepth 100000 in
set_option maxHeartbeats 3200000 in
theorem groupSize_impl (A : Option Addr) (n cx B : Nat) (rows : List (List Bool)) (w : World) (h : RTT w B A n rows) (hB : B ≤ w.heap.size) (hn : n ≤ 1000000000) (hT : TabW w) :
    Calls Tryd.prog 13 #[.slice A n cx] w fun e w' => e = .returned (.int .i64 (groupZ rows)) ∧ Below w.heap.size w w' := by
  have hlen := RTT.len h
  have hcv := confValid_impl A n cx B rows w h hn
  by_cases hco : ConfOk rows
  · rw [confB_yes hco] at hcv
    have h10 : n ≤ 10 := by rw [← hlen]; exact hco.1
    have HCV := hid hcv
    have HT := hid hT
    have HCO := hid hco
    have HLN := hid hlen
    have HH := hid (And.intro h (And.intro hB (show ∀ r ∈ rows, r.length = n from fun r hr => by rw [conf_sq hco r hr]; exact hlen)))
    have HP := hid (show 0 < 2 ^ n from Nat.pow_pos (by omega))
    have hpw := pow_wrap n (by omega)
    have hps : (((2 ^ n : Nat) : Int) - 1) = ((2 ^ n - 1 : Nat) : Int) := by have := HP.out; omega
    have hpl : 2 ^ n ≤ 1024 := Nat.pow_le_pow_right (n := 2) (by omega) h10
    have hsw : IntKind.u64.wrap ((2 : Int) ^ n - 1) = ((2 ^ n - 1 : Nat) : Int) := by rw [show ((2 : Int) ^ n) = ((2 ^ n : Nat) : Int) from by push_cast; rfl, hps, IntKind.wrap_u64]; omega
    have hS0 : Below w.heap.size w w := Below.refl _ _
    clear hcv hco h hT hlen
    go_enter Tryd.func13, Tryd.ntmps13
    go_wp2_with fail
    refine HCV.out.mono ?_
    rintro e w_ ⟨rfl, rfl⟩
    go_wp2_with fail
    refine wp_region_g (by kernel_rfl) [[], [0], [], [2], [3], [4], [1, 5], [6]] (by kernel_rfl) 8 (by rfl) [some 6, some 7, some 8, some 9, some 10, some 11, some 12, some 2] (by rfl)
      [fun v x _ => v = .slice A n cx,
       fun v x w' => ∃ g, v = .slice (some ⟨g, 0, none⟩) n n ∧ Blk w' g 45 ((setsL rows n).map fU).toArray,
       fun v x _ => v = .slice A n cx,
       fun v x _ => v = .int .i64 n,
       fun v x _ => v = .int .u64 ((2 ^ n : Nat) : Int),
       fun v x _ => v = .int .u64 ((2 ^ n - 1 : Nat) : Int),
       fun v x w' => ∃ b : Nat, v = .int .i64 b ∧ IsMax rows (2 ^ n - 1) b,
       fun v x _ => v = x 6]
      (fun _ w' => Below w.heap.size w w') (fun w w' => Below w.heap.size w w') (fun _ => Below.refl _ _) ((Below.refl _ _).drew) ?loc ?ob ?fin
    case loc =>
      refine ⟨⟨⟨⟨⟨⟨⟨⟨trivial, ?_⟩, ?_⟩, ?_⟩, ?_⟩, ?_⟩, ?_⟩, ?_⟩, ?_⟩
      · exact fun _ _ _ _ _ _ _ h => h
      · intro v x x' w w' hx hR h
        revert h
        show (fun v x w' => ∃ g, v = .slice (some ⟨g, 0, none⟩) n n ∧ Blk w' g 45 ((setsL rows n).map fU).toArray) v x w → (fun v x w' => ∃ g, v = .slice (some ⟨g, 0, none⟩) n n ∧ Blk w' g 45 ((setsL rows n).map fU).toArray) v x' w'
        intro h
        obtain ⟨g, e, hg⟩ := h; exact ⟨g, e, hg.below hR hg.lt⟩
      · exact fun _ _ _ _ _ _ _ h => h
      · exact fun _ _ _ _ _ _ _ h => h
      · exact fun _ _ _ _ _ _ _ h => h
      · exact fun _ _ _ _ _ _ _ h => h
      · intro v x x' w w' hx hR h
        revert h
        show (fun v x w' => ∃ b : Nat, v = .int .i64 b ∧ IsMax rows (2 ^ n - 1) b) v x w → (fun v x w' => ∃ b : Nat, v = .int .i64 b ∧ IsMax rows (2 ^ n - 1) b) v x' w'
        intro h
        exact h
      · intro v x x' w w' hx hR h
        have q6 : x' 6 = x 6 := hx 6 (by decide)
        revert h
        show (fun v x _ => v = x 6) v x w → (fun v x _ => v = x 6) v x' w'
        simp only [q6]
        intro h
        exact h
    case ob =>
      refine ⟨⟨⟨⟨⟨⟨⟨⟨trivial, ?_⟩, ?_⟩, ?_⟩, ?_⟩, ?_⟩, ?_⟩, ?_⟩, ?_⟩
      · intro c hc x W hS hd KO hK
        clear hd
        simp only [List.getD_cons_zero, fillL, Nat.reduceAdd, Act.put, List.setIfInBounds_toArray, List.set_cons_zero, List.set_cons_succ] at hK ⊢
        refine wpOp_plain rfl rfl ?_
        go_simp
        exact hK _ _ hS (Below.refl _ _) rfl
      · intro c hc x W hS hd KO hK
        have h0 : (fun v x _ => v = .slice A n cx) (x 0) x W := hd 0 (by decide)
        have e0 : x 0 = .slice A n cx := h0
        clear h0
        clear hd
        simp only [List.getD_cons_zero, List.getD_cons_succ, fillL, Nat.reduceAdd, Act.put, List.setIfInBounds_toArray, List.set_cons_zero, List.set_cons_succ, e0] at hK ⊢
        refine wpOp_plain rfl rfl ?_
        go_simp
        refine (conflictSets_impl A n cx B rows W (RVV.below HH.out.1 (hS.mono HH.out.2.1)) (Nat.le_trans HH.out.2.1 hS.size) HH.out.2.2 (by omega)).mono ?_
        rintro e W1 ⟨rfl, hg1, hb1⟩
        have h9 := hid (And.intro (hS.trans (hb1.mono hS.size)) (And.intro hb1 hg1))
        clear hg1 hb1
        go_wp2_with fail
        exact hK _ _ h9.out.1 h9.out.2.1 ⟨_, rfl, h9.out.2.2⟩
      · intro c hc x W hS hd KO hK
        clear hd
        simp only [List.getD_cons_zero, List.getD_cons_succ, fillL, Nat.reduceAdd, Act.put, List.setIfInBounds_toArray, List.set_cons_zero, List.set_cons_succ] at hK ⊢
        refine wpOp_plain rfl rfl ?_
        go_simp
        exact hK _ _ hS (Below.refl _ _) rfl
      · intro c hc x W hS hd KO hK
        have h2 : (fun v x _ => v = .slice A n cx) (x 2) x W := hd 2 (by decide)
        have e2 : x 2 = .slice A n cx := h2
        clear h2
        clear hd
        simp only [List.getD_cons_zero, List.getD_cons_succ, fillL, Nat.reduceAdd, Act.put, List.setIfInBounds_toArray, List.set_cons_zero, List.set_cons_succ, e2] at hK ⊢
        refine wpOp_plain rfl rfl ?_
        go_simp
        exact hK _ _ hS (Below.refl _ _) rfl
      · intro c hc x W hS hd KO hK
        have h3 : (fun v x _ => v = .int .i64 n) (x 3) x W := hd 3 (by decide)
        have e3 : x 3 = .int .i64 n := h3
        clear h3
        clear hd
        simp only [List.getD_cons_zero, List.getD_cons_succ, fillL, Nat.reduceAdd, Act.put, List.setIfInBounds_toArray, List.set_cons_zero, List.set_cons_succ, e3] at hK ⊢
        refine wpOp_plain rfl rfl ?_
        go_simp
        exact hK _ _ hS (Below.refl _ _) rfl
      · intro c hc x W hS hd KO hK
        have h4 : (fun v x _ => v = .int .u64 ((2 ^ n : Nat) : Int)) (x 4) x W := hd 4 (by decide)
        have e4 : x 4 = .int .u64 ((2 ^ n : Nat) : Int) := h4
        clear h4
        clear hd
        simp only [List.getD_cons_zero, List.getD_cons_succ, fillL, Nat.reduceAdd, Act.put, List.setIfInBounds_toArray, List.set_cons_zero, List.set_cons_succ, e4] at hK ⊢
        refine wpOp_plain rfl rfl ?_
        go_simp
        exact hK _ _ hS (Below.refl _ _) rfl
      · intro c hc x W hS hd KO hK
        have h1 : (fun v x w' => ∃ g, v = .slice (some ⟨g, 0, none⟩) n n ∧ Blk w' g 45 ((setsL rows n).map fU).toArray) (x 1) x W := hd 1 (by decide)
        have h5 : (fun v x _ => v = .int .u64 ((2 ^ n - 1 : Nat) : Int)) (x 5) x W := hd 5 (by decide)
        have e5 : x 5 = .int .u64 ((2 ^ n - 1 : Nat) : Int) := h5
        clear h5
        clear hd
        obtain ⟨g, e1, hg1⟩ := h1
        simp only [List.getD_cons_zero, List.getD_cons_succ, fillL, Nat.reduceAdd, Act.put, List.setIfInBounds_toArray, List.set_cons_zero, List.set_cons_succ, e5, e1] at hK ⊢
        refine wpOp_plain rfl rfl ?_
        go_simp
        refine (largest_impl n g rows (by omega) HCO.out HLN.out W (TabW.below HT.out hS HT.out.lt) hg1 (2 ^ n - 1) (by have := HP.out; omega)).mono ?_
        rintro e W1 ⟨b, rfl, hm1, rfl⟩
        have h9 := hid hm1
        clear hm1
        go_wp2_with fail
        exact hK _ _ hS (Below.refl _ _) ⟨b, rfl, h9.out⟩
      · intro c hc x W hS hd KO hK
        have h6 : (fun v x w' => ∃ b : Nat, v = .int .i64 b ∧ IsMax rows (2 ^ n - 1) b) (x 6) x W := hd 6 (by decide)
        clear hd
        simp only [List.getD_cons_zero, List.getD_cons_succ, fillL, Nat.reduceAdd, Act.put, List.setIfInBounds_toArray, List.set_cons_zero, List.set_cons_succ] at hK ⊢
        refine wpOp_plain rfl rfl ?_
        go_simp
        exact hK _ _ hS (Below.refl _ _) rfl
    case fin =>
      intro x W hS hd
      have h0 : (fun v x _ => v = .slice A n cx) (x 0) x W := hd 0 (by decide)
      have e0 : x 0 = .slice A n cx := h0
      clear h0
      have h1 : (fun v x w' => ∃ g, v = .slice (some ⟨g, 0, none⟩) n n ∧ Blk w' g 45 ((setsL rows n).map fU).toArray) (x 1) x W := hd 1 (by decide)
      have h2 : (fun v x _ => v = .slice A n cx) (x 2) x W := hd 2 (by decide)
      have e2 : x 2 = .slice A n cx := h2
      clear h2
      have h3 : (fun v x _ => v = .int .i64 n) (x 3) x W := hd 3 (by decide)
      have e3 : x 3 = .int .i64 n := h3
      clear h3
      have h4 : (fun v x _ => v = .int .u64 ((2 ^ n : Nat) : Int)) (x 4) x W := hd 4 (by decide)
      have e4 : x 4 = .int .u64 ((2 ^ n : Nat) : Int) := h4
      clear h4
      have h5 : (fun v x _ => v = .int .u64 ((2 ^ n - 1 : Nat) : Int)) (x 5) x W := hd 5 (by decide)
      have e5 : x 5 = .int .u64 ((2 ^ n - 1 : Nat) : Int) := h5
      clear h5
      have h6 : (fun v x w' => ∃ b : Nat, v = .int .i64 b ∧ IsMax rows (2 ^ n - 1) b) (x 6) x W := hd 6 (by decide)
      have h7 : (fun v x _ => v = x 6) (x 7) x W := hd 7 (by decide)
      have e7 : x 7 = x 6 := h7
      clear h7
      clear hd
      simp only [fillL, Nat.reduceAdd, Act.put, List.setIfInBounds_toArray, List.set_cons_zero, List.set_cons_succ, e0, e2, e3, e4, e5, e7]
      clear e0 e2 e3 e4 e5 e7
      obtain ⟨b, eb, hm⟩ := h6
      have HF := hid (groupZ_yes HCO.out (by rw [HLN.out]; exact hm))
      have HS9 := hid hS
      simp only [eb]
      clear hm h1 eb
      go_wp2
      go_ret
      exact ⟨by rw [HF.out]; rfl, HS9.out⟩
  · rw [confB_no hco] at hcv
    rw [groupZ_no hco]
    have HCV := hid hcv
    clear hcv hco h hT
    go_enter Tryd.func13, Tryd.ntmps13
    go_wp2_with fail
    refine HCV.out.mono ?_
    rintro e w1 ⟨rfl, rfl⟩
    go_wp2
    go_ret
    exact ⟨rfl, Below.refl _ _⟩
end Go.Proofs.YtgccpjhkgkhllaaDoor
