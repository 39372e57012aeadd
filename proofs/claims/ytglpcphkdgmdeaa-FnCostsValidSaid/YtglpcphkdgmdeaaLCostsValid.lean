/-
  FnCostsValid, walked: a table with a cost for a station itself is invalid.
-/
import Derived.Test.YtglpcphkdgmdeaaDCosts
import Derived.Test.YtglpcphkdgmdeaaRou
import Derived.Test.YtglpcphkdgmdeaaAliveO
import Derived.Test.YtglpcphkdgmdeaaApp
namespace Go.Proofs.Ytglpcphkdgmdeaa
open Go.RowKit
set_option linter.unusedVariables false

theorem drawCostsValid_any (A : Option Addr) (n c B : Nat) (bs : List Int) (w : World) (h : RB w B A n bs) (hB : B ≤ w.heap.size) (hc : n ≤ c) (hn : n ≤ 1048576) (hb : ∀ x ∈ bs, 0 ≤ x ∧ x ≤ 255) :
    Calls Try.prog 11 #[.slice A n c] w fun e w' => ∃ A n c rows, e = .returned (.slice A n c) ∧ RII w' w'.heap.size A n rows ∧ n ≤ c ∧ c ≤ maxLen ∧ n ≤ 10 ∧ Below w.heap.size w w' := by
  have ho := l20Open_any A n c B bs w h hB hc hn hb
  clear hb h
  go_enter Try.func11, Try.ntmps11
  go_wp2_with fail
  refine ho.mono ?_
  rintro e w1 ⟨rfl, hr, hb1, hs1⟩
  have HB1 := hid hb1
  clear ho hb1
  go_wp2_with fail
  refine (l20Costs_any _ 0 2 _ hr (by omega) (by omega)).mono ?_
  rintro e w2 ⟨A2, n2, c2, rows, rfl, hr2, h1, h2, h3, _, ho2⟩
  have HF := hid (show ∃ A n c rows, Ending.returned (.slice A2 n2 c2) = .returned (.slice A n c) ∧ RII w2 w2.heap.size A n rows ∧ n ≤ c ∧ c ≤ maxLen ∧ n ≤ 10 ∧ Below w.heap.size w w2 from ⟨A2, n2, c2, rows, rfl, hr2, h1, h2, h3, HB1.out.trans (ho2.below (Nat.le_refl _) HB1.out.size)⟩)
  clear hr hr2 ho2
  go_wp2
  go_ret
  exact HF.out
/-- The table's parts: its rows' headers, the first by itself. -/
theorem RII.parts {w : World} {B n : Nat} {A : Option Addr} {rows : List (List Int)} (h : RII w B A n rows) (hn : 0 < n) :
    ∃ b o A0 n0 c0 r0 rt vt, A = some ⟨b, o, none⟩ ∧ b < B ∧ rows = r0 :: rt ∧ w.cell? ⟨b, o, none⟩ = some (.slice A0 n0 c0) ∧ RI w B A0 n0 r0 ∧ RV w B A n (.slice A0 n0 c0 :: vt) ∧ (∀ v ∈ vt, v.oneCell' = true) ∧
      ∀ w' A' m A2 c2 r2, RV w' w'.heap.size A' m (.slice A2 n0 c2 :: vt) → (∀ p : Addr, p.block < B → w'.cell? p = w.cell? p) → B ≤ w'.heap.size → RI w' w'.heap.size A2 n0 r2 → n0 ≤ c2 → c2 ≤ maxLen → RII w' w'.heap.size A' m (r2 :: rt) := by
  obtain ⟨ds, h1, h2, h3⟩ := h
  have hl : ds.length = n := by have := h1.1; simpa using this
  match ds, hl with
  | [], hl => simp at hl; omega
  | d :: dt, hl =>
    match rows, h2 with
    | [], h2 => simp at h2; omega
    | r0 :: rt, h2 =>
      obtain ⟨b, o, e, hb, hc⟩ := h1.2 hn
      have h0 := h3 0 d (r0.map (Value.int .i64)) rfl rfl
      refine ⟨b, o, d.1, d.2.1, d.2.2, r0, rt, dt.map slv, e, hb, rfl, by have := hc 0 (slv d) rfl; simpa [slv] using this, h0.1, h1, fun v hv => by obtain ⟨x, _, rfl⟩ := List.mem_map.1 hv; rfl, ?_⟩
      intro w' A' m A2 c2 r2 hr hk hBw hr2 hn2 hc2
      refine ⟨(A2, d.2.1, c2) :: dt, hr, by have := hr.1; simp at this h2 ⊢; have := h1.1; simp at this; omega, ?_⟩
      intro j d' vs hd hv
      match j, hd, hv with
      | 0, hd, hv =>
        simp at hd hv
        subst hd hv
        exact ⟨hr2, hn2, hc2⟩
      | j + 1, hd, hv =>
        have := h3 (j + 1) d' vs hd hv
        exact ⟨RV.more (RV.keep this.1 hk) hBw, this.2⟩

set_option maxRecDepth 100000 in
set_option maxHeartbeats 3200000 in
theorem fnCostsValid_walk {A : Option Addr} {n c : Nat} {bs : List Int} (w : World) (h : RV w w.heap.size A n (bs.map (Value.int .u8))) (wf : ∀ x ∈ bs, (Lit.int .u8 x).wf = true) (hl : n ≤ c) (hm : c ≤ maxLen) :
    Calls Try.prog 4 #[.slice A n c] w fun e w' => e = .returned (.bool true) ∧ Below w.heap.size w w' := by
  unfold maxLen at hm
  by_cases hn : n ≤ 1048576
  · have hd := drawCostsValid_any A n c w.heap.size bs w h (Nat.le_refl _) hl hn (fun x hx => bounds_u8 (wf x hx))
    obtain ⟨i0, hi0, hz0, hz1, hz2⟩ := info_parts infoDr
    obtain ⟨i1, hj0, hj1, hj2, hj3⟩ := info_parts infoRowD
    clear wf h
    go_enter Try.func4, Try.ntmps4
    go_wp2_with fail
    refine hd.mono ?_
    rintro e w1 ⟨A1, n1, c1, rows, rfl, hr1, hnc, hcm, hn10, hb1⟩
    have HB1 := hid hb1
    have HL := hid (RII.len hr1)
    obtain ⟨M, HM⟩ : ∃ M, Hid (costsB rows = M) := ⟨_, hid rfl⟩
    have hc1 := costsValid_impl A1 n1 c1 w1.heap.size rows w1 hr1 (by omega)
    have hc2 := costsValid_spec A1 n1 c1 w1.heap.size rows w1 hr1 (by omega)
    rw [HM.out] at hc1 hc2
    have HC1 := hid hc1
    have HC2 := hid hc2
    have HR1 := hid hr1
    have hMM : (M != M) = false := by simp
    clear hd hb1 hc1 hc2 hr1
    go_wp2_with fail
    refine HC1.out.mono ?_
    rintro e w_ ⟨rfl, rfl⟩
    go_wp2_with fail
    refine HC2.out.mono ?_
    rintro e w_ ⟨rfl, rfl⟩
    by_cases hgo : M = true ∧ 0 < n1
    · obtain ⟨hM, hn0⟩ := hgo
      have hok := costsB_iff.1 (HM.out.trans hM)
      subst hM
      obtain ⟨b, o, A0, n0, c0, r0, rt, vt, rfl, hb, hrows, hcl, hr0, hrv, hvs, hback⟩ := RII.parts HR1.out hn0
      have hr0l : r0.length = n1 := by
        have := (hok.2 0 r0 (by rw [hrows]; rfl)).1
        rw [this, HL.out]
      have hn01 : n0 = n1 := by rw [← RI.len hr0]; exact hr0l
      subst hn01
      have HK0 : Hid (∀ W', Below w1.heap.size w1 W' → W'.cell? ⟨b, o, none⟩ = some (.slice A0 n0 c0)) := hid (fun W' h => (h.cell (p := ⟨b, o, none⟩) hb).trans hcl)
      have HR0 := hid hr0
      have hneq : ((n0 : Int) == 0) = false := by simp; omega
      obtain ⟨A7, hA7⟩ : ∃ A7 : Option Addr, (if c1 = 1 then some (⟨b, o, none⟩ : Addr) else (some (⟨b, o, none⟩ : Addr)).map (·.add 1)) = A7 := ⟨_, rfl⟩
      have HT := hid (show RV w1 w1.heap.size A7 (n0 - 1) vt by rw [← hA7]; exact RV.tail hrv hnc)
      have HVS := hid hvs
      have HBK := hid hback
      have HRO := hid (And.intro hrows hr0l)
      have h1n : (1 : Int) ≤ (n0 : Int) := by omega
      clear hok hrows hcl hr0 hrv hvs hback hr0l HR1
      go_wp2_with fail
      refine wp_region_g (by kernel_rfl) [[], [], [1], [2], [0, 3], [4], [], [6], [5, 7], [8]] (by kernel_rfl) 10 (by rfl) [some 25, some 26, some 27, some 28, some 29, some 30, some 31, some 32, some 33, some 5] (by rfl)
        [fun v x _ => ∃ g : Nat, v = .slice (some ⟨g, 0, none⟩) 0 0,
         fun v x _ => v = .slice (some ⟨b, o, none⟩) n0 c1,
         fun v x _ => v = .pointer (some ⟨b, o, none⟩),
         fun v x _ => v = .slice A0 n0 c0,
         fun v x w' => ∃ (A2 : Option Addr) (c2 : Nat), v = .slice A2 n0 c2 ∧ OwnI w' 3 w1.heap.size w'.heap.size A2 n0 c2 r0,
         fun v x w' => ∃ (g5 : Nat) (A2 : Option Addr) (c2 : Nat), v = .slice (some ⟨g5, 0, none⟩) 1 1 ∧ Blk w' g5 30 #[.slice A2 n0 c2] ∧ OwnI w' 3 w1.heap.size g5 A2 n0 c2 r0,
         fun v x _ => v = .slice (some ⟨b, o, none⟩) n0 c1,
         fun v x _ => v = .slice A7 (n0 - 1) (c1 - 1),
         fun v x w' => ∃ (A8 : Option Addr) (c8 : Nat) (A2 : Option Addr) (c2 : Nat), v = .slice A8 (1 + (n0 - 1)) c8 ∧ RV w' w'.heap.size A8 (1 + (n0 - 1)) (.slice A2 n0 c2 :: vt) ∧ OwnI w' 3 w1.heap.size w'.heap.size A2 n0 c2 r0 ∧ (∀ a b, A8 = some a → A2 = some b → a.block ≠ b.block) ∧ 1 + (n0 - 1) ≤ c8 ∧ c8 ≤ maxLen,
         fun v x w' => ∃ (A8 : Option Addr) (c8 : Nat) (A2 : Option Addr) (c2 : Nat), v = .slice A8 (1 + (n0 - 1)) c8 ∧ RV w' w'.heap.size A8 (1 + (n0 - 1)) (.slice A2 n0 c2 :: vt) ∧ OwnI w' 3 w1.heap.size w'.heap.size A2 n0 c2 r0 ∧ (∀ a b, A8 = some a → A2 = some b → a.block ≠ b.block) ∧ 1 + (n0 - 1) ≤ c8 ∧ c8 ≤ maxLen]
        (fun _ w' => Below w1.heap.size w1 w') (fun w w' => Below w.heap.size w w') (fun _ => Below.refl _ _) ((Below.refl _ _).drew) ?loc ?ob ?fin
      case loc =>
        refine ⟨⟨⟨⟨⟨⟨⟨⟨⟨⟨trivial, ?_⟩, ?_⟩, ?_⟩, ?_⟩, ?_⟩, ?_⟩, ?_⟩, ?_⟩, ?_⟩, ?_⟩
        · intro v x x' w w' hx hR h
          revert h
          show (fun v x _ => ∃ g : Nat, v = .slice (some ⟨g, 0, none⟩) 0 0) v x w → (fun v x _ => ∃ g : Nat, v = .slice (some ⟨g, 0, none⟩) 0 0) v x' w'
          intro h
          exact h
        · exact fun _ _ _ _ _ _ _ h => h
        · exact fun _ _ _ _ _ _ _ h => h
        · exact fun _ _ _ _ _ _ _ h => h
        · intro v x x' w w' hx hR h
          revert h
          show (fun v x w' => ∃ (A2 : Option Addr) (c2 : Nat), v = .slice A2 n0 c2 ∧ OwnI w' 3 w1.heap.size w'.heap.size A2 n0 c2 r0) v x w → (fun v x w' => ∃ (A2 : Option Addr) (c2 : Nat), v = .slice A2 n0 c2 ∧ OwnI w' 3 w1.heap.size w'.heap.size A2 n0 c2 r0) v x' w'
          intro h
          obtain ⟨A2, c2, e, ho⟩ := h; exact ⟨A2, c2, e, OwnV.more (OwnV.below ho hR (Nat.le_refl _)) (Nat.le_refl _) hR.size⟩
        · intro v x x' w w' hx hR h
          revert h
          show (fun v x w' => ∃ (g5 : Nat) (A2 : Option Addr) (c2 : Nat), v = .slice (some ⟨g5, 0, none⟩) 1 1 ∧ Blk w' g5 30 #[.slice A2 n0 c2] ∧ OwnI w' 3 w1.heap.size g5 A2 n0 c2 r0) v x w → (fun v x w' => ∃ (g5 : Nat) (A2 : Option Addr) (c2 : Nat), v = .slice (some ⟨g5, 0, none⟩) 1 1 ∧ Blk w' g5 30 #[.slice A2 n0 c2] ∧ OwnI w' 3 w1.heap.size g5 A2 n0 c2 r0) v x' w'
          intro h
          obtain ⟨g5, A2, c2, e, h1, h2⟩ := h; exact ⟨g5, A2, c2, e, Blk.below h1 hR h1.lt, OwnV.below h2 hR (Nat.le_of_lt h1.lt)⟩
        · exact fun _ _ _ _ _ _ _ h => h
        · exact fun _ _ _ _ _ _ _ h => h
        · intro v x x' w w' hx hR h
          revert h
          show (fun v x w' => ∃ (A8 : Option Addr) (c8 : Nat) (A2 : Option Addr) (c2 : Nat), v = .slice A8 (1 + (n0 - 1)) c8 ∧ RV w' w'.heap.size A8 (1 + (n0 - 1)) (.slice A2 n0 c2 :: vt) ∧ OwnI w' 3 w1.heap.size w'.heap.size A2 n0 c2 r0 ∧ (∀ a b, A8 = some a → A2 = some b → a.block ≠ b.block) ∧ 1 + (n0 - 1) ≤ c8 ∧ c8 ≤ maxLen) v x w → (fun v x w' => ∃ (A8 : Option Addr) (c8 : Nat) (A2 : Option Addr) (c2 : Nat), v = .slice A8 (1 + (n0 - 1)) c8 ∧ RV w' w'.heap.size A8 (1 + (n0 - 1)) (.slice A2 n0 c2 :: vt) ∧ OwnI w' 3 w1.heap.size w'.heap.size A2 n0 c2 r0 ∧ (∀ a b, A8 = some a → A2 = some b → a.block ≠ b.block) ∧ 1 + (n0 - 1) ≤ c8 ∧ c8 ≤ maxLen) v x' w'
          intro h
          obtain ⟨A8, c8, A2, c2, e, h1, h2, h3⟩ := h; exact ⟨A8, c8, A2, c2, e, RV.next h1 hR, OwnV.more (OwnV.below h2 hR (Nat.le_refl _)) (Nat.le_refl _) hR.size, h3⟩
        · intro v x x' w w' hx hR h
          revert h
          show (fun v x w' => ∃ (A8 : Option Addr) (c8 : Nat) (A2 : Option Addr) (c2 : Nat), v = .slice A8 (1 + (n0 - 1)) c8 ∧ RV w' w'.heap.size A8 (1 + (n0 - 1)) (.slice A2 n0 c2 :: vt) ∧ OwnI w' 3 w1.heap.size w'.heap.size A2 n0 c2 r0 ∧ (∀ a b, A8 = some a → A2 = some b → a.block ≠ b.block) ∧ 1 + (n0 - 1) ≤ c8 ∧ c8 ≤ maxLen) v x w → (fun v x w' => ∃ (A8 : Option Addr) (c8 : Nat) (A2 : Option Addr) (c2 : Nat), v = .slice A8 (1 + (n0 - 1)) c8 ∧ RV w' w'.heap.size A8 (1 + (n0 - 1)) (.slice A2 n0 c2 :: vt) ∧ OwnI w' 3 w1.heap.size w'.heap.size A2 n0 c2 r0 ∧ (∀ a b, A8 = some a → A2 = some b → a.block ≠ b.block) ∧ 1 + (n0 - 1) ≤ c8 ∧ c8 ≤ maxLen) v x' w'
          intro h
          obtain ⟨A8, c8, A2, c2, e, h1, h2, h3⟩ := h; exact ⟨A8, c8, A2, c2, e, RV.next h1 hR, OwnV.more (OwnV.below h2 hR (Nat.le_refl _)) (Nat.le_refl _) hR.size, h3⟩
      case ob =>
        refine ⟨⟨⟨⟨⟨⟨⟨⟨⟨⟨trivial, ?_⟩, ?_⟩, ?_⟩, ?_⟩, ?_⟩, ?_⟩, ?_⟩, ?_⟩, ?_⟩, ?_⟩
        · intro c hc x W hS hd KO hK
          clear hd
          simp only [List.getD_cons_zero, fillL, Nat.reduceAdd, Act.put, List.setIfInBounds_toArray, List.set_cons_zero, List.set_cons_succ] at hK ⊢
          refine wpOp_plain rfl rfl ?_
          go_simp
          exact hK _ _ (hS.trans (((Below.refl _ _).alloc (Nat.le_refl _) _).mono hS.size)) ((Below.refl _ _).alloc (Nat.le_refl _) _) ⟨_, rfl⟩
        · intro c hc x W hS hd KO hK
          clear hd
          simp only [List.getD_cons_zero, List.getD_cons_succ, fillL, Nat.reduceAdd, Act.put, List.setIfInBounds_toArray, List.set_cons_zero, List.set_cons_succ] at hK ⊢
          refine wpOp_plain rfl rfl ?_
          go_simp
          exact hK _ _ hS (Below.refl _ _) rfl
        · intro c hc x W hS hd KO hK
          have h1 : (fun v x _ => v = .slice (some ⟨b, o, none⟩) n0 c1) (x 1) x W := hd 1 (by decide)
          have e1 : x 1 = .slice (some ⟨b, o, none⟩) n0 c1 := h1
          clear h1
          clear hd
          simp only [List.getD_cons_zero, List.getD_cons_succ, fillL, Nat.reduceAdd, Act.put, List.setIfInBounds_toArray, List.set_cons_zero, List.set_cons_succ, e1] at hK ⊢
          refine wpOp_plain rfl rfl ?_
          go_simp
          exact hK _ _ hS (Below.refl _ _) rfl
        · intro c hc x W hS hd KO hK
          have h2 : (fun v x _ => v = .pointer (some ⟨b, o, none⟩)) (x 2) x W := hd 2 (by decide)
          have e2 : x 2 = .pointer (some ⟨b, o, none⟩) := h2
          clear h2
          clear hd
          have hc := HK0.out _ hS
          simp only [List.getD_cons_zero, List.getD_cons_succ, fillL, Nat.reduceAdd, Act.put, List.setIfInBounds_toArray, List.set_cons_zero, List.set_cons_succ, e2] at hK ⊢
          refine wpOp_plain rfl rfl ?_
          go_simp
          exact hK _ _ hS (Below.refl _ _) rfl
        · intro c hc x W hS hd KO hK
          have h0 : (fun v x _ => ∃ g : Nat, v = .slice (some ⟨g, 0, none⟩) 0 0) (x 0) x W := hd 0 (by decide)
          have h3 : (fun v x _ => v = .slice A0 n0 c0) (x 3) x W := hd 3 (by decide)
          have e3 : x 3 = .slice A0 n0 c0 := h3
          clear h3
          clear hd
          obtain ⟨g, e0⟩ := h0
          simp only [List.getD_cons_zero, List.getD_cons_succ, fillL, Nat.reduceAdd, Act.put, List.setIfInBounds_toArray, List.set_cons_zero, List.set_cons_succ, e3, e0] at hK ⊢
          refine wpOp_ob rfl ?_
          refine step_copyA rfl _ _ _ rfl 3 i0 _ 8 Try.underlying30 hi0 hz0 hz1 hz2 rfl (by omega) g rfl _ _ n0 _ _ rfl (RV.below HR0.out hS) (fun u hu => by obtain ⟨y, _, rfl⟩ := List.mem_map.1 hu; rfl) hn0 (by omega) ?_
          intro A2 c2 w2 ho2 hb2
          exact hK _ _ (hS.trans (hb2.mono hS.size)) hb2 ⟨A2, c2, rfl, OwnV.more ho2 hS.size (Nat.le_refl _)⟩
        · intro c hc x W hS hd KO hK
          have h4 : (fun v x w' => ∃ (A2 : Option Addr) (c2 : Nat), v = .slice A2 n0 c2 ∧ OwnI w' 3 w1.heap.size w'.heap.size A2 n0 c2 r0) (x 4) x W := hd 4 (by decide)
          clear hd
          obtain ⟨A2, c2, e4, o4⟩ := h4
          simp only [List.getD_cons_zero, List.getD_cons_succ, fillL, Nat.reduceAdd, Act.put, List.setIfInBounds_toArray, List.set_cons_zero, List.set_cons_succ, e4] at hK ⊢
          refine wpOp_plain rfl rfl ?_
          go_simp
          exact hK _ _ (hS.trans (((Below.refl _ _).alloc (Nat.le_refl _) _).mono hS.size)) ((Below.refl _ _).alloc (Nat.le_refl _) _) ⟨W.heap.size, A2, c2, rfl, Blk.new _ _ _, OwnV.alloc o4 _⟩
        · intro c hc x W hS hd KO hK
          clear hd
          simp only [List.getD_cons_zero, List.getD_cons_succ, fillL, Nat.reduceAdd, Act.put, List.setIfInBounds_toArray, List.set_cons_zero, List.set_cons_succ] at hK ⊢
          refine wpOp_plain rfl rfl ?_
          go_simp
          exact hK _ _ hS (Below.refl _ _) rfl
        · intro c hc x W hS hd KO hK
          have h6 : (fun v x _ => v = .slice (some ⟨b, o, none⟩) n0 c1) (x 6) x W := hd 6 (by decide)
          have e6 : x 6 = .slice (some ⟨b, o, none⟩) n0 c1 := h6
          clear h6
          clear hd
          simp only [List.getD_cons_zero, List.getD_cons_succ, fillL, Nat.reduceAdd, Act.put, List.setIfInBounds_toArray, List.set_cons_zero, List.set_cons_succ, e6] at hK ⊢
          refine wpOp_plain rfl rfl ?_
          go_simp
          exact hK _ _ hS (Below.refl _ _) (by rw [← hA7]; rfl)
        · intro c hc x W hS hd KO hK
          have h5 : (fun v x w' => ∃ (g5 : Nat) (A2 : Option Addr) (c2 : Nat), v = .slice (some ⟨g5, 0, none⟩) 1 1 ∧ Blk w' g5 30 #[.slice A2 n0 c2] ∧ OwnI w' 3 w1.heap.size g5 A2 n0 c2 r0) (x 5) x W := hd 5 (by decide)
          have h7 : (fun v x _ => v = .slice A7 (n0 - 1) (c1 - 1)) (x 7) x W := hd 7 (by decide)
          have e7 : x 7 = .slice A7 (n0 - 1) (c1 - 1) := h7
          clear h7
          clear hd
          obtain ⟨g5, A2, c2, e5, hb5, o5⟩ := h5
          have hg5 := hb5.lt
          have hc5 : W.cell? ⟨g5, 0, none⟩ = some (.slice A2 n0 c2) := (hb5.cell 0).trans rfl
          simp only [List.getD_cons_zero, List.getD_cons_succ, fillL, Nat.reduceAdd, Act.put, List.setIfInBounds_toArray, List.set_cons_zero, List.set_cons_succ, e7, e5] at hK ⊢
          refine wpOp_ob rfl ?_
          refine step_spread rfl _ _ _ rfl 30 i1 _ 24 Try.underlying22 hj0 hj1 hj2 hj3 rfl (by omega) g5 _ rfl hc5 rfl hg5 _ _ (n0 - 1) _ _ rfl (RV.below HT.out hS) (fun u hu => HVS.out u hu) (by omega) ?_
          intro A8 c8 w8 hr8 hb8 hA8 h81 h82
          exact hK _ _ (hS.trans (hb8.mono hS.size)) hb8 ⟨A8, c8, A2, c2, rfl, hr8, OwnV.more (OwnV.below o5 hb8 (Nat.le_of_lt hg5)) (Nat.le_refl _) (Nat.le_trans (Nat.le_of_lt hg5) hb8.size), fun a b ha hb => (by have h1 := hA8 a ha; have h2 := (OwnV.addr o5 hb).2.1; omega), h81, h82⟩
        · intro c hc x W hS hd KO hK
          have h8 : (fun v x w' => ∃ (A8 : Option Addr) (c8 : Nat) (A2 : Option Addr) (c2 : Nat), v = .slice A8 (1 + (n0 - 1)) c8 ∧ RV w' w'.heap.size A8 (1 + (n0 - 1)) (.slice A2 n0 c2 :: vt) ∧ OwnI w' 3 w1.heap.size w'.heap.size A2 n0 c2 r0 ∧ (∀ a b, A8 = some a → A2 = some b → a.block ≠ b.block) ∧ 1 + (n0 - 1) ≤ c8 ∧ c8 ≤ maxLen) (x 8) x W := hd 8 (by decide)
          clear hd
          obtain ⟨A8, c8, A2, c2, e8, f1, f2⟩ := h8
          simp only [List.getD_cons_zero, List.getD_cons_succ, fillL, Nat.reduceAdd, Act.put, List.setIfInBounds_toArray, List.set_cons_zero, List.set_cons_succ, e8] at hK ⊢
          refine wpOp_plain rfl rfl ?_
          go_simp
          exact hK _ _ hS (Below.refl _ _) ⟨A8, c8, A2, c2, rfl, f1, f2⟩
      case fin =>
        intro x W hS hd
        have h0 : (fun v x _ => ∃ g : Nat, v = .slice (some ⟨g, 0, none⟩) 0 0) (x 0) x W := hd 0 (by decide)
        have h1 : (fun v x _ => v = .slice (some ⟨b, o, none⟩) n0 c1) (x 1) x W := hd 1 (by decide)
        have e1 : x 1 = .slice (some ⟨b, o, none⟩) n0 c1 := h1
        clear h1
        have h2 : (fun v x _ => v = .pointer (some ⟨b, o, none⟩)) (x 2) x W := hd 2 (by decide)
        have e2 : x 2 = .pointer (some ⟨b, o, none⟩) := h2
        clear h2
        have h3 : (fun v x _ => v = .slice A0 n0 c0) (x 3) x W := hd 3 (by decide)
        have e3 : x 3 = .slice A0 n0 c0 := h3
        clear h3
        have h4 : (fun v x w' => ∃ (A2 : Option Addr) (c2 : Nat), v = .slice A2 n0 c2 ∧ OwnI w' 3 w1.heap.size w'.heap.size A2 n0 c2 r0) (x 4) x W := hd 4 (by decide)
        have h5 : (fun v x w' => ∃ (g5 : Nat) (A2 : Option Addr) (c2 : Nat), v = .slice (some ⟨g5, 0, none⟩) 1 1 ∧ Blk w' g5 30 #[.slice A2 n0 c2] ∧ OwnI w' 3 w1.heap.size g5 A2 n0 c2 r0) (x 5) x W := hd 5 (by decide)
        have h6 : (fun v x _ => v = .slice (some ⟨b, o, none⟩) n0 c1) (x 6) x W := hd 6 (by decide)
        have e6 : x 6 = .slice (some ⟨b, o, none⟩) n0 c1 := h6
        clear h6
        have h7 : (fun v x _ => v = .slice A7 (n0 - 1) (c1 - 1)) (x 7) x W := hd 7 (by decide)
        have e7 : x 7 = .slice A7 (n0 - 1) (c1 - 1) := h7
        clear h7
        have h8 : (fun v x w' => ∃ (A8 : Option Addr) (c8 : Nat) (A2 : Option Addr) (c2 : Nat), v = .slice A8 (1 + (n0 - 1)) c8 ∧ RV w' w'.heap.size A8 (1 + (n0 - 1)) (.slice A2 n0 c2 :: vt) ∧ OwnI w' 3 w1.heap.size w'.heap.size A2 n0 c2 r0 ∧ (∀ a b, A8 = some a → A2 = some b → a.block ≠ b.block) ∧ 1 + (n0 - 1) ≤ c8 ∧ c8 ≤ maxLen) (x 8) x W := hd 8 (by decide)
        have h9 : (fun v x w' => ∃ (A8 : Option Addr) (c8 : Nat) (A2 : Option Addr) (c2 : Nat), v = .slice A8 (1 + (n0 - 1)) c8 ∧ RV w' w'.heap.size A8 (1 + (n0 - 1)) (.slice A2 n0 c2 :: vt) ∧ OwnI w' 3 w1.heap.size w'.heap.size A2 n0 c2 r0 ∧ (∀ a b, A8 = some a → A2 = some b → a.block ≠ b.block) ∧ 1 + (n0 - 1) ≤ c8 ∧ c8 ≤ maxLen) (x 9) x W := hd 9 (by decide)
        clear hd
        simp only [fillL, Nat.reduceAdd, Act.put, List.setIfInBounds_toArray, List.set_cons_zero, List.set_cons_succ, e1, e2, e3, e6, e7]
        clear e1 e2 e3 e6 e7
        obtain ⟨A8, c8, A2, c2, e9, f1, f2, f3, f4, f5⟩ := h9
        have hm8 : 1 + (n0 - 1) = n0 := by omega
        rw [hm8] at f1 f4 e9
        obtain ⟨b8, o8, u8, eA8, hb8, hu8, hc8⟩ := RV.at_ f1 hn0
        simp at hu8
        subst hu8
        rw [Nat.add_zero] at hc8
        obtain ⟨g2, y, eA2, g2a, g2b, g2c, hy, hcy, hfy, hst⟩ := OwnI.stored f2 hn0 5
        subst eA8 eA2
        have hne : b8 ≠ g2 := f3 _ _ rfl rfl
        have hf1 := RV.farSet f1 (p := ⟨g2, 0, none⟩) (fun a ha => by injection ha with ha; subst ha; exact hne) (.int .i64 5)
        have hzz : (W.setCell ⟨g2, 0, none⟩ (.int .i64 5)).heap.size = W.heap.size := by simp [World.setCell]
        have hrb : RII (W.setCell ⟨g2, 0, none⟩ (.int .i64 5)) (W.setCell ⟨g2, 0, none⟩ (.int .i64 5)).heap.size (some ⟨b8, o8, none⟩) n0 (r0.set 0 5 :: rt) :=
          HBK.out _ _ _ _ _ _ (by rw [hzz]; exact hf1) (fun p hp => (World.cell?_setCell_other _ _ _ _ (fun e => by subst e; have : g2 < w1.heap.size := hp; omega)).trans (hS.cell hp)) (by rw [hzz]; exact hS.size) (RV.more (OwnI.ri hst) (Nat.le_of_eq hzz.symm)) (OwnV.cap f2) f2.2.2.1
        have hbad : costsB (r0.set 0 5 :: rt) = false := costsB_no (fun hh => by
          have := (hh.2 0 (r0.set 0 5) rfl).2.1
          rw [List.getD_eq_getElem?_getD, List.getElem?_set_self (by rw [HRO.out.2]; exact hn0)] at this
          simp at this)
        have hcb := costsValid_impl _ n0 c8 _ _ _ hrb (by omega)
        rw [hbad] at hcb
        have HCB := hid hcb
        have HF := hid (HB1.out.trans ((hS.setCell (p := ⟨g2, 0, none⟩) g2a (.int .i64 5)).mono HB1.out.size))
        simp only [e9]
        clear f1 f2 hst hf1 hrb hbad hcb hy
        go_wp2_with fail
        refine HCB.out.mono ?_
        rintro e w_ ⟨rfl, rfl⟩
        go_wp2
        go_ret
        exact ⟨rfl, HF.out⟩
    · by_cases hM : M = true
      · have hn0 : n1 = 0 := by
          rcases Nat.eq_zero_or_pos n1 with h | h
          · exact h
          · exact absurd ⟨hM, h⟩ hgo
        subst hM hn0
        clear hgo HR1
        go_wp2_with fail
        refine (alive_any _).mono ?_
        rintro e w5 ⟨rfl, hb5⟩
        have HB5 := hid (HB1.out.trans (hb5.mono HB1.out.size))
        clear hb5
        go_wp2
        go_ret
        exact ⟨rfl, HB5.out⟩
      · have hMf : M = false := by simpa using hM
        subst hMf
        clear hgo hM HR1
        go_wp2_with fail
        refine (alive_any _).mono ?_
        rintro e w5 ⟨rfl, hb5⟩
        have HB5 := hid (HB1.out.trans (hb5.mono HB1.out.size))
        clear hb5
        go_wp2
        go_ret
        exact ⟨rfl, HB5.out⟩
  · go_enter Try.func4, Try.ntmps4
    go_wp2
    go_ret
    exact ⟨rfl, Below.refl _ _⟩
end Go.Proofs.Ytglpcphkdgmdeaa
