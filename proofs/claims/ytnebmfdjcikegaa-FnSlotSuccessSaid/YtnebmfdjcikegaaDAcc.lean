/-
  The draw of BackoffSlots' law, walked.
-/
import Derived.Test.YtnebmfdjcikegaaDr
import Derived.Test.YtnebmfdjcikegaaReg
import Derived.OpenShut
import Derived.IntWalk
namespace Go.Proofs.Ytnebmfdjcikegaa
open Go.RowKit
set_option linter.unusedVariables false

theorem below_ds {w w1 w2 : World} (hb : Below w.heap.size w w1) (ho : Only w.heap.size (w.heap.size + 1) w1 w2) : Below w.heap.size w w2 :=
  hb.trans (ho.below (Nat.le_refl _) hb.size)
/-- The call returned two small ints; nothing that was there has turned. -/
def DrawnKK (w : World) (e : Ending) (w' : World) : Prop :=
  ∃ s a : Int, e = .returned (.tuple #[.int .i64 s, .int .i64 a]) ∧ (-1 ≤ s ∧ s ≤ 3000) ∧ (0 ≤ a ∧ a ≤ 101) ∧ Below w.heap.size w w'
set_option maxRecDepth 100000 in
set_option maxHeartbeats 1600000 in
theorem drawBackoffSlots_any (A : Option Addr) (n c B : Nat) (bs : List Int) (w : World) (h : RB w B A n bs) (hB : B ≤ w.heap.size) (hc : n ≤ c) (hn : n ≤ 1048576) (hb : ∀ x ∈ bs, 0 ≤ x ∧ x ≤ 255) :
    Calls Try.prog 16 #[.slice A n c] w fun e w' => DrawnKK w e w' := by
  have ho := l20Open_any A n c B bs w h hB hc hn hb
  clear hb h
  go_enter Try.func16, Try.ntmps16
  go_wp2_with fail
  refine ho.mono ?_
  rintro e w1 ⟨rfl, hr, hb1, hs1⟩
  have hsz := hb1.size
  have ds0 := DS.start hr
  have zds0 := ds0.size
  have hgl := ds0.lt
  clear hs1 ho hr
  go_wp2_with fail
  refine (ds_pick 256 (ds0) (by omega)).mono ?_
  rintro e u1 ⟨ka, rfl, hk_, du1, ho_, hs_⟩
  obtain ⟨ka0, ka1⟩ := hk_ (by omega)
  have zdu1 := du1.size
  clear hk_ ho_ hs_ ds0
  go_wp2_with fail
  refine (ds_pick 9 (du1) (by omega)).mono ?_
  rintro e u2 ⟨kb, rfl, hk_, du2, ho_, hs_⟩
  obtain ⟨kb0, kb1⟩ := hk_ (by omega)
  have zdu2 := du2.size
  clear hk_ ho_ hs_ du1
  obtain ⟨g, hg⟩ : ∃ g, g = w.heap.size := ⟨_, rfl⟩
  obtain ⟨s, hs⟩ : ∃ s, s = ka * 8 + kb - 1 := ⟨_, rfl⟩
  have hs2 : -1 ≤ s ∧ s ≤ 3000 := by omega
  obtain ⟨s0, s1⟩ := hs2
  have HB := hid hb1; clear hb1
  go_wp2
  rw [← hs, ← hg]; rw [← hg] at du2
  have HG := hid hg; have HS := hid hs; clear hg hs
  refine wp_region_g (by kernel_rfl) [[], [], [1], [2], [3], [], [], [6], [5, 7], [8], [4, 9], [10], [0], [11]] (by kernel_rfl) 14 (by rfl) [some 15, some 16, some 17, some 18, some 19, some 20, some 21, some 22, some 23, some 24, some 25, some 26, some 2, some 3] (by rfl)
    [fun v x _ => v = .int .i64 s,
     fun v x _ => v = .pointer (some ⟨g, 0, none⟩),
     fun v x _ => ∃ k : Int, v = .int .i64 k ∧ 0 ≤ k ∧ k < 8,
     fun v x _ => ∃ k : Int, v = .int .i64 k ∧ 1 ≤ k ∧ k ≤ 8,
     fun v x w' => ∃ (b : Nat) (k : Int), v = .slice (some ⟨b, 0, none⟩) 4 4 ∧ g < b ∧ Blk w' b 3 #[.int .i64 k, .int .i64 0, .int .i64 101, .int .i64 100] ∧ 1 ≤ k ∧ k ≤ 8,
     fun v x w' => ∃ (b : Nat), v = .slice (some ⟨b, 0, none⟩) 7 7 ∧ g < b ∧ Blk w' b 3 #[.int .i64 0, .int .i64 0, .int .i64 0, .int .i64 0, .int .i64 1, .int .i64 2, .int .i64 3],
     fun v x _ => v = .pointer (some ⟨g, 0, none⟩),
     fun v x _ => ∃ k : Int, v = .int .i64 k ∧ 0 ≤ k ∧ k < 7,
     fun v x w' => ∃ (b : Nat) (k : Int), v = .pointer (some ⟨b, k.toNat, none⟩) ∧ g < b ∧ Blk w' b 3 #[.int .i64 0, .int .i64 0, .int .i64 0, .int .i64 0, .int .i64 1, .int .i64 2, .int .i64 3] ∧ 0 ≤ k ∧ k < 7,
     fun v x _ => ∃ y : Int, v = .int .i64 y ∧ 0 ≤ y ∧ y ≤ 3,
     fun v x w' => ∃ (b : Nat) (k y : Int), v = .pointer (some ⟨b, y.toNat, none⟩) ∧ g < b ∧ Blk w' b 3 #[.int .i64 k, .int .i64 0, .int .i64 101, .int .i64 100] ∧ (1 ≤ k ∧ k ≤ 8) ∧ 0 ≤ y ∧ y ≤ 3,
     fun v x _ => ∃ z : Int, v = .int .i64 z ∧ 0 ≤ z ∧ z ≤ 101,
     fun v x _ => v = .int .i64 s,
     fun v x _ => ∃ z : Int, v = .int .i64 z ∧ 0 ≤ z ∧ z ≤ 101]
    (fun c w' => ∃ q1, q1 ≤ 2 + c ∧ DS w1 w' g q1) (fun w w' => Only g (g + 1) w w' ∧ w.heap.size ≤ w'.heap.size) (fun _ => ⟨Only.refl _ _ _, Nat.le_refl _⟩) (⟨2, by omega, du2.drew⟩) ?loc ?ob ?fin
  case loc =>
    refine ⟨⟨⟨⟨⟨⟨⟨⟨⟨⟨⟨⟨⟨⟨trivial, ?_⟩, ?_⟩, ?_⟩, ?_⟩, ?_⟩, ?_⟩, ?_⟩, ?_⟩, ?_⟩, ?_⟩, ?_⟩, ?_⟩, ?_⟩, ?_⟩
    · exact fun _ _ _ _ _ _ _ h => h
    · exact fun _ _ _ _ _ _ _ h => h
    · exact fun _ _ _ _ _ _ _ h => h
    · exact fun _ _ _ _ _ _ _ h => h
    · intro v x x' w w' hx hR h
      revert h
      show (fun v x w' => ∃ (b : Nat) (k : Int), v = .slice (some ⟨b, 0, none⟩) 4 4 ∧ g < b ∧ Blk w' b 3 #[.int .i64 k, .int .i64 0, .int .i64 101, .int .i64 100] ∧ 1 ≤ k ∧ k ≤ 8) v x w → (fun v x w' => ∃ (b : Nat) (k : Int), v = .slice (some ⟨b, 0, none⟩) 4 4 ∧ g < b ∧ Blk w' b 3 #[.int .i64 k, .int .i64 0, .int .i64 101, .int .i64 100] ∧ 1 ≤ k ∧ k ≤ 8) v x' w'
      intro h
      obtain ⟨b, k, e, hg, hb, hr⟩ := h; exact ⟨b, k, e, hg, hb.only hR.1 (by omega), hr⟩
    · intro v x x' w w' hx hR h
      revert h
      show (fun v x w' => ∃ (b : Nat), v = .slice (some ⟨b, 0, none⟩) 7 7 ∧ g < b ∧ Blk w' b 3 #[.int .i64 0, .int .i64 0, .int .i64 0, .int .i64 0, .int .i64 1, .int .i64 2, .int .i64 3]) v x w → (fun v x w' => ∃ (b : Nat), v = .slice (some ⟨b, 0, none⟩) 7 7 ∧ g < b ∧ Blk w' b 3 #[.int .i64 0, .int .i64 0, .int .i64 0, .int .i64 0, .int .i64 1, .int .i64 2, .int .i64 3]) v x' w'
      intro h
      obtain ⟨b, e, hg, hb⟩ := h; exact ⟨b, e, hg, hb.only hR.1 (by omega)⟩
    · exact fun _ _ _ _ _ _ _ h => h
    · exact fun _ _ _ _ _ _ _ h => h
    · intro v x x' w w' hx hR h
      revert h
      show (fun v x w' => ∃ (b : Nat) (k : Int), v = .pointer (some ⟨b, k.toNat, none⟩) ∧ g < b ∧ Blk w' b 3 #[.int .i64 0, .int .i64 0, .int .i64 0, .int .i64 0, .int .i64 1, .int .i64 2, .int .i64 3] ∧ 0 ≤ k ∧ k < 7) v x w → (fun v x w' => ∃ (b : Nat) (k : Int), v = .pointer (some ⟨b, k.toNat, none⟩) ∧ g < b ∧ Blk w' b 3 #[.int .i64 0, .int .i64 0, .int .i64 0, .int .i64 0, .int .i64 1, .int .i64 2, .int .i64 3] ∧ 0 ≤ k ∧ k < 7) v x' w'
      intro h
      obtain ⟨b, k, e, hg, hb, hr⟩ := h; exact ⟨b, k, e, hg, hb.only hR.1 (by omega), hr⟩
    · exact fun _ _ _ _ _ _ _ h => h
    · intro v x x' w w' hx hR h
      revert h
      show (fun v x w' => ∃ (b : Nat) (k y : Int), v = .pointer (some ⟨b, y.toNat, none⟩) ∧ g < b ∧ Blk w' b 3 #[.int .i64 k, .int .i64 0, .int .i64 101, .int .i64 100] ∧ (1 ≤ k ∧ k ≤ 8) ∧ 0 ≤ y ∧ y ≤ 3) v x w → (fun v x w' => ∃ (b : Nat) (k y : Int), v = .pointer (some ⟨b, y.toNat, none⟩) ∧ g < b ∧ Blk w' b 3 #[.int .i64 k, .int .i64 0, .int .i64 101, .int .i64 100] ∧ (1 ≤ k ∧ k ≤ 8) ∧ 0 ≤ y ∧ y ≤ 3) v x' w'
      intro h
      obtain ⟨b, k, y, e, hg, hb, hr⟩ := h; exact ⟨b, k, y, e, hg, hb.only hR.1 (by omega), hr⟩
    · exact fun _ _ _ _ _ _ _ h => h
    · exact fun _ _ _ _ _ _ _ h => h
    · exact fun _ _ _ _ _ _ _ h => h
  case ob =>
    refine ⟨⟨⟨⟨⟨⟨⟨⟨⟨⟨⟨⟨⟨⟨trivial, ?_⟩, ?_⟩, ?_⟩, ?_⟩, ?_⟩, ?_⟩, ?_⟩, ?_⟩, ?_⟩, ?_⟩, ?_⟩, ?_⟩, ?_⟩, ?_⟩
    · intro c hc x W hS hd KO hK
      clear hd
      simp only [List.getD_cons_zero, fillL, Nat.reduceAdd, Act.put, List.setIfInBounds_toArray, List.set_cons_zero, List.set_cons_succ] at hK ⊢
      refine wpOp_plain rfl rfl ?_
      go_simp
      exact hK _ _ (by obtain ⟨q1, hq1, hd1⟩ := hS; exact ⟨q1, by omega, hd1⟩) (⟨Only.refl _ _ _, Nat.le_refl _⟩) rfl
    · intro c hc x W hS hd KO hK
      clear hd
      simp only [List.getD_cons_zero, List.getD_cons_succ, fillL, Nat.reduceAdd, Act.put, List.setIfInBounds_toArray, List.set_cons_zero, List.set_cons_succ] at hK ⊢
      refine wpOp_plain rfl rfl ?_
      go_simp
      exact hK _ _ (by obtain ⟨q1, hq1, hd1⟩ := hS; exact ⟨q1, by omega, hd1⟩) (⟨Only.refl _ _ _, Nat.le_refl _⟩) rfl
    · intro c hc x W hS hd KO hK
      have h1 : (fun v x _ => v = .pointer (some ⟨g, 0, none⟩)) (x 1) x W := hd 1 (by decide)
      have e1 : x 1 = .pointer (some ⟨g, 0, none⟩) := h1
      clear h1
      clear hd
      simp only [List.getD_cons_zero, List.getD_cons_succ, fillL, Nat.reduceAdd, Act.put, List.setIfInBounds_toArray, List.set_cons_zero, List.set_cons_succ, e1] at hK ⊢
      refine wpOp_plain rfl rfl ?_
      obtain ⟨q1, hq1, hd1⟩ := hS
      go_simp
      refine (ds_pick 8 hd1 (by omega)).mono ?_
      rintro e W1 ⟨k, rfl, hk, hd2, ho, hs⟩
      obtain ⟨k0, k1⟩ := hk (by omega)
      go_wp2_with fail
      exact hK _ _ ⟨q1 + 1, by omega, hd2⟩ ⟨ho, by rw [hs]; exact Nat.le_refl _⟩ ⟨k, rfl, k0, k1⟩
    · intro c hc x W hS hd KO hK
      have h2 : (fun v x _ => ∃ k : Int, v = .int .i64 k ∧ 0 ≤ k ∧ k < 8) (x 2) x W := hd 2 (by decide)
      clear hd
      obtain ⟨k, ek, k0, k1⟩ := h2
      have hwr : IntKind.i64.wrap (1 + k) = 1 + k := IntWalk.i64_in _ (by omega)
      simp only [List.getD_cons_zero, List.getD_cons_succ, fillL, Nat.reduceAdd, Act.put, List.setIfInBounds_toArray, List.set_cons_zero, List.set_cons_succ, ek] at hK ⊢
      refine wpOp_plain rfl rfl ?_
      go_simp
      exact hK _ _ (by obtain ⟨q1, hq1, hd1⟩ := hS; exact ⟨q1, by omega, hd1⟩) ⟨Only.refl _ _ _, Nat.le_refl _⟩ ⟨_, rfl, by omega, by omega⟩
    · intro c hc x W hS hd KO hK
      have h3 : (fun v x _ => ∃ k : Int, v = .int .i64 k ∧ 1 ≤ k ∧ k ≤ 8) (x 3) x W := hd 3 (by decide)
      clear hd
      obtain ⟨k, ek, k0, k1⟩ := h3
      simp only [List.getD_cons_zero, List.getD_cons_succ, fillL, Nat.reduceAdd, Act.put, List.setIfInBounds_toArray, List.set_cons_zero, List.set_cons_succ, ek] at hK ⊢
      refine wpOp_plain rfl rfl ?_
      obtain ⟨q1, hq1, hd1⟩ := hS
      have hgW := hd1.lt
      go_simp
      exact hK _ _ ⟨q1, by omega, hd1.alloc _⟩ ⟨(Only.refl _ _ _).alloc _, by simp⟩ ⟨W.heap.size, k, rfl, hgW, Blk.new _ _ _, k0, k1⟩
    · intro c hc x W hS hd KO hK
      clear hd
      simp only [List.getD_cons_zero, List.getD_cons_succ, fillL, Nat.reduceAdd, Act.put, List.setIfInBounds_toArray, List.set_cons_zero, List.set_cons_succ] at hK ⊢
      refine wpOp_plain rfl rfl ?_
      obtain ⟨q1, hq1, hd1⟩ := hS
      have hgW := hd1.lt
      go_simp
      exact hK _ _ ⟨q1, by omega, hd1.alloc _⟩ ⟨(Only.refl _ _ _).alloc _, by simp⟩ ⟨W.heap.size, rfl, hgW, Blk.new _ _ _⟩
    · intro c hc x W hS hd KO hK
      clear hd
      simp only [List.getD_cons_zero, List.getD_cons_succ, fillL, Nat.reduceAdd, Act.put, List.setIfInBounds_toArray, List.set_cons_zero, List.set_cons_succ] at hK ⊢
      refine wpOp_plain rfl rfl ?_
      go_simp
      exact hK _ _ (by obtain ⟨q1, hq1, hd1⟩ := hS; exact ⟨q1, by omega, hd1⟩) (⟨Only.refl _ _ _, Nat.le_refl _⟩) rfl
    · intro c hc x W hS hd KO hK
      have h6 : (fun v x _ => v = .pointer (some ⟨g, 0, none⟩)) (x 6) x W := hd 6 (by decide)
      have e6 : x 6 = .pointer (some ⟨g, 0, none⟩) := h6
      clear h6
      clear hd
      simp only [List.getD_cons_zero, List.getD_cons_succ, fillL, Nat.reduceAdd, Act.put, List.setIfInBounds_toArray, List.set_cons_zero, List.set_cons_succ, e6] at hK ⊢
      refine wpOp_plain rfl rfl ?_
      obtain ⟨q1, hq1, hd1⟩ := hS
      go_simp
      refine (ds_pick 7 hd1 (by omega)).mono ?_
      rintro e W1 ⟨k, rfl, hk, hd2, ho, hs⟩
      obtain ⟨k0, k1⟩ := hk (by omega)
      go_wp2_with fail
      exact hK _ _ ⟨q1 + 1, by omega, hd2⟩ ⟨ho, by rw [hs]; exact Nat.le_refl _⟩ ⟨k, rfl, k0, k1⟩
    · intro c hc x W hS hd KO hK
      have h5 : (fun v x w' => ∃ (b : Nat), v = .slice (some ⟨b, 0, none⟩) 7 7 ∧ g < b ∧ Blk w' b 3 #[.int .i64 0, .int .i64 0, .int .i64 0, .int .i64 0, .int .i64 1, .int .i64 2, .int .i64 3]) (x 5) x W := hd 5 (by decide)
      have h7 : (fun v x _ => ∃ k : Int, v = .int .i64 k ∧ 0 ≤ k ∧ k < 7) (x 7) x W := hd 7 (by decide)
      clear hd
      obtain ⟨b, eb, hg1, hb1⟩ := h5
      obtain ⟨k, ek, k0, k1⟩ := h7
      simp only [List.getD_cons_zero, List.getD_cons_succ, fillL, Nat.reduceAdd, Act.put, List.setIfInBounds_toArray, List.set_cons_zero, List.set_cons_succ, eb, ek] at hK ⊢
      refine wpOp_plain rfl rfl ?_
      go_simp
      exact hK _ _ (by obtain ⟨q1, hq1, hd1⟩ := hS; exact ⟨q1, by omega, hd1⟩) ⟨Only.refl _ _ _, Nat.le_refl _⟩ ⟨b, k, rfl, hg1, hb1, k0, k1⟩
    · intro c hc x W hS hd KO hK
      have h8 : (fun v x w' => ∃ (b : Nat) (k : Int), v = .pointer (some ⟨b, k.toNat, none⟩) ∧ g < b ∧ Blk w' b 3 #[.int .i64 0, .int .i64 0, .int .i64 0, .int .i64 0, .int .i64 1, .int .i64 2, .int .i64 3] ∧ 0 ≤ k ∧ k < 7) (x 8) x W := hd 8 (by decide)
      clear hd
      obtain ⟨b, k, eb, hg1, hb1, k0, k1⟩ := h8
      obtain ⟨y, hy, y0, y1⟩ := tab_get (ys := [0, 0, 0, 0, 1, 2, 3]) hb1 rfl k k0 (by simp; omega) (P := fun y => 0 ≤ y ∧ y ≤ 3) (by intro y hy; simp at hy; omega)
      simp only [List.getD_cons_zero, List.getD_cons_succ, fillL, Nat.reduceAdd, Act.put, List.setIfInBounds_toArray, List.set_cons_zero, List.set_cons_succ, eb] at hK ⊢
      refine wpOp_plain rfl rfl ?_
      go_simp
      exact hK _ _ (by obtain ⟨q1, hq1, hd1⟩ := hS; exact ⟨q1, by omega, hd1⟩) ⟨Only.refl _ _ _, Nat.le_refl _⟩ ⟨y, rfl, y0, y1⟩
    · intro c hc x W hS hd KO hK
      have h4 : (fun v x w' => ∃ (b : Nat) (k : Int), v = .slice (some ⟨b, 0, none⟩) 4 4 ∧ g < b ∧ Blk w' b 3 #[.int .i64 k, .int .i64 0, .int .i64 101, .int .i64 100] ∧ 1 ≤ k ∧ k ≤ 8) (x 4) x W := hd 4 (by decide)
      have h9 : (fun v x _ => ∃ y : Int, v = .int .i64 y ∧ 0 ≤ y ∧ y ≤ 3) (x 9) x W := hd 9 (by decide)
      clear hd
      obtain ⟨b, k, eb, hg1, hb1, k0, k1⟩ := h4
      obtain ⟨y, ey, y0, y1⟩ := h9
      have y2 : y < 4 := by omega
      simp only [List.getD_cons_zero, List.getD_cons_succ, fillL, Nat.reduceAdd, Act.put, List.setIfInBounds_toArray, List.set_cons_zero, List.set_cons_succ, eb, ey] at hK ⊢
      refine wpOp_plain rfl rfl ?_
      go_simp
      exact hK _ _ (by obtain ⟨q1, hq1, hd1⟩ := hS; exact ⟨q1, by omega, hd1⟩) ⟨Only.refl _ _ _, Nat.le_refl _⟩ ⟨b, k, y, rfl, hg1, hb1, ⟨k0, k1⟩, y0, y1⟩
    · intro c hc x W hS hd KO hK
      have h10 : (fun v x w' => ∃ (b : Nat) (k y : Int), v = .pointer (some ⟨b, y.toNat, none⟩) ∧ g < b ∧ Blk w' b 3 #[.int .i64 k, .int .i64 0, .int .i64 101, .int .i64 100] ∧ (1 ≤ k ∧ k ≤ 8) ∧ 0 ≤ y ∧ y ≤ 3) (x 10) x W := hd 10 (by decide)
      clear hd
      obtain ⟨b, k, y, eb, hg1, hb1, ⟨k0, k1⟩, y0, y1⟩ := h10
      obtain ⟨z, hz, z0, z1⟩ := tab_get (ys := [k, 0, 101, 100]) hb1 rfl y y0 (by simp; omega) (P := fun z => 0 ≤ z ∧ z ≤ 101) (by intro z hz; simp at hz; omega)
      simp only [List.getD_cons_zero, List.getD_cons_succ, fillL, Nat.reduceAdd, Act.put, List.setIfInBounds_toArray, List.set_cons_zero, List.set_cons_succ, eb] at hK ⊢
      refine wpOp_plain rfl rfl ?_
      go_simp
      exact hK _ _ (by obtain ⟨q1, hq1, hd1⟩ := hS; exact ⟨q1, by omega, hd1⟩) ⟨Only.refl _ _ _, Nat.le_refl _⟩ ⟨z, rfl, z0, z1⟩
    · intro c hc x W hS hd KO hK
      have h0 : (fun v x _ => v = .int .i64 s) (x 0) x W := hd 0 (by decide)
      have e0 : x 0 = .int .i64 s := h0
      clear h0
      clear hd
      simp only [List.getD_cons_zero, List.getD_cons_succ, fillL, Nat.reduceAdd, Act.put, List.setIfInBounds_toArray, List.set_cons_zero, List.set_cons_succ, e0] at hK ⊢
      refine wpOp_plain rfl rfl ?_
      go_simp
      exact hK _ _ (by obtain ⟨q1, hq1, hd1⟩ := hS; exact ⟨q1, by omega, hd1⟩) (⟨Only.refl _ _ _, Nat.le_refl _⟩) rfl
    · intro c hc x W hS hd KO hK
      have h11 : (fun v x _ => ∃ z : Int, v = .int .i64 z ∧ 0 ≤ z ∧ z ≤ 101) (x 11) x W := hd 11 (by decide)
      clear hd
      obtain ⟨z, ez, z0, z1⟩ := h11
      simp only [List.getD_cons_zero, List.getD_cons_succ, fillL, Nat.reduceAdd, Act.put, List.setIfInBounds_toArray, List.set_cons_zero, List.set_cons_succ, ez] at hK ⊢
      refine wpOp_plain rfl rfl ?_
      go_simp
      exact hK _ _ (by obtain ⟨q1, hq1, hd1⟩ := hS; exact ⟨q1, by omega, hd1⟩) ⟨Only.refl _ _ _, Nat.le_refl _⟩ ⟨z, rfl, z0, z1⟩
  case fin =>
    intro x W hS hd
    have h0 : (fun v x _ => v = .int .i64 s) (x 0) x W := hd 0 (by decide)
    have e0 : x 0 = .int .i64 s := h0
    clear h0
    have h1 : (fun v x _ => v = .pointer (some ⟨g, 0, none⟩)) (x 1) x W := hd 1 (by decide)
    have e1 : x 1 = .pointer (some ⟨g, 0, none⟩) := h1
    clear h1
    have h2 : (fun v x _ => ∃ k : Int, v = .int .i64 k ∧ 0 ≤ k ∧ k < 8) (x 2) x W := hd 2 (by decide)
    have h3 : (fun v x _ => ∃ k : Int, v = .int .i64 k ∧ 1 ≤ k ∧ k ≤ 8) (x 3) x W := hd 3 (by decide)
    have h4 : (fun v x w' => ∃ (b : Nat) (k : Int), v = .slice (some ⟨b, 0, none⟩) 4 4 ∧ g < b ∧ Blk w' b 3 #[.int .i64 k, .int .i64 0, .int .i64 101, .int .i64 100] ∧ 1 ≤ k ∧ k ≤ 8) (x 4) x W := hd 4 (by decide)
    have h5 : (fun v x w' => ∃ (b : Nat), v = .slice (some ⟨b, 0, none⟩) 7 7 ∧ g < b ∧ Blk w' b 3 #[.int .i64 0, .int .i64 0, .int .i64 0, .int .i64 0, .int .i64 1, .int .i64 2, .int .i64 3]) (x 5) x W := hd 5 (by decide)
    have h6 : (fun v x _ => v = .pointer (some ⟨g, 0, none⟩)) (x 6) x W := hd 6 (by decide)
    have e6 : x 6 = .pointer (some ⟨g, 0, none⟩) := h6
    clear h6
    have h7 : (fun v x _ => ∃ k : Int, v = .int .i64 k ∧ 0 ≤ k ∧ k < 7) (x 7) x W := hd 7 (by decide)
    have h8 : (fun v x w' => ∃ (b : Nat) (k : Int), v = .pointer (some ⟨b, k.toNat, none⟩) ∧ g < b ∧ Blk w' b 3 #[.int .i64 0, .int .i64 0, .int .i64 0, .int .i64 0, .int .i64 1, .int .i64 2, .int .i64 3] ∧ 0 ≤ k ∧ k < 7) (x 8) x W := hd 8 (by decide)
    have h9 : (fun v x _ => ∃ y : Int, v = .int .i64 y ∧ 0 ≤ y ∧ y ≤ 3) (x 9) x W := hd 9 (by decide)
    have h10 : (fun v x w' => ∃ (b : Nat) (k y : Int), v = .pointer (some ⟨b, y.toNat, none⟩) ∧ g < b ∧ Blk w' b 3 #[.int .i64 k, .int .i64 0, .int .i64 101, .int .i64 100] ∧ (1 ≤ k ∧ k ≤ 8) ∧ 0 ≤ y ∧ y ≤ 3) (x 10) x W := hd 10 (by decide)
    have h11 : (fun v x _ => ∃ z : Int, v = .int .i64 z ∧ 0 ≤ z ∧ z ≤ 101) (x 11) x W := hd 11 (by decide)
    have h12 : (fun v x _ => v = .int .i64 s) (x 12) x W := hd 12 (by decide)
    have e12 : x 12 = .int .i64 s := h12
    clear h12
    have h13 : (fun v x _ => ∃ z : Int, v = .int .i64 z ∧ 0 ≤ z ∧ z ≤ 101) (x 13) x W := hd 13 (by decide)
    clear hd
    simp only [fillL, Nat.reduceAdd, Act.put, List.setIfInBounds_toArray, List.set_cons_zero, List.set_cons_succ, e0, e1, e6, e12]
    clear e0 e1 e6 e12
    obtain ⟨q1, hq1, hd1⟩ := hS
    obtain ⟨z, ez, z0, z1⟩ := h13
    simp only [ez]
    go_wp2
    go_ret2
    refine ⟨s, z, rfl, ⟨s0, s1⟩, ⟨z0, z1⟩, ?_⟩
    have hg := HG.out
    subst hg
    exact below_ds HB.out hd1.only
end Go.Proofs.Ytnebmfdjcikegaa
