/-
  The draw of GainStep's law, walked.
-/
import Derived.Test.YtdcljfpgjifijaaDr
import Derived.Test.YtdcljfpgjifijaaDrawGain
import Derived.Test.YtdcljfpgjifijaaReg
import Derived.OpenShut
import Derived.IntWalk
namespace Go.Proofs.Ytdcljfpgjifijaa
open Go.RowKit
set_option linter.unusedVariables false

theorem below_ds {w w1 w2 : World} (hb : Below w.heap.size w w1) (ho : Only w.heap.size (w.heap.size + 1) w1 w2) : Below w.heap.size w w2 :=
  hb.trans (ho.below (Nat.le_refl _) hb.size)
/-- The call returned an int, a slice of ints and an int; nothing that was there has turned. -/
def DrawnGS (w : World) (e : Ending) (w' : World) : Prop :=
  ∃ x A n c xs t, e = .returned (.tuple #[.int .i64 x, .slice A n c, .int .i64 t]) ∧ (0 ≤ x ∧ x ≤ 4097) ∧ RI w' w'.heap.size A n xs ∧ n ≤ 2000 ∧ (0 ≤ t ∧ t ≤ 1001) ∧ Below w.heap.size w w'
set_option maxRecDepth 100000 in
set_option maxHeartbeats 1600000 in
theorem drawGainStep_any (A : Option Addr) (n c B : Nat) (bs : List Int) (w : World) (h : RB w B A n bs) (hB : B ≤ w.heap.size) (hc : n ≤ c) (hn : n ≤ 1048576) (hb : ∀ x ∈ bs, 0 ≤ x ∧ x ≤ 255) :
    Calls Try.prog 31 #[.slice A n c] w fun e w' => DrawnGS w e w' := by
  have ho := l20Open_any A n c B bs w h hB hc hn hb
  clear hb h
  go_enter Try.func31, Try.ntmps31
  go_wp2_with fail
  refine ho.mono ?_
  rintro e w1 ⟨rfl, hr, hb1, hs1⟩
  have hsz := hb1.size
  have ds0 := DS.start hr
  have zds0 := ds0.size
  have hgl := ds0.lt
  clear hs1 ho hr
  go_wp2_with fail
  refine (l20Gain_any _ 0 _ ds0.rd (by omega)).mono ?_
  rintro e w2 ⟨gx, rfl, ⟨x0, x1⟩, ⟨q, hq, r2⟩, ho2⟩
  have ds2 : DS w1 w2 _ q := ⟨r2, ds0.only.trans ho2⟩
  have zds2 := ds2.size
  clear r2 ho2 ds0
  go_wp2_with fail
  refine (l20Sequence_any _ q 6 12 _ ds2.rd (by omega) (by omega) (by omega) (by omega)).mono ?_
  rintro e w3 ⟨A', n', c', xs, rfl, hown, hlen, ⟨q3, hq3, r3⟩, ho3⟩
  have ds3 : DS w1 w3 _ q3 := ⟨r3, ds2.only.trans ho3⟩
  have zds3 := ds3.size
  have m3 : Mine w3 _ A' n' c' xs := Mine.of_own hown
  have hn' : n' ≤ 2000 := by have := m3.len; omega
  clear r3 ho3 ds2 hown hlen
  obtain ⟨g, hg⟩ : ∃ g, g = w.heap.size := ⟨_, rfl⟩
  have HB := hid hb1; clear hb1
  go_wp2
  rw [← hg]; rw [← hg] at ds3
  have hgl2 : g < w2.heap.size := by omega
  have HG := hid hg; clear hg
  refine wp_region_g (by kernel_rfl) [[], [], [], [2], [3], [4], [], [], [7], [6, 8], [9], [5, 10], [11], [0], [1], [12]] (by kernel_rfl) 16 (by rfl) [some 14, some 15, some 16, some 17, some 18, some 19, some 20, some 21, some 22, some 23, some 24, some 25, some 26, some 2, some 3, some 4] (by rfl)
    [fun v x _ => v = .int .i64 gx,
     fun v x _ => v = .slice A' n' c',
     fun v x _ => v = .pointer (some ⟨g, 0, none⟩),
     fun v x _ => ∃ k : Int, v = .int .i64 k ∧ 0 ≤ k ∧ k < 200,
     fun v x _ => ∃ k : Int, v = .int .i64 k ∧ 1 ≤ k ∧ k ≤ 200,
     fun v x w' => ∃ (b : Nat) (k : Int), v = .slice (some ⟨b, 0, none⟩) 4 4 ∧ g < b ∧ Blk w' b 3 #[.int .i64 k, .int .i64 0, .int .i64 1001, .int .i64 1000] ∧ 1 ≤ k ∧ k ≤ 200,
     fun v x w' => ∃ (b : Nat), v = .slice (some ⟨b, 0, none⟩) 7 7 ∧ g < b ∧ Blk w' b 3 #[.int .i64 0, .int .i64 0, .int .i64 0, .int .i64 0, .int .i64 1, .int .i64 2, .int .i64 3],
     fun v x _ => v = .pointer (some ⟨g, 0, none⟩),
     fun v x _ => ∃ k : Int, v = .int .i64 k ∧ 0 ≤ k ∧ k < 7,
     fun v x w' => ∃ (b : Nat) (k : Int), v = .pointer (some ⟨b, k.toNat, none⟩) ∧ g < b ∧ Blk w' b 3 #[.int .i64 0, .int .i64 0, .int .i64 0, .int .i64 0, .int .i64 1, .int .i64 2, .int .i64 3] ∧ 0 ≤ k ∧ k < 7,
     fun v x _ => ∃ y : Int, v = .int .i64 y ∧ 0 ≤ y ∧ y ≤ 3,
     fun v x w' => ∃ (b : Nat) (k y : Int), v = .pointer (some ⟨b, y.toNat, none⟩) ∧ g < b ∧ Blk w' b 3 #[.int .i64 k, .int .i64 0, .int .i64 1001, .int .i64 1000] ∧ (1 ≤ k ∧ k ≤ 200) ∧ 0 ≤ y ∧ y ≤ 3,
     fun v x _ => ∃ z : Int, v = .int .i64 z ∧ 0 ≤ z ∧ z ≤ 1001,
     fun v x _ => v = .int .i64 gx,
     fun v x _ => v = .slice A' n' c',
     fun v x _ => ∃ z : Int, v = .int .i64 z ∧ 0 ≤ z ∧ z ≤ 1001]
    (fun c w' => ∃ q1, q1 ≤ q3 + c ∧ DS w3 w' g q1) (fun w w' => Only g (g + 1) w w' ∧ w.heap.size ≤ w'.heap.size) (fun _ => ⟨Only.refl _ _ _, Nat.le_refl _⟩) (⟨q3, by omega, (DS.start ds3.rd).drew⟩) ?loc ?ob ?fin
  case loc =>
    refine ⟨⟨⟨⟨⟨⟨⟨⟨⟨⟨⟨⟨⟨⟨⟨⟨trivial, ?_⟩, ?_⟩, ?_⟩, ?_⟩, ?_⟩, ?_⟩, ?_⟩, ?_⟩, ?_⟩, ?_⟩, ?_⟩, ?_⟩, ?_⟩, ?_⟩, ?_⟩, ?_⟩
    · exact fun _ _ _ _ _ _ _ h => h
    · exact fun _ _ _ _ _ _ _ h => h
    · exact fun _ _ _ _ _ _ _ h => h
    · exact fun _ _ _ _ _ _ _ h => h
    · exact fun _ _ _ _ _ _ _ h => h
    · intro v x x' w w' hx hR h
      revert h
      show (fun v x w' => ∃ (b : Nat) (k : Int), v = .slice (some ⟨b, 0, none⟩) 4 4 ∧ g < b ∧ Blk w' b 3 #[.int .i64 k, .int .i64 0, .int .i64 1001, .int .i64 1000] ∧ 1 ≤ k ∧ k ≤ 200) v x w → (fun v x w' => ∃ (b : Nat) (k : Int), v = .slice (some ⟨b, 0, none⟩) 4 4 ∧ g < b ∧ Blk w' b 3 #[.int .i64 k, .int .i64 0, .int .i64 1001, .int .i64 1000] ∧ 1 ≤ k ∧ k ≤ 200) v x' w'
      intro h
      obtain ⟨b, k, e, hg, hb, hr⟩ := h; exact ⟨b, k, e, hg, hb.only hR.1 (by omega), hr⟩
    · intro v x x' w w' hx hR h
      revert h
      show (fun v x w' => ∃ (b : Nat), v = .slice (some ⟨b, 0, none⟩) 7 7 ∧ g < b ∧ Blk w' b 3 #[.int .i64 0, .int .i64 0, .int .i64 0, .int .i64 0, .int .i64 1, .int .i64 2, .int .i64 3]) v x w → (fun v x w' => ∃ (b : Nat), v = .slice (some ⟨b, 0, none⟩) 7 7 ∧ g < b ∧ Blk w' b 3 #[.int .i64 0, .int .i64 0, .int .i64 0, .int .i64 0, .int .i64 1, .int .i64 2, .int .i64 3]) v x' w'
      intro h
      obtain ⟨b, e, hg, hb⟩ := h; exact ⟨b, e, hg, hb.only hR.1 (by omega)⟩
    · exact fun _ _ _ _ _ _ _ h => h
    · exact fun _ _ _ _ _ _ _ h => h
    · intro v x x' w w' hx hR h
      revert h
      show (fun v x w' => ∃ (b : Nat) (k : Int), v = .pointer (some ⟨b, k.toNat, none⟩) ∧ g < b ∧ Blk w' b 3 #[.int .i64 0, .int .i64 0, .int .i64 0, .int .i64 0, .int .i64 1, .int .i64 2, .int .i64 3] ∧ 0 ≤ k ∧ k < 7) v x w → (fun v x w' => ∃ (b : Nat) (k : Int), v = .pointer (some ⟨b, k.toNat, none⟩) ∧ g < b ∧ Blk w' b 3 #[.int .i64 0, .int .i64 0, .int .i64 0, .int .i64 0, .int .i64 1, .int .i64 2, .int .i64 3] ∧ 0 ≤ k ∧ k < 7) v x' w'
      intro h
      obtain ⟨b, k, e, hg, hb, hr⟩ := h; exact ⟨b, k, e, hg, hb.only hR.1 (by omega), hr⟩
    · exact fun _ _ _ _ _ _ _ h => h
    · intro v x x' w w' hx hR h
      revert h
      show (fun v x w' => ∃ (b : Nat) (k y : Int), v = .pointer (some ⟨b, y.toNat, none⟩) ∧ g < b ∧ Blk w' b 3 #[.int .i64 k, .int .i64 0, .int .i64 1001, .int .i64 1000] ∧ (1 ≤ k ∧ k ≤ 200) ∧ 0 ≤ y ∧ y ≤ 3) v x w → (fun v x w' => ∃ (b : Nat) (k y : Int), v = .pointer (some ⟨b, y.toNat, none⟩) ∧ g < b ∧ Blk w' b 3 #[.int .i64 k, .int .i64 0, .int .i64 1001, .int .i64 1000] ∧ (1 ≤ k ∧ k ≤ 200) ∧ 0 ≤ y ∧ y ≤ 3) v x' w'
      intro h
      obtain ⟨b, k, y, e, hg, hb, hr⟩ := h; exact ⟨b, k, y, e, hg, hb.only hR.1 (by omega), hr⟩
    · exact fun _ _ _ _ _ _ _ h => h
    · exact fun _ _ _ _ _ _ _ h => h
    · exact fun _ _ _ _ _ _ _ h => h
    · exact fun _ _ _ _ _ _ _ h => h
  case ob =>
    refine ⟨⟨⟨⟨⟨⟨⟨⟨⟨⟨⟨⟨⟨⟨⟨⟨trivial, ?_⟩, ?_⟩, ?_⟩, ?_⟩, ?_⟩, ?_⟩, ?_⟩, ?_⟩, ?_⟩, ?_⟩, ?_⟩, ?_⟩, ?_⟩, ?_⟩, ?_⟩, ?_⟩
    · intro c hc x W hS hd KO hK
      clear hd
      simp only [List.getD_cons_zero, fillL, Nat.reduceAdd, Act.put, List.setIfInBounds_toArray, List.set_cons_zero, List.set_cons_succ] at hK ⊢
      refine wpOp_plain rfl rfl ?_
      go_simp
      exact hK _ _ (by obtain ⟨q1, hq1, hd1⟩ := hS; exact ⟨q1, by omega, hd1⟩) (⟨Only.refl _ _ _, Nat.le_refl _⟩) rfl
    · intro c hc x W hS hd KO hK
      clear hd
      simp only [List.getD_cons_zero, List.getD_cons_succ, fillL, Nat.reduceAdd, Act.put, List.setIfInBounds_toArray, List.set_cons_zero, List.set_cons_succ] at hK ⊢
      refine wpOp_plain rfl rfl ?_
      go_simp
      exact hK _ _ (by obtain ⟨q1, hq1, hd1⟩ := hS; exact ⟨q1, by omega, hd1⟩) (⟨Only.refl _ _ _, Nat.le_refl _⟩) rfl
    · intro c hc x W hS hd KO hK
      clear hd
      simp only [List.getD_cons_zero, List.getD_cons_succ, fillL, Nat.reduceAdd, Act.put, List.setIfInBounds_toArray, List.set_cons_zero, List.set_cons_succ] at hK ⊢
      refine wpOp_plain rfl rfl ?_
      go_simp
      exact hK _ _ (by obtain ⟨q1, hq1, hd1⟩ := hS; exact ⟨q1, by omega, hd1⟩) (⟨Only.refl _ _ _, Nat.le_refl _⟩) rfl
    · intro c hc x W hS hd KO hK
      have h2 : (fun v x _ => v = .pointer (some ⟨g, 0, none⟩)) (x 2) x W := hd 2 (by decide)
      have e2 : x 2 = .pointer (some ⟨g, 0, none⟩) := h2
      clear h2
      clear hd
      simp only [List.getD_cons_zero, List.getD_cons_succ, fillL, Nat.reduceAdd, Act.put, List.setIfInBounds_toArray, List.set_cons_zero, List.set_cons_succ, e2] at hK ⊢
      refine wpOp_plain rfl rfl ?_
      obtain ⟨q1, hq1, hd1⟩ := hS
      go_simp
      refine (ds_pick 200 hd1 (by omega)).mono ?_
      rintro e W1 ⟨k, rfl, hk, hd2, ho, hs⟩
      obtain ⟨k0, k1⟩ := hk (by omega)
      go_wp2_with fail
      exact hK _ _ ⟨q1 + 1, by omega, hd2⟩ ⟨ho, by rw [hs]; exact Nat.le_refl _⟩ ⟨k, rfl, k0, k1⟩
    · intro c hc x W hS hd KO hK
      have h3 : (fun v x _ => ∃ k : Int, v = .int .i64 k ∧ 0 ≤ k ∧ k < 200) (x 3) x W := hd 3 (by decide)
      clear hd
      obtain ⟨k, ek, k0, k1⟩ := h3
      have hwr : IntKind.i64.wrap (1 + k) = 1 + k := IntWalk.i64_in _ (by omega)
      simp only [List.getD_cons_zero, List.getD_cons_succ, fillL, Nat.reduceAdd, Act.put, List.setIfInBounds_toArray, List.set_cons_zero, List.set_cons_succ, ek] at hK ⊢
      refine wpOp_plain rfl rfl ?_
      go_simp
      exact hK _ _ (by obtain ⟨q1, hq1, hd1⟩ := hS; exact ⟨q1, by omega, hd1⟩) ⟨Only.refl _ _ _, Nat.le_refl _⟩ ⟨_, rfl, by omega, by omega⟩
    · intro c hc x W hS hd KO hK
      have h4 : (fun v x _ => ∃ k : Int, v = .int .i64 k ∧ 1 ≤ k ∧ k ≤ 200) (x 4) x W := hd 4 (by decide)
      clear hd
      obtain ⟨k, ek, k0, k1⟩ := h4
      simp only [List.getD_cons_zero, List.getD_cons_succ, fillL, Nat.reduceAdd, Act.put, List.setIfInBounds_toArray, List.set_cons_zero, List.set_cons_succ, ek] at hK ⊢
      refine wpOp_plain rfl rfl ?_
      obtain ⟨q1, hq1, hd1⟩ := hS
      have hgW := hd1.lt
      go_simp
      exact hK _ _ ⟨q1, by omega, hd1.alloc _⟩ ⟨(Only.refl _ _ _).alloc _, by simp⟩ ⟨W.heap.size, k, rfl, hgW, Blk.new _ _ _, k0, k1⟩
    · intro c hc x W hS hd KO hK
      clear hd
      simp only [List.getD_cons_zero, List.getD_cons_succ, fillL, Nat.reduceAdd, Act.put, List.setIfInBounds_toArray, List.set_cons_zero, List.set_cons_succ] at hK ⊢
      refine wpOp_plain rfl rfl ?_
      obtain ⟨q1, hq1, hd1⟩ := hS
      have hgW := hd1.lt
      go_simp
      exact hK _ _ ⟨q1, by omega, hd1.alloc _⟩ ⟨(Only.refl _ _ _).alloc _, by simp⟩ ⟨W.heap.size, rfl, hgW, Blk.new _ _ _⟩
    · intro c hc x W hS hd KO hK
      clear hd
      simp only [List.getD_cons_zero, List.getD_cons_succ, fillL, Nat.reduceAdd, Act.put, List.setIfInBounds_toArray, List.set_cons_zero, List.set_cons_succ] at hK ⊢
      refine wpOp_plain rfl rfl ?_
      go_simp
      exact hK _ _ (by obtain ⟨q1, hq1, hd1⟩ := hS; exact ⟨q1, by omega, hd1⟩) (⟨Only.refl _ _ _, Nat.le_refl _⟩) rfl
    · intro c hc x W hS hd KO hK
      have h7 : (fun v x _ => v = .pointer (some ⟨g, 0, none⟩)) (x 7) x W := hd 7 (by decide)
      have e7 : x 7 = .pointer (some ⟨g, 0, none⟩) := h7
      clear h7
      clear hd
      simp only [List.getD_cons_zero, List.getD_cons_succ, fillL, Nat.reduceAdd, Act.put, List.setIfInBounds_toArray, List.set_cons_zero, List.set_cons_succ, e7] at hK ⊢
      refine wpOp_plain rfl rfl ?_
      obtain ⟨q1, hq1, hd1⟩ := hS
      go_simp
      refine (ds_pick 7 hd1 (by omega)).mono ?_
      rintro e W1 ⟨k, rfl, hk, hd2, ho, hs⟩
      obtain ⟨k0, k1⟩ := hk (by omega)
      go_wp2_with fail
      exact hK _ _ ⟨q1 + 1, by omega, hd2⟩ ⟨ho, by rw [hs]; exact Nat.le_refl _⟩ ⟨k, rfl, k0, k1⟩
    · intro c hc x W hS hd KO hK
      have h6 : (fun v x w' => ∃ (b : Nat), v = .slice (some ⟨b, 0, none⟩) 7 7 ∧ g < b ∧ Blk w' b 3 #[.int .i64 0, .int .i64 0, .int .i64 0, .int .i64 0, .int .i64 1, .int .i64 2, .int .i64 3]) (x 6) x W := hd 6 (by decide)
      have h8 : (fun v x _ => ∃ k : Int, v = .int .i64 k ∧ 0 ≤ k ∧ k < 7) (x 8) x W := hd 8 (by decide)
      clear hd
      obtain ⟨b, eb, hg1, hb1⟩ := h6
      obtain ⟨k, ek, k0, k1⟩ := h8
      simp only [List.getD_cons_zero, List.getD_cons_succ, fillL, Nat.reduceAdd, Act.put, List.setIfInBounds_toArray, List.set_cons_zero, List.set_cons_succ, eb, ek] at hK ⊢
      refine wpOp_plain rfl rfl ?_
      go_simp
      exact hK _ _ (by obtain ⟨q1, hq1, hd1⟩ := hS; exact ⟨q1, by omega, hd1⟩) ⟨Only.refl _ _ _, Nat.le_refl _⟩ ⟨b, k, rfl, hg1, hb1, k0, k1⟩
    · intro c hc x W hS hd KO hK
      have h9 : (fun v x w' => ∃ (b : Nat) (k : Int), v = .pointer (some ⟨b, k.toNat, none⟩) ∧ g < b ∧ Blk w' b 3 #[.int .i64 0, .int .i64 0, .int .i64 0, .int .i64 0, .int .i64 1, .int .i64 2, .int .i64 3] ∧ 0 ≤ k ∧ k < 7) (x 9) x W := hd 9 (by decide)
      clear hd
      obtain ⟨b, k, eb, hg1, hb1, k0, k1⟩ := h9
      obtain ⟨y, hy, y0, y1⟩ := tab_get (ys := [0, 0, 0, 0, 1, 2, 3]) hb1 rfl k k0 (by simp; omega) (P := fun y => 0 ≤ y ∧ y ≤ 3) (by intro y hy; simp at hy; omega)
      simp only [List.getD_cons_zero, List.getD_cons_succ, fillL, Nat.reduceAdd, Act.put, List.setIfInBounds_toArray, List.set_cons_zero, List.set_cons_succ, eb] at hK ⊢
      refine wpOp_plain rfl rfl ?_
      go_simp
      exact hK _ _ (by obtain ⟨q1, hq1, hd1⟩ := hS; exact ⟨q1, by omega, hd1⟩) ⟨Only.refl _ _ _, Nat.le_refl _⟩ ⟨y, rfl, y0, y1⟩
    · intro c hc x W hS hd KO hK
      have h5 : (fun v x w' => ∃ (b : Nat) (k : Int), v = .slice (some ⟨b, 0, none⟩) 4 4 ∧ g < b ∧ Blk w' b 3 #[.int .i64 k, .int .i64 0, .int .i64 1001, .int .i64 1000] ∧ 1 ≤ k ∧ k ≤ 200) (x 5) x W := hd 5 (by decide)
      have h10 : (fun v x _ => ∃ y : Int, v = .int .i64 y ∧ 0 ≤ y ∧ y ≤ 3) (x 10) x W := hd 10 (by decide)
      clear hd
      obtain ⟨b, k, eb, hg1, hb1, k0, k1⟩ := h5
      obtain ⟨y, ey, y0, y1⟩ := h10
      have y2 : y < 4 := by omega
      simp only [List.getD_cons_zero, List.getD_cons_succ, fillL, Nat.reduceAdd, Act.put, List.setIfInBounds_toArray, List.set_cons_zero, List.set_cons_succ, eb, ey] at hK ⊢
      refine wpOp_plain rfl rfl ?_
      go_simp
      exact hK _ _ (by obtain ⟨q1, hq1, hd1⟩ := hS; exact ⟨q1, by omega, hd1⟩) ⟨Only.refl _ _ _, Nat.le_refl _⟩ ⟨b, k, y, rfl, hg1, hb1, ⟨k0, k1⟩, y0, y1⟩
    · intro c hc x W hS hd KO hK
      have h11 : (fun v x w' => ∃ (b : Nat) (k y : Int), v = .pointer (some ⟨b, y.toNat, none⟩) ∧ g < b ∧ Blk w' b 3 #[.int .i64 k, .int .i64 0, .int .i64 1001, .int .i64 1000] ∧ (1 ≤ k ∧ k ≤ 200) ∧ 0 ≤ y ∧ y ≤ 3) (x 11) x W := hd 11 (by decide)
      clear hd
      obtain ⟨b, k, y, eb, hg1, hb1, ⟨k0, k1⟩, y0, y1⟩ := h11
      obtain ⟨z, hz, z0, z1⟩ := tab_get (ys := [k, 0, 1001, 1000]) hb1 rfl y y0 (by simp; omega) (P := fun z => 0 ≤ z ∧ z ≤ 1001) (by intro z hz; simp at hz; omega)
      simp only [List.getD_cons_zero, List.getD_cons_succ, fillL, Nat.reduceAdd, Act.put, List.setIfInBounds_toArray, List.set_cons_zero, List.set_cons_succ, eb] at hK ⊢
      refine wpOp_plain rfl rfl ?_
      go_simp
      exact hK _ _ (by obtain ⟨q1, hq1, hd1⟩ := hS; exact ⟨q1, by omega, hd1⟩) ⟨Only.refl _ _ _, Nat.le_refl _⟩ ⟨z, rfl, z0, z1⟩
    · intro c hc x W hS hd KO hK
      have h0 : (fun v x _ => v = .int .i64 gx) (x 0) x W := hd 0 (by decide)
      have e0 : x 0 = .int .i64 gx := h0
      clear h0
      clear hd
      simp only [List.getD_cons_zero, List.getD_cons_succ, fillL, Nat.reduceAdd, Act.put, List.setIfInBounds_toArray, List.set_cons_zero, List.set_cons_succ, e0] at hK ⊢
      refine wpOp_plain rfl rfl ?_
      go_simp
      exact hK _ _ (by obtain ⟨q1, hq1, hd1⟩ := hS; exact ⟨q1, by omega, hd1⟩) (⟨Only.refl _ _ _, Nat.le_refl _⟩) rfl
    · intro c hc x W hS hd KO hK
      have h1 : (fun v x _ => v = .slice A' n' c') (x 1) x W := hd 1 (by decide)
      have e1 : x 1 = .slice A' n' c' := h1
      clear h1
      clear hd
      simp only [List.getD_cons_zero, List.getD_cons_succ, fillL, Nat.reduceAdd, Act.put, List.setIfInBounds_toArray, List.set_cons_zero, List.set_cons_succ, e1] at hK ⊢
      refine wpOp_plain rfl rfl ?_
      go_simp
      exact hK _ _ (by obtain ⟨q1, hq1, hd1⟩ := hS; exact ⟨q1, by omega, hd1⟩) (⟨Only.refl _ _ _, Nat.le_refl _⟩) rfl
    · intro c hc x W hS hd KO hK
      have h12 : (fun v x _ => ∃ z : Int, v = .int .i64 z ∧ 0 ≤ z ∧ z ≤ 1001) (x 12) x W := hd 12 (by decide)
      clear hd
      obtain ⟨z, ez, z0, z1⟩ := h12
      simp only [List.getD_cons_zero, List.getD_cons_succ, fillL, Nat.reduceAdd, Act.put, List.setIfInBounds_toArray, List.set_cons_zero, List.set_cons_succ, ez] at hK ⊢
      refine wpOp_plain rfl rfl ?_
      go_simp
      exact hK _ _ (by obtain ⟨q1, hq1, hd1⟩ := hS; exact ⟨q1, by omega, hd1⟩) ⟨Only.refl _ _ _, Nat.le_refl _⟩ ⟨z, rfl, z0, z1⟩
  case fin =>
    intro x W hS hd
    have h0 : (fun v x _ => v = .int .i64 gx) (x 0) x W := hd 0 (by decide)
    have e0 : x 0 = .int .i64 gx := h0
    clear h0
    have h1 : (fun v x _ => v = .slice A' n' c') (x 1) x W := hd 1 (by decide)
    have e1 : x 1 = .slice A' n' c' := h1
    clear h1
    have h2 : (fun v x _ => v = .pointer (some ⟨g, 0, none⟩)) (x 2) x W := hd 2 (by decide)
    have e2 : x 2 = .pointer (some ⟨g, 0, none⟩) := h2
    clear h2
    have h3 : (fun v x _ => ∃ k : Int, v = .int .i64 k ∧ 0 ≤ k ∧ k < 200) (x 3) x W := hd 3 (by decide)
    have h4 : (fun v x _ => ∃ k : Int, v = .int .i64 k ∧ 1 ≤ k ∧ k ≤ 200) (x 4) x W := hd 4 (by decide)
    have h5 : (fun v x w' => ∃ (b : Nat) (k : Int), v = .slice (some ⟨b, 0, none⟩) 4 4 ∧ g < b ∧ Blk w' b 3 #[.int .i64 k, .int .i64 0, .int .i64 1001, .int .i64 1000] ∧ 1 ≤ k ∧ k ≤ 200) (x 5) x W := hd 5 (by decide)
    have h6 : (fun v x w' => ∃ (b : Nat), v = .slice (some ⟨b, 0, none⟩) 7 7 ∧ g < b ∧ Blk w' b 3 #[.int .i64 0, .int .i64 0, .int .i64 0, .int .i64 0, .int .i64 1, .int .i64 2, .int .i64 3]) (x 6) x W := hd 6 (by decide)
    have h7 : (fun v x _ => v = .pointer (some ⟨g, 0, none⟩)) (x 7) x W := hd 7 (by decide)
    have e7 : x 7 = .pointer (some ⟨g, 0, none⟩) := h7
    clear h7
    have h8 : (fun v x _ => ∃ k : Int, v = .int .i64 k ∧ 0 ≤ k ∧ k < 7) (x 8) x W := hd 8 (by decide)
    have h9 : (fun v x w' => ∃ (b : Nat) (k : Int), v = .pointer (some ⟨b, k.toNat, none⟩) ∧ g < b ∧ Blk w' b 3 #[.int .i64 0, .int .i64 0, .int .i64 0, .int .i64 0, .int .i64 1, .int .i64 2, .int .i64 3] ∧ 0 ≤ k ∧ k < 7) (x 9) x W := hd 9 (by decide)
    have h10 : (fun v x _ => ∃ y : Int, v = .int .i64 y ∧ 0 ≤ y ∧ y ≤ 3) (x 10) x W := hd 10 (by decide)
    have h11 : (fun v x w' => ∃ (b : Nat) (k y : Int), v = .pointer (some ⟨b, y.toNat, none⟩) ∧ g < b ∧ Blk w' b 3 #[.int .i64 k, .int .i64 0, .int .i64 1001, .int .i64 1000] ∧ (1 ≤ k ∧ k ≤ 200) ∧ 0 ≤ y ∧ y ≤ 3) (x 11) x W := hd 11 (by decide)
    have h12 : (fun v x _ => ∃ z : Int, v = .int .i64 z ∧ 0 ≤ z ∧ z ≤ 1001) (x 12) x W := hd 12 (by decide)
    have h13 : (fun v x _ => v = .int .i64 gx) (x 13) x W := hd 13 (by decide)
    have e13 : x 13 = .int .i64 gx := h13
    clear h13
    have h14 : (fun v x _ => v = .slice A' n' c') (x 14) x W := hd 14 (by decide)
    have e14 : x 14 = .slice A' n' c' := h14
    clear h14
    have h15 : (fun v x _ => ∃ z : Int, v = .int .i64 z ∧ 0 ≤ z ∧ z ≤ 1001) (x 15) x W := hd 15 (by decide)
    clear hd
    simp only [fillL, Nat.reduceAdd, Act.put, List.setIfInBounds_toArray, List.set_cons_zero, List.set_cons_succ, e0, e1, e2, e7, e13, e14]
    clear e0 e1 e2 e7 e13 e14
    obtain ⟨q1, hq1, hd1⟩ := hS
    obtain ⟨z, ez, z0, z1⟩ := h15
    simp only [ez]
    have m4 := m3.only hd1.only hgl2
    have HR := hid m4.ri
    have HO := hid (ds3.only.trans hd1.only)
    clear m4 m3 hd1 ds3
    go_wp2
    refine bodyPost_ret (results_tmp3 rfl _ _ _) rfl ?_
    refine ⟨gx, A', n', c', xs, z, rfl, ⟨x0, x1⟩, HR.out, hn', ⟨z0, z1⟩, ?_⟩
    have hg := HG.out
    have hO := HO.out
    subst hg
    exact below_ds HB.out hO
end Go.Proofs.Ytdcljfpgjifijaa
