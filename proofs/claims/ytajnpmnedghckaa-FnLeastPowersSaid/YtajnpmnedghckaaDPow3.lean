/-
  The draws of links and powers, walked: DrawPowerStep, DrawLinksMeet.
-/
import Derived.Test.YtajnpmnedghckaaDPow2
import Derived.Test.YtajnpmnedghckaaPowG
import Derived.Laws.ResultCell
namespace Go.Proofs.Ytajnpmnedghckaa
open Go.RowKit
set_option linter.unusedVariables false

/-- The call returned links and ints; nothing that was there has turned. -/
def DrawnLI (w : World) (e : Ending) (w' : World) : Prop :=
  ∃ A n c rows N G A' n' c' xs, e = .returned (.tuple #[.agg #[.slice A n c, .int .i64 N, .int .i64 G], .slice A' n' c']) ∧ RII w' w'.heap.size A n rows ∧ n ≤ 10 ∧ RI w' w'.heap.size A' n' xs ∧ n' ≤ 11 ∧ Below w.heap.size w w'
theorem NewR.trans {H : Nat} {a b c : World} (h : NewR H a b) (k : NewR H b c) : NewR H a c := ⟨Nat.le_trans h.1 k.1, fun j hj hz => (k.2 j hj (Nat.lt_of_lt_of_le hz h.1)).trans (h.2 j hj hz)⟩
theorem NewR.set3 {H b : Nat} (w : World) (hb : b < H) (u0 u1 u2 : Value) : NewR H w (((w.setCell ⟨b, 0, none⟩ u0).setCell ⟨b, 1, none⟩ u1).setCell ⟨b, 2, none⟩ u2) :=
  ((NewR.setCell w (p := ⟨b, 0, none⟩) hb u0).trans (NewR.setCell _ (p := ⟨b, 1, none⟩) hb u1)).trans (NewR.setCell _ (p := ⟨b, 2, none⟩) hb u2)
theorem Below.set3 {w w' : World} {B b : Nat} (h : Below B w w') (hb : B ≤ b) (u0 u1 u2 : Value) : Below B w (((w'.setCell ⟨b, 0, none⟩ u0).setCell ⟨b, 1, none⟩ u1).setCell ⟨b, 2, none⟩ u2) :=
  ((h.setCell (p := ⟨b, 0, none⟩) hb u0).setCell (p := ⟨b, 1, none⟩) hb u1).setCell (p := ⟨b, 2, none⟩) hb u2
theorem Blk.set3 {w : World} {b : Nat} {t : TypeId} {a0 a1 a2 : Value} (h : Blk w b t #[a0, a1, a2]) (u0 u1 u2 : Value) : Blk (((w.setCell ⟨b, 0, none⟩ u0).setCell ⟨b, 1, none⟩ u1).setCell ⟨b, 2, none⟩ u2) b t #[u0, u1, u2] :=
  Blk.set_ (Blk.set_ (Blk.set_ h 0 u0) 1 u1) 2 u2
theorem Blk.far3 {w : World} {b d : Nat} {t : TypeId} {cs : Array Value} (h : Blk w d t cs) (hb : d ≠ b) (u0 u1 u2 : Value) : Blk (((w.setCell ⟨b, 0, none⟩ u0).setCell ⟨b, 1, none⟩ u1).setCell ⟨b, 2, none⟩ u2) d t cs :=
  Blk.far (Blk.far (Blk.far h (p := ⟨b, 0, none⟩) hb u0) (p := ⟨b, 1, none⟩) hb u1) (p := ⟨b, 2, none⟩) hb u2
/-- What is known while the region that draws powers and stores the links is carried out. -/
def PairS (w : World) (g R X lo H : Nat) (A : Option Addr) (n c : Nat) (rows : List (List Int)) (N G : Int) (b3 b4 : Bool) (W : World) : Prop :=
  Below w.heap.size w W ∧ H ≤ W.heap.size ∧ OwnII W 34 3 lo H A n c rows ∧ Blk W X 27 #[.slice A n c, .int .i64 N, .int .i64 G] ∧ (∃ v0 v1 v2, Blk W R 27 #[v0, v1, v2]) ∧
  (b3 = false → ∃ qq, qq ≤ 5000 ∧ Rd W g qq) ∧ (b4 = true → Blk W R 27 #[.slice A n c, .int .i64 N, .int .i64 G])
set_option maxRecDepth 100000 in
set_option maxHeartbeats 3200000 in
theorem drawPowerStep_any (A : Option Addr) (n c B : Nat) (bs : List Int) (w : World) (h : RB w B A n bs) (hB : B ≤ w.heap.size) (hc : n ≤ c) (hn : n ≤ 1048576) (hb : ∀ x ∈ bs, 0 ≤ x ∧ x ≤ 255) :
    Calls Try.prog 29 #[.slice A n c] w fun e w' => DrawnLI w e w' := by
  have hg : (w.alloc (.cells #[.slice none 0 0, .int .i64 0, .int .i64 0] 27)).heap.size = w.heap.size + 1 := by simp
  have ho := l20Open_any A n c B bs (w.alloc (.cells #[.slice none 0 0, .int .i64 0, .int .i64 0] 27)) (RV.alloc h hB _) (by omega) hc hn hb
  have kR := Blk.new w 27 #[.slice none 0 0, .int .i64 0, .int .i64 0]
  have BW := (Below.refl w.heap.size w).alloc (Nat.le_refl _) (.cells #[.slice none 0 0, .int .i64 0, .int .i64 0] 27)
  rw [hg] at ho
  clear hb h hg
  go_enter Try.func29, Try.ntmps29
  go_wp2_with fail
  refine ho.mono ?_
  rintro e w1 ⟨rfl, hr, hb1, hs1⟩
  have kR1 := Blk.below kR hb1 (Nat.lt_succ_self _)
  have hz1 := hb1.size
  have BW1 := BW.trans (hb1.mono (by simp))
  have hw1 : w.heap.size + 1 < w1.heap.size := hr.lt
  clear ho kR hb1 BW
  go_wp2_with fail
  refine (l20Links_any _ 0 12 _ hr (by omega) (by omega)).mono ?_
  rintro e w2 ⟨A2, n2, c2, rows, N, G, rfl, tab, hn2, ⟨q', _, hq', hr2⟩, ho2⟩
  have hz2 := ho2.size
  obtain ⟨X, hX⟩ : ∃ X, w2.heap.size = X := ⟨_, rfl⟩
  obtain ⟨W5, HW5⟩ : ∃ W : World, W = w2.alloc (.cells #[.slice A2 n2 c2, .int .i64 N, .int .i64 G] 27) := ⟨_, rfl⟩
  obtain ⟨H, hH⟩ : ∃ H, W5.heap.size = H := ⟨_, rfl⟩
  have hHX : H = X + 1 := by rw [← hH, HW5, ← hX]; simp
  have kR2 := Blk.only kR1 ho2 (by omega)
  have BW2 := BW1.trans (ho2.below (B := w.heap.size) (by omega) (by omega))
  have tab5 : OwnII W5 34 3 (w.heap.size + 2) H A2 n2 c2 rows := by rw [HW5]; exact OwnVV.more (OwnVV.alloc tab _) (by omega) (by omega)
  have kX5 : Blk W5 X 27 #[.slice A2 n2 c2, .int .i64 N, .int .i64 G] := by rw [HW5, ← hX]; exact Blk.new _ _ _
  have kR5 : Blk W5 w.heap.size 27 #[.slice none 0 0, .int .i64 0, .int .i64 0] := by rw [HW5]; exact Blk.alloc kR2 _
  have BW5 : Below w.heap.size w W5 := by rw [HW5]; exact BW2.alloc (by omega) _
  have hr5 : Rd W5 (w.heap.size + 1) q' := by rw [HW5]; exact hr2.alloc _
  clear kR1 kR2 tab ho2 hr hr2 BW1 BW2
  have HS0 := hid (show PairS w (w.heap.size + 1) w.heap.size X (w.heap.size + 2) H A2 n2 c2 rows N G false false W5.drew from ⟨BW5.drew, Nat.le_of_eq hH.symm, tab5, kX5, ⟨_, _, _, kR5⟩, fun _ => ⟨q', by omega, hr5⟩, fun h => (by cases h)⟩)
  clear tab5 kX5 kR5 BW5 hr5
  go_wp2_with fail
  simp only [← HW5]
  clear HW5
  refine wp_region_gL (by kernel_rfl) [[], [], [], [1, 2], [0, 3], [3]] (by kernel_rfl) 6 (by rfl) [some 10, some 11, some 12, some 13, none, some 3] (by rfl)
    [fun v x _ => v = .agg #[.slice A2 n2 c2, .int .i64 N, .int .i64 G],
     fun v x _ => v = .pointer (some ⟨w.heap.size + 1, 0, none⟩),
     fun v x _ => v = .agg #[.slice A2 n2 c2, .int .i64 N, .int .i64 G],
     fun v x w' => ∃ (A' : Option Addr) (n' c' : Nat) (xs : List Int), v = .slice A' n' c' ∧ OwnI w' 3 H w'.heap.size A' n' c' xs ∧ xs.length ≤ 11,
     fun v x _ => True,
     fun v x w' => ∃ (A' : Option Addr) (n' c' : Nat) (xs : List Int), v = .slice A' n' c' ∧ OwnI w' 3 H w'.heap.size A' n' c' xs ∧ xs.length ≤ 11]
    (fun L x w' => PairS w (w.heap.size + 1) w.heap.size X (w.heap.size + 2) H A2 n2 c2 rows N G (L 3) (L 4) w') (NewR H) (fun _ => NewR.refl _ _) (fun x => HS0.out) ?loc ?ob ?fin
  case loc =>
    refine ⟨⟨⟨⟨⟨⟨trivial, ?_⟩, ?_⟩, ?_⟩, ?_⟩, ?_⟩, ?_⟩
    · exact fun _ _ _ _ _ _ _ h => h
    · exact fun _ _ _ _ _ _ _ h => h
    · exact fun _ _ _ _ _ _ _ h => h
    · intro v x x' w w' hx hR h
      revert h
      show (fun v x w' => ∃ (A' : Option Addr) (n' c' : Nat) (xs : List Int), v = .slice A' n' c' ∧ OwnI w' 3 H w'.heap.size A' n' c' xs ∧ xs.length ≤ 11) v x w → (fun v x w' => ∃ (A' : Option Addr) (n' c' : Nat) (xs : List Int), v = .slice A' n' c' ∧ OwnI w' 3 H w'.heap.size A' n' c' xs ∧ xs.length ≤ 11) v x' w'
      intro h
      obtain ⟨A', n', c', xs, e, ho, hx⟩ := h; exact ⟨A', n', c', xs, e, OwnV.more (OwnV.keep ho hR.1 (fun k h1 _ h3 => hR.2 k h1 h3)) (Nat.le_refl _) hR.1, hx⟩
    · intro v x x' w w' hx hR h
      revert h
      show (fun v x _ => True) v x w → (fun v x _ => True) v x' w'
      intro h
      exact h
    · intro v x x' w w' hx hR h
      revert h
      show (fun v x w' => ∃ (A' : Option Addr) (n' c' : Nat) (xs : List Int), v = .slice A' n' c' ∧ OwnI w' 3 H w'.heap.size A' n' c' xs ∧ xs.length ≤ 11) v x w → (fun v x w' => ∃ (A' : Option Addr) (n' c' : Nat) (xs : List Int), v = .slice A' n' c' ∧ OwnI w' 3 H w'.heap.size A' n' c' xs ∧ xs.length ≤ 11) v x' w'
      intro h
      obtain ⟨A', n', c', xs, e, ho, hx⟩ := h; exact ⟨A', n', c', xs, e, OwnV.more (OwnV.keep ho hR.1 (fun k h1 _ h3 => hR.2 k h1 h3)) (Nat.le_refl _) hR.1, hx⟩
  case ob =>
    refine ⟨⟨⟨⟨⟨⟨trivial, ?_⟩, ?_⟩, ?_⟩, ?_⟩, ?_⟩, ?_⟩
    · intro L hL hLa hLc x W hS hd KO hK
      clear hd
      obtain ⟨x0, x1, x2⟩ := blk3 hS.2.2.2.1
      simp only [List.getD_cons_zero, fillL, Nat.reduceAdd, Act.put, List.setIfInBounds_toArray, List.set_cons_zero, List.set_cons_succ] at hK ⊢
      refine wpOp_plain rfl rfl ?_
      go_simp
      exact hK _ _ hS (NewR.refl _ _) rfl
    · intro L hL hLa hLc x W hS hd KO hK
      clear hd
      simp only [List.getD_cons_zero, List.getD_cons_succ, fillL, Nat.reduceAdd, Act.put, List.setIfInBounds_toArray, List.set_cons_zero, List.set_cons_succ] at hK ⊢
      refine wpOp_plain rfl rfl ?_
      go_simp
      exact hK _ _ hS (NewR.refl _ _) rfl
    · intro L hL hLa hLc x W hS hd KO hK
      clear hd
      obtain ⟨x0, x1, x2⟩ := blk3 hS.2.2.2.1
      simp only [List.getD_cons_zero, List.getD_cons_succ, fillL, Nat.reduceAdd, Act.put, List.setIfInBounds_toArray, List.set_cons_zero, List.set_cons_succ] at hK ⊢
      refine wpOp_plain rfl rfl ?_
      go_simp
      exact hK _ _ hS (NewR.refl _ _) rfl
    · intro L hL hLa hLc x W hS hd KO hK
      have h1 : (fun v x _ => v = .pointer (some ⟨w.heap.size + 1, 0, none⟩)) (x 1) x W := hd 1 (by decide)
      have e1 : x 1 = .pointer (some ⟨w.heap.size + 1, 0, none⟩) := h1
      clear h1
      have h2 : (fun v x _ => v = .agg #[.slice A2 n2 c2, .int .i64 N, .int .i64 G]) (x 2) x W := hd 2 (by decide)
      have e2 : x 2 = .agg #[.slice A2 n2 c2, .int .i64 N, .int .i64 G] := h2
      clear h2
      clear hd
      obtain ⟨s1, s2, s3, s4, ⟨r0, r1, r2, s5⟩, s6, s7⟩ := hS
      obtain ⟨qq, hqq, hrd⟩ := s6 hL
      have hl4 : L 4 = false := Bool.eq_false_iff.2 (fun h => absurd (hLc 4 3 h (by decide)) (by rw [hL]; simp))
      have HQ := hid (And.intro s1 (And.intro s3 (And.intro s4 s5)))
      clear s1 s3 s4 s5 s7
      simp only [List.getD_cons_zero, List.getD_cons_succ, fillL, Nat.reduceAdd, Act.put, List.setIfInBounds_toArray, List.set_cons_zero, List.set_cons_succ, e1, e2] at hK ⊢
      refine wpOp_plain rfl rfl ?_
      go_simp
      refine (l20Powers_any _ qq n2 c2 A2 N G W hrd (by omega) hn2).mono ?_
      rintro e W1 ⟨A1, n1, c1, xs, rfl, m1, hx, ⟨q1, _, _, _⟩, ho⟩
      have hz1 := ho.size
      have HM := hid (And.intro m1 ho)
      clear m1 ho
      go_wp2_with fail
      exact hK _ _ (show PairS w (w.heap.size + 1) w.heap.size X (w.heap.size + 2) H A2 n2 c2 rows N G true (L 4) W1 from ⟨HQ.out.1.trans (HM.out.2.below (by omega) (by have := HQ.out.1.size; omega)), by omega, OwnVV.only HQ.out.2.1 HM.out.2 (.inr (by omega)), Blk.only HQ.out.2.2.1 HM.out.2 (by omega), ⟨r0, r1, r2, Blk.only HQ.out.2.2.2 HM.out.2 (by omega)⟩, fun h => (by cases h), fun h => (by rw [hl4] at h; cases h)⟩) (NewR.only HM.out.2 (by omega)) ⟨A1, n1, c1, xs, rfl, OwnV.more (Mine.own HM.out.1) s2 (Nat.le_refl _), hx⟩
    · intro L hL hLa hLc x W hS hd KO hK
      have h0 : (fun v x _ => v = .agg #[.slice A2 n2 c2, .int .i64 N, .int .i64 G]) (x 0) x W := hd 0 (by decide)
      have e0 : x 0 = .agg #[.slice A2 n2 c2, .int .i64 N, .int .i64 G] := h0
      clear h0
      have h3 : (fun v x w' => ∃ (A' : Option Addr) (n' c' : Nat) (xs : List Int), v = .slice A' n' c' ∧ OwnI w' 3 H w'.heap.size A' n' c' xs ∧ xs.length ≤ 11) (x 3) x W := hd 3 (by decide)
      clear hd
      obtain ⟨s1, s2, s3, s4, ⟨r0, r1, r2, s5⟩, s6, s7⟩ := hS
      have hl3 : L 3 = true := hLa 3 (by decide)
      obtain ⟨y0, y1, y2⟩ := blk3 s5
      have f0 := s5.frozen 0
      have f1 := s5.frozen 1
      have f2 := s5.frozen 2
      have HQ := hid (And.intro s1 (And.intro s3 (And.intro s4 s5)))
      clear s1 s3 s4 s5 s6 s7
      simp only [List.getD_cons_zero, List.getD_cons_succ, fillL, Nat.reduceAdd, Act.put, List.setIfInBounds_toArray, List.set_cons_zero, List.set_cons_succ, e0] at hK ⊢
      refine wpOp_plain rfl rfl ?_
      go_simp
      exact hK undef _ (show PairS w (w.heap.size + 1) w.heap.size X (w.heap.size + 2) H A2 n2 c2 rows N G (L 3) true (((W.setCell ⟨w.heap.size, 0, none⟩ (.slice A2 n2 c2)).setCell ⟨w.heap.size, 1, none⟩ (.int .i64 N)).setCell ⟨w.heap.size, 2, none⟩ (.int .i64 G)) from ⟨Below.set3 HQ.out.1 (Nat.le_refl _) _ _ _, by simpa [World.setCell] using s2, OwnVV.set3 HQ.out.2.1 (by omega) _ _ _, Blk.far3 HQ.out.2.2.1 (by omega) _ _ _, ⟨_, _, _, Blk.set3 HQ.out.2.2.2 _ _ _⟩, fun h => (by rw [hl3] at h; cases h), fun _ => Blk.set3 HQ.out.2.2.2 _ _ _⟩) (NewR.set3 _ (by omega) _ _ _) trivial
    · intro L hL hLa hLc x W hS hd KO hK
      have h3 : (fun v x w' => ∃ (A' : Option Addr) (n' c' : Nat) (xs : List Int), v = .slice A' n' c' ∧ OwnI w' 3 H w'.heap.size A' n' c' xs ∧ xs.length ≤ 11) (x 3) x W := hd 3 (by decide)
      clear hd
      obtain ⟨A1, n1, c1, xs, e3, o3, hx⟩ := h3
      simp only [List.getD_cons_zero, List.getD_cons_succ, fillL, Nat.reduceAdd, Act.put, List.setIfInBounds_toArray, List.set_cons_zero, List.set_cons_succ, e3] at hK ⊢
      refine wpOp_plain rfl rfl ?_
      go_simp
      exact hK _ _ hS (NewR.refl _ _) ⟨A1, n1, c1, xs, rfl, o3, hx⟩
  case fin =>
    intro x W L hL hS hd
    have h0 : (fun v x _ => v = .agg #[.slice A2 n2 c2, .int .i64 N, .int .i64 G]) (x 0) x W := hd 0 (by decide)
    have e0 : x 0 = .agg #[.slice A2 n2 c2, .int .i64 N, .int .i64 G] := h0
    clear h0
    have h1 : (fun v x _ => v = .pointer (some ⟨w.heap.size + 1, 0, none⟩)) (x 1) x W := hd 1 (by decide)
    have e1 : x 1 = .pointer (some ⟨w.heap.size + 1, 0, none⟩) := h1
    clear h1
    have h2 : (fun v x _ => v = .agg #[.slice A2 n2 c2, .int .i64 N, .int .i64 G]) (x 2) x W := hd 2 (by decide)
    have e2 : x 2 = .agg #[.slice A2 n2 c2, .int .i64 N, .int .i64 G] := h2
    clear h2
    have h3 : (fun v x w' => ∃ (A' : Option Addr) (n' c' : Nat) (xs : List Int), v = .slice A' n' c' ∧ OwnI w' 3 H w'.heap.size A' n' c' xs ∧ xs.length ≤ 11) (x 3) x W := hd 3 (by decide)
    have h4 : (fun v x _ => True) (x 4) x W := hd 4 (by decide)
    have h5 : (fun v x w' => ∃ (A' : Option Addr) (n' c' : Nat) (xs : List Int), v = .slice A' n' c' ∧ OwnI w' 3 H w'.heap.size A' n' c' xs ∧ xs.length ≤ 11) (x 5) x W := hd 5 (by decide)
    clear hd
    simp only [fillL, Nat.reduceAdd, Act.put, List.setIfInBounds_toArray, List.set_cons_zero, List.set_cons_succ, e0, e1, e2]
    clear e0 e1 e2
    have hl4 := hL 4 (by omega)
    obtain ⟨s1, s2, s3, s4, _, _, s7⟩ := hS
    have kR9 := s7 hl4
    obtain ⟨A1, n1, c1, xs, e5, o5, hx⟩ := h5
    have HF := hid (show DrawnLI w (.returned (.tuple #[.agg #[.slice A2 n2 c2, .int .i64 N, .int .i64 G], .slice A1 n1 c1])) W from ⟨A2, n2, c2, rows, N, G, A1, n1, c1, xs, rfl, RVV.more (OwnII.rii s3) s2, hn2, OwnI.ri o5, by rw [← OwnI.len o5]; exact hx, s1⟩)
    simp only [e5]
    clear s1 s3 s4 s7 o5 HS0 h4
    obtain ⟨y0, y1, y2⟩ := blk3 kR9
    clear kR9
    go_wp2
    refine bodyPost_ret (v := .tuple #[.agg #[.slice A2 n2 c2, .int .i64 N, .int .i64 G], .slice A1 n1 c1]) (by rw [results_cell_tmp rfl]; go_simp) rfl HF.out
end Go.Proofs.Ytajnpmnedghckaa
