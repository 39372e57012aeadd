/-
  FnLinksValid, walked: links without noise, or whose first receiver does not hear its sender, are invalid.
-/
import Derived.Test.YtajnpmnedghckaaDPow
import Derived.Test.YtajnpmnedghckaaPowA
import Derived.Test.YtajnpmnedghckaaAlive
import Derived.Test.YtajnpmnedghckaaApp
import Derived.OpenShut
namespace Go.Proofs.Ytajnpmnedghckaa
open Go.RowKit
set_option linter.unusedVariables false

/-- The table's parts: its rows' headers, the first by itself. -/
theorem RII.parts {w : World} {B n : Nat} {A : Option Addr} {rows : List (List Int)} (h : RII w B A n rows) (hn : 0 < n) :
    ∃ b o A0 n0 c0 r0 rt vt, A = some ⟨b, o, none⟩ ∧ b < B ∧ rows = r0 :: rt ∧ w.cell? ⟨b, o, none⟩ = some (.slice A0 n0 c0) ∧ RI w B A0 n0 r0 ∧ RV w B A n (.slice A0 n0 c0 :: vt) ∧ (∀ v ∈ vt, v.oneCell' = true) ∧
      ∀ w' A' m A2 c2 r2, RV w' w'.heap.size A' m (.slice A2 n0 c2 :: vt) → (∀ p : Addr, p.block < B → w'.cell? p = w.cell? p) → B ≤ w'.heap.size → RI w' w'.heap.size A2 n0 r2 → n0 ≤ c2 → c2 ≤ maxLen → RII w' w'.heap.size A' m (r2 :: rt) := by
  obtain ⟨ds, h1, h2, h3⟩ := h
  have hl : ds.length = n := by have := h1.1; simpa using this
  match ds, hl with
  | [], hl => simp at hl; omega
  | d :: dt, hl =>
    match rows, h2 with
    | [], h2 => simp at h2; omega
    | r0 :: rt, h2 =>
      obtain ⟨b, o, e, hb, hc⟩ := h1.2 hn
      have h0 := h3 0 d (r0.map (Value.int .i64)) rfl rfl
      refine ⟨b, o, d.1, d.2.1, d.2.2, r0, rt, dt.map slv, e, hb, rfl, by have := hc 0 (slv d) rfl; simpa [slv] using this, h0.1, h1, fun v hv => by obtain ⟨x, _, rfl⟩ := List.mem_map.1 hv; rfl, ?_⟩
      intro w' A' m A2 c2 r2 hr hk hBw hr2 hn2 hc2
      refine ⟨(A2, d.2.1, c2) :: dt, hr, by have := hr.1; simp at this h2 ⊢; have := h1.1; simp at this; omega, ?_⟩
      intro j d' vs hd hv
      match j, hd, hv with
      | 0, hd, hv =>
        simp at hd hv
        subst hd hv
        exact ⟨hr2, hn2, hc2⟩
      | j + 1, hd, hv =>
        have := h3 (j + 1) d' vs hd hv
        exact ⟨RV.more (RV.keep this.1 hk) hBw, this.2⟩

theorem RV.newR {w w' : World} {n H : Nat} {A : Option Addr} {vs : List Value} (h : RV w w.heap.size A n vs) (hA : ∀ p, A = some p → H ≤ p.block) (hR : NewR H w w') : RV w' w.heap.size A n vs :=
  ⟨h.1, fun hn => by
    obtain ⟨b, o, e, hb, hc⟩ := h.2 hn
    exact ⟨b, o, e, hb, fun j v hv => (World.cell?_of_block (hR.2 b (hA _ e) hb)).trans (hc j v hv)⟩⟩
/-- What is known while the drawn region is carried out. -/
def LvS (w1 : World) (X XA XB H : Nat) (A : Option Addr) (n c : Nat) (N G : Int) (b10 : Bool) (v8 : Value) (W : World) : Prop :=
  Below w1.heap.size w1 W ∧ H ≤ W.heap.size ∧ Blk W X 27 #[.slice A n c, .int .i64 N, .int .i64 G] ∧ Blk W XA 27 #[.slice A n c, .int .i64 0, .int .i64 G] ∧
  (∃ v, Blk W XB 27 #[v, .int .i64 N, .int .i64 G]) ∧ (b10 = true → Blk W XB 27 #[v8, .int .i64 N, .int .i64 G])
set_option maxRecDepth 100000 in
set_option maxHeartbeats 3200000 in
theorem fnLinksValid_walk {A : Option Addr} {n c : Nat} {bs : List Int} (w : World) (h : RV w w.heap.size A n (bs.map (Value.int .u8))) (wf : ∀ x ∈ bs, (Lit.int .u8 x).wf = true) (hl : n ≤ c) (hm : c ≤ maxLen) :
    Calls Try.prog 4 #[.slice A n c] w fun e w' => e = .returned (.bool true) ∧ Below w.heap.size w w' := by
  unfold maxLen at hm
  by_cases hn : n ≤ 1048576
  · have hd := drawLinksValid_any A n c w.heap.size bs w h (Nat.le_refl _) hl hn (fun x hx => bounds_u8 (wf x hx))
    obtain ⟨i0, hi0, hz0, hz1, hz2⟩ := info_parts infoInt
    obtain ⟨i1, hj0, hj1, hj2, hj3⟩ := info_parts infoRowD
    clear wf h
    go_enter Try.func4, Try.ntmps4
    go_wp2_with fail
    refine hd.mono ?_
    rintro e w1 ⟨A1, n1, c1, rows, N, G, rfl, tab, hn10, hb1⟩
    have hnc := tab.cap
    have hcm := tab.capm
    have hr1 := OwnII.rii tab
    have HL := hid (RII.len hr1)
    have HB1 := hid hb1
    obtain ⟨W, HW⟩ : ∃ W : World, W = w1.alloc (.cells #[.slice A1 n1 c1, .int .i64 N, .int .i64 G] 27) := ⟨_, rfl⟩
    have kX : Blk W w1.heap.size 27 #[.slice A1 n1 c1, .int .i64 N, .int .i64 G] := by rw [HW]; exact Blk.new _ _ _
    have rW : RII W w1.heap.size A1 n1 rows := by rw [HW]; exact RVV.alloc hr1 (Nat.le_refl _) _
    have bW : Below w1.heap.size w1 W := by rw [HW]; exact (Below.refl _ _).alloc (Nat.le_refl _) _
    have hWz : W.heap.size = w1.heap.size + 1 := by rw [HW]; simp
    obtain ⟨M, HM⟩ : ∃ M, Hid (linksB rows N G = M) := ⟨_, hid rfl⟩
    have hc1 := linksValid_impl A1 n1 c1 w1.heap.size rows N G W rW (by omega) (by omega)
    rw [HM.out] at hc1
    have HC1 := hid hc1
    have hMM : (M != M) = false := by simp
    obtain ⟨cw0, cw1, cw2⟩ := blk3 kX
    clear hd hb1 hc1 tab
    go_wp2_with fail
    simp only [← HW]
    clear HW
    refine HC1.out.mono ?_
    rintro e w2 ⟨rfl, hb2⟩
    have k2 := Blk.below kX hb2 kX.lt
    have b2 := bW.trans (hb2.mono bW.size)
    have hc2 := linksValid_spec A1 n1 c1 w1.heap.size rows N G w2 (RVV.below hr1 b2) b2.size (by omega)
    rw [HM.out] at hc2
    have HC2 := hid hc2
    clear cw0 cw1 cw2 hc2 kX bW rW hb2
    obtain ⟨cw0, cw1, cw2⟩ := blk3 k2
    go_wp2_with fail
    refine HC2.out.mono ?_
    rintro e w3 ⟨rfl, hb3⟩
    have k3 := Blk.below k2 hb3 k2.lt
    have b3 := b2.trans (hb3.mono b2.size)
    clear cw0 cw1 cw2 b2 hb3 k2
    cases M
    · have HF := hid (HB1.out.trans (b3.mono HB1.out.size))
      clear b3 k3 hr1
      go_wp2_with fail
      refine (alive_any _).mono ?_
      rintro e w5 ⟨rfl, hb5⟩
      have HB5 := hid (HF.out.trans (hb5.mono HF.out.size))
      clear hb5
      go_wp2
      go_ret
      exact ⟨rfl, HB5.out⟩
    · have HLO := hid (linksB_iff.1 HM.out)
      have hn0 : 0 < n1 := by rw [← HL.out]; exact HLO.out.1
      have hmk := run_make_row' (P := Try.prog) 34 3 (.int .i64 0) 8 Try.underlying34 infoInt rfl .i64 .i64 n1 (by omega) (by omega)
      have HMK := hid hmk
      obtain ⟨b, o, A0, n0, c0, r0, rt, vt, rfl, hb, hrows, hcl, hr0, hrv, hvs, hback⟩ := RII.parts hr1 hn0
      have hr0l : r0.length = n1 := by
        have := (HLO.out.2.2.2.2.2.2 0 r0 (by rw [hrows]; rfl)).1
        rw [this, HL.out]
      have hn01 : n1 = n0 := by rw [← RI.len hr0]; exact hr0l.symm
      subst hn01
      obtain ⟨A7, hA7⟩ : ∃ A7 : Option Addr, (if c1 = 1 then some (⟨b, o, none⟩ : Addr) else (some (⟨b, o, none⟩ : Addr)).map (·.add 1)) = A7 := ⟨_, rfl⟩
      have HT := hid (show RV w1 w1.heap.size A7 (n1 - 1) vt by rw [← hA7]; exact RV.tail hrv hnc)
      have HVS := hid hvs
      have HBK := hid hback
      have HR1 := hid hr1
      have h1n : (1 : Int) ≤ (n1 : Int) := by omega
      obtain ⟨X, hX⟩ : ∃ X, w1.heap.size = X := ⟨_, rfl⟩
      obtain ⟨XA, hXA⟩ : ∃ XA, w3.heap.size = XA := ⟨_, rfl⟩
      have hXXA : X < XA := by rw [← hX, ← hXA]; exact k3.lt
      obtain ⟨W5, HW5⟩ : ∃ W : World, W = (w3.alloc (.cells #[.slice (some ⟨b, o, none⟩) n1 c1, .int .i64 0, .int .i64 G] 27)).alloc (.cells #[.slice (some ⟨b, o, none⟩) n1 c1, .int .i64 N, .int .i64 G] 27) := ⟨_, rfl⟩
      have hz5 : W5.heap.size = XA + 2 := by rw [HW5]; simp [hXA]
      have kX5 : Blk W5 X 27 #[.slice (some ⟨b, o, none⟩) n1 c1, .int .i64 N, .int .i64 G] := by rw [HW5, ← hX]; exact Blk.alloc (Blk.alloc k3 _) _
      have kA5 : Blk W5 XA 27 #[.slice (some ⟨b, o, none⟩) n1 c1, .int .i64 0, .int .i64 G] := by rw [HW5, ← hXA]; exact Blk.alloc (Blk.new _ _ _) _
      have kB5 : Blk W5 (XA + 1) 27 #[.slice (some ⟨b, o, none⟩) n1 c1, .int .i64 N, .int .i64 G] := by
        have := Blk.new (w3.alloc (.cells #[.slice (some ⟨b, o, none⟩) n1 c1, .int .i64 0, .int .i64 G] 27)) 27 #[.slice (some ⟨b, o, none⟩) n1 c1, .int .i64 N, .int .i64 G]
        have e : (w3.alloc (.cells #[.slice (some ⟨b, o, none⟩) n1 c1, .int .i64 0, .int .i64 G] 27)).heap.size = XA + 1 := by simp [hXA]
        rw [e] at this
        rw [HW5]; exact this
      have b5 : Below w1.heap.size w1 W5 := by rw [HW5]; exact (b3.alloc b3.size _).alloc (by simp; have := b3.size; omega) _
      obtain ⟨XB, hXB⟩ : ∃ XB, XA + 1 = XB := ⟨_, rfl⟩
      rw [hXB] at kB5
      obtain ⟨H, hH⟩ : ∃ H, XA + 2 = H := ⟨_, rfl⟩
      have HS0 := hid (fun v8 => show LvS w1 X XA XB H (some ⟨b, o, none⟩) n1 c1 N G false v8 W5.drew from ⟨b5.drew, (show H ≤ W5.heap.size by omega), kX5, kA5, ⟨_, kB5⟩, fun h => (by cases h)⟩)
      obtain ⟨cw0, cw1, cw2⟩ := blk3 k3
      have ca0 := (World.cell?_alloc_lt w3 (.cells #[.slice (some ⟨b, o, none⟩) n1 c1, .int .i64 0, .int .i64 G] 27) ⟨w1.heap.size, 0, none⟩ k3.lt).trans cw0
      have ca1 := (World.cell?_alloc_lt w3 (.cells #[.slice (some ⟨b, o, none⟩) n1 c1, .int .i64 0, .int .i64 G] 27) ⟨w1.heap.size, 1, none⟩ k3.lt).trans cw1
      have ca2 := (World.cell?_alloc_lt w3 (.cells #[.slice (some ⟨b, o, none⟩) n1 c1, .int .i64 0, .int .i64 G] 27) ⟨w1.heap.size, 2, none⟩ k3.lt).trans cw2
      have cn1 : (w3.alloc (.cells #[.slice (some ⟨b, o, none⟩) n1 c1, .int .i64 N, .int .i64 G] 27)).cell? ⟨w3.heap.size, 1, none⟩ = some (.int .i64 N) := (blk3 (Blk.new w3 27 #[.slice (some ⟨b, o, none⟩) n1 c1, .int .i64 N, .int .i64 G])).2.1
      rw [hX] at cw0 cw1 cw2 ca0 ca1 ca2
      rw [hXA] at cn1
      have hX3 : X < w3.heap.size := by omega
      clear hrows hcl hr0 hrv hvs hback hr0l hr1 kX5 kA5 kB5 b5 hmk k3 b3
      go_wp2_with fail
      simp only [← HW5]
      clear HW5 cw0 cw1 cw2 ca0 ca1 ca2 cn1
      refine wp_region_gL (by kernel_rfl) [[], [0], [1], [2], [3], [], [5], [6], [4, 7], [], [8, 9]] (by kernel_rfl) 11 (by rfl) [some 24, some 25, some 26, some 27, some 28, some 29, some 30, some 31, some 32, some 33, none] (by rfl)
        [fun v x _ => v = .pointer (some ⟨X, 0, none⟩),
         fun v x _ => v = .slice (some ⟨b, o, none⟩) n1 c1,
         fun v x _ => v = .int .i64 (n1 : Int),
         fun v x w' => ∃ g3 : Nat, v = .slice (some ⟨g3, 0, none⟩) n1 n1 ∧ OwnI w' 3 H w'.heap.size (some ⟨g3, 0, none⟩) n1 n1 (List.replicate n1 0),
         fun v x w' => ∃ g4 g3 : Nat, v = .slice (some ⟨g4, 0, none⟩) 1 1 ∧ Blk w' g4 34 #[.slice (some ⟨g3, 0, none⟩) n1 n1] ∧ H ≤ g4 ∧ OwnI w' 3 H g4 (some ⟨g3, 0, none⟩) n1 n1 (List.replicate n1 0),
         fun v x _ => v = .pointer (some ⟨X, 0, none⟩),
         fun v x _ => v = .slice (some ⟨b, o, none⟩) n1 c1,
         fun v x _ => v = .slice A7 (n1 - 1) (c1 - 1),
         fun v x w' => ∃ (A8 : Option Addr) (c8 g3 : Nat), v = .slice A8 (1 + (n1 - 1)) c8 ∧ RV w' w'.heap.size A8 (1 + (n1 - 1)) (.slice (some ⟨g3, 0, none⟩) n1 n1 :: vt) ∧ (∀ p, A8 = some p → H ≤ p.block) ∧ OwnI w' 3 H w'.heap.size (some ⟨g3, 0, none⟩) n1 n1 (List.replicate n1 0) ∧ 1 + (n1 - 1) ≤ c8 ∧ c8 ≤ maxLen,
         fun v x _ => v = .pointer (some ⟨XB, 0, none⟩),
         fun v x _ => True]
        (fun L x w' => LvS w1 X XA XB H (some ⟨b, o, none⟩) n1 c1 N G (L 10) (x 8) w') (NewR H) (fun _ => NewR.refl _ _) (fun x => HS0.out _) ?loc ?ob ?fin
      case loc =>
        refine ⟨⟨⟨⟨⟨⟨⟨⟨⟨⟨⟨trivial, ?_⟩, ?_⟩, ?_⟩, ?_⟩, ?_⟩, ?_⟩, ?_⟩, ?_⟩, ?_⟩, ?_⟩, ?_⟩
        · exact fun _ _ _ _ _ _ _ h => h
        · exact fun _ _ _ _ _ _ _ h => h
        · exact fun _ _ _ _ _ _ _ h => h
        · intro v x x' w w' hx hR h
          revert h
          show (fun v x w' => ∃ g3 : Nat, v = .slice (some ⟨g3, 0, none⟩) n1 n1 ∧ OwnI w' 3 H w'.heap.size (some ⟨g3, 0, none⟩) n1 n1 (List.replicate n1 0)) v x w → (fun v x w' => ∃ g3 : Nat, v = .slice (some ⟨g3, 0, none⟩) n1 n1 ∧ OwnI w' 3 H w'.heap.size (some ⟨g3, 0, none⟩) n1 n1 (List.replicate n1 0)) v x' w'
          intro h
          obtain ⟨g3, e, ho⟩ := h; exact ⟨g3, e, OwnV.more (OwnV.keep ho hR.1 (fun k h1 _ h3 => hR.2 k h1 h3)) (Nat.le_refl _) hR.1⟩
        · intro v x x' w w' hx hR h
          revert h
          show (fun v x w' => ∃ g4 g3 : Nat, v = .slice (some ⟨g4, 0, none⟩) 1 1 ∧ Blk w' g4 34 #[.slice (some ⟨g3, 0, none⟩) n1 n1] ∧ H ≤ g4 ∧ OwnI w' 3 H g4 (some ⟨g3, 0, none⟩) n1 n1 (List.replicate n1 0)) v x w → (fun v x w' => ∃ g4 g3 : Nat, v = .slice (some ⟨g4, 0, none⟩) 1 1 ∧ Blk w' g4 34 #[.slice (some ⟨g3, 0, none⟩) n1 n1] ∧ H ≤ g4 ∧ OwnI w' 3 H g4 (some ⟨g3, 0, none⟩) n1 n1 (List.replicate n1 0)) v x' w'
          intro h
          obtain ⟨g4, g3, e, h1, h2, h3⟩ := h; exact ⟨g4, g3, e, hR.blk h1 h2, h2, OwnV.keep h3 hR.1 (fun k h1 _ h3 => hR.2 k h1 h3)⟩
        · exact fun _ _ _ _ _ _ _ h => h
        · exact fun _ _ _ _ _ _ _ h => h
        · exact fun _ _ _ _ _ _ _ h => h
        · intro v x x' w w' hx hR h
          revert h
          show (fun v x w' => ∃ (A8 : Option Addr) (c8 g3 : Nat), v = .slice A8 (1 + (n1 - 1)) c8 ∧ RV w' w'.heap.size A8 (1 + (n1 - 1)) (.slice (some ⟨g3, 0, none⟩) n1 n1 :: vt) ∧ (∀ p, A8 = some p → H ≤ p.block) ∧ OwnI w' 3 H w'.heap.size (some ⟨g3, 0, none⟩) n1 n1 (List.replicate n1 0) ∧ 1 + (n1 - 1) ≤ c8 ∧ c8 ≤ maxLen) v x w → (fun v x w' => ∃ (A8 : Option Addr) (c8 g3 : Nat), v = .slice A8 (1 + (n1 - 1)) c8 ∧ RV w' w'.heap.size A8 (1 + (n1 - 1)) (.slice (some ⟨g3, 0, none⟩) n1 n1 :: vt) ∧ (∀ p, A8 = some p → H ≤ p.block) ∧ OwnI w' 3 H w'.heap.size (some ⟨g3, 0, none⟩) n1 n1 (List.replicate n1 0) ∧ 1 + (n1 - 1) ≤ c8 ∧ c8 ≤ maxLen) v x' w'
          intro h
          obtain ⟨A8, c8, g3, e, h1, h2, h3, h4⟩ := h; exact ⟨A8, c8, g3, e, RV.more (RV.newR h1 h2 hR) hR.1, h2, OwnV.more (OwnV.keep h3 hR.1 (fun k h1 _ h3 => hR.2 k h1 h3)) (Nat.le_refl _) hR.1, h4⟩
        · exact fun _ _ _ _ _ _ _ h => h
        · intro v x x' w w' hx hR h
          revert h
          show (fun v x _ => True) v x w → (fun v x _ => True) v x' w'
          intro h
          exact h
      case ob =>
        refine ⟨⟨⟨⟨⟨⟨⟨⟨⟨⟨⟨trivial, ?_⟩, ?_⟩, ?_⟩, ?_⟩, ?_⟩, ?_⟩, ?_⟩, ?_⟩, ?_⟩, ?_⟩, ?_⟩
        · intro L hL hLa hLc x W hS hd KO hK
          clear hd
          simp only [List.getD_cons_zero, fillL, Nat.reduceAdd, Act.put, List.setIfInBounds_toArray, List.set_cons_zero, List.set_cons_succ] at hK ⊢
          refine wpOp_plain rfl rfl ?_
          go_simp
          exact hK _ _ hS (NewR.refl _ _) rfl
        · intro L hL hLa hLc x W hS hd KO hK
          have h0 : (fun v x _ => v = .pointer (some ⟨X, 0, none⟩)) (x 0) x W := hd 0 (by decide)
          have e0 : x 0 = .pointer (some ⟨X, 0, none⟩) := h0
          clear h0
          clear hd
          obtain ⟨x0, x1, x2⟩ := blk3 hS.2.2.1
          simp only [List.getD_cons_zero, List.getD_cons_succ, fillL, Nat.reduceAdd, Act.put, List.setIfInBounds_toArray, List.set_cons_zero, List.set_cons_succ, e0] at hK ⊢
          refine wpOp_plain rfl rfl ?_
          go_simp
          exact hK _ _ hS (NewR.refl _ _) rfl
        · intro L hL hLa hLc x W hS hd KO hK
          have h1 : (fun v x _ => v = .slice (some ⟨b, o, none⟩) n1 c1) (x 1) x W := hd 1 (by decide)
          have e1 : x 1 = .slice (some ⟨b, o, none⟩) n1 c1 := h1
          clear h1
          clear hd
          simp only [List.getD_cons_zero, List.getD_cons_succ, fillL, Nat.reduceAdd, Act.put, List.setIfInBounds_toArray, List.set_cons_zero, List.set_cons_succ, e1] at hK ⊢
          refine wpOp_plain rfl rfl ?_
          go_simp
          exact hK _ _ hS (NewR.refl _ _) rfl
        · intro L hL hLa hLc x W hS hd KO hK
          have h2 : (fun v x _ => v = .int .i64 (n1 : Int)) (x 2) x W := hd 2 (by decide)
          have e2 : x 2 = .int .i64 (n1 : Int) := h2
          clear h2
          clear hd
          have hmk := HMK.out
          have hzH := hS.2.1
          simp only [List.getD_cons_zero, List.getD_cons_succ, fillL, Nat.reduceAdd, Act.put, List.setIfInBounds_toArray, List.set_cons_zero, List.set_cons_succ, e2] at hK ⊢
          refine wpOp_plain rfl rfl ?_
          go_simp
          exact hK _ _ (show LvS w1 X XA XB H (some ⟨b, o, none⟩) n1 c1 N G (L 10) (x 8) _ from ⟨hS.1.alloc (by have := hS.1.size; omega) _, by have := hS.2.1; simp; omega, Blk.alloc hS.2.2.1 _, Blk.alloc hS.2.2.2.1 _, by obtain ⟨v, hv⟩ := hS.2.2.2.2.1; exact ⟨v, Blk.alloc hv _⟩, fun h => Blk.alloc (hS.2.2.2.2.2 h) _⟩) (NewR.alloc _ _ _) ⟨W.heap.size, rfl, ownV_blk (blk_made W _ n1 (0 : Int) rfl) hzH (by simp) (by simp) (by unfold maxLen; omega)⟩
        · intro L hL hLa hLc x W hS hd KO hK
          have h3 : (fun v x w' => ∃ g3 : Nat, v = .slice (some ⟨g3, 0, none⟩) n1 n1 ∧ OwnI w' 3 H w'.heap.size (some ⟨g3, 0, none⟩) n1 n1 (List.replicate n1 0)) (x 3) x W := hd 3 (by decide)
          clear hd
          obtain ⟨g3, e3, o3⟩ := h3
          have hzH := hS.2.1
          simp only [List.getD_cons_zero, List.getD_cons_succ, fillL, Nat.reduceAdd, Act.put, List.setIfInBounds_toArray, List.set_cons_zero, List.set_cons_succ, e3] at hK ⊢
          refine wpOp_plain rfl rfl ?_
          go_simp
          exact hK _ _ (show LvS w1 X XA XB H (some ⟨b, o, none⟩) n1 c1 N G (L 10) (x 8) _ from ⟨hS.1.alloc (by have := hS.1.size; omega) _, by have := hS.2.1; simp; omega, Blk.alloc hS.2.2.1 _, Blk.alloc hS.2.2.2.1 _, by obtain ⟨v, hv⟩ := hS.2.2.2.2.1; exact ⟨v, Blk.alloc hv _⟩, fun h => Blk.alloc (hS.2.2.2.2.2 h) _⟩) (NewR.alloc _ _ _) ⟨W.heap.size, g3, rfl, Blk.new _ _ _, hzH, OwnV.alloc o3 _⟩
        · intro L hL hLa hLc x W hS hd KO hK
          clear hd
          simp only [List.getD_cons_zero, List.getD_cons_succ, fillL, Nat.reduceAdd, Act.put, List.setIfInBounds_toArray, List.set_cons_zero, List.set_cons_succ] at hK ⊢
          refine wpOp_plain rfl rfl ?_
          go_simp
          exact hK _ _ hS (NewR.refl _ _) rfl
        · intro L hL hLa hLc x W hS hd KO hK
          have h5 : (fun v x _ => v = .pointer (some ⟨X, 0, none⟩)) (x 5) x W := hd 5 (by decide)
          have e5 : x 5 = .pointer (some ⟨X, 0, none⟩) := h5
          clear h5
          clear hd
          obtain ⟨x0, x1, x2⟩ := blk3 hS.2.2.1
          simp only [List.getD_cons_zero, List.getD_cons_succ, fillL, Nat.reduceAdd, Act.put, List.setIfInBounds_toArray, List.set_cons_zero, List.set_cons_succ, e5] at hK ⊢
          refine wpOp_plain rfl rfl ?_
          go_simp
          exact hK _ _ hS (NewR.refl _ _) rfl
        · intro L hL hLa hLc x W hS hd KO hK
          have h6 : (fun v x _ => v = .slice (some ⟨b, o, none⟩) n1 c1) (x 6) x W := hd 6 (by decide)
          have e6 : x 6 = .slice (some ⟨b, o, none⟩) n1 c1 := h6
          clear h6
          clear hd
          simp only [List.getD_cons_zero, List.getD_cons_succ, fillL, Nat.reduceAdd, Act.put, List.setIfInBounds_toArray, List.set_cons_zero, List.set_cons_succ, e6] at hK ⊢
          refine wpOp_plain rfl rfl ?_
          go_simp
          exact hK _ _ hS (NewR.refl _ _) (by rw [← hA7]; rfl)
        · intro L hL hLa hLc x W hS hd KO hK
          have h4 : (fun v x w' => ∃ g4 g3 : Nat, v = .slice (some ⟨g4, 0, none⟩) 1 1 ∧ Blk w' g4 34 #[.slice (some ⟨g3, 0, none⟩) n1 n1] ∧ H ≤ g4 ∧ OwnI w' 3 H g4 (some ⟨g3, 0, none⟩) n1 n1 (List.replicate n1 0)) (x 4) x W := hd 4 (by decide)
          have h7 : (fun v x _ => v = .slice A7 (n1 - 1) (c1 - 1)) (x 7) x W := hd 7 (by decide)
          have e7 : x 7 = .slice A7 (n1 - 1) (c1 - 1) := h7
          clear h7
          clear hd
          obtain ⟨g4, g3, e4, hb4, hH4, o4⟩ := h4
          have hg4 := hb4.lt
          have hc4 : W.cell? ⟨g4, 0, none⟩ = some (.slice (some ⟨g3, 0, none⟩) n1 n1) := (hb4.cell 0).trans rfl
          have hl10 : L 10 = false := Bool.eq_false_iff.2 (fun h => absurd (hLc 10 8 h (by decide)) (by rw [hL]; simp))
          simp only [List.getD_cons_zero, List.getD_cons_succ, fillL, Nat.reduceAdd, Act.put, List.setIfInBounds_toArray, List.set_cons_zero, List.set_cons_succ, e7, e4] at hK ⊢
          refine wpOp_ob rfl ?_
          refine step_spread rfl _ _ _ rfl 34 i1 _ 24 Try.underlying22 hj0 hj1 hj2 hj3 rfl (by omega) g4 _ rfl hc4 rfl hg4 _ _ (n1 - 1) _ _ rfl (RV.below HT.out hS.1) (fun u hu => HVS.out u hu) (by omega) ?_
          intro A8 c8 w8 hr8 hb8 hA8 h81 h82
          obtain ⟨s1, s2, s3, s4, ⟨v5, s5⟩, s6⟩ := hS
          have hz8 := hb8.size
          exact hK _ _ (show LvS w1 X XA XB H (some ⟨b, o, none⟩) n1 c1 N G (L 10) _ w8 from ⟨s1.trans (hb8.mono s1.size), by omega, Blk.below s3 hb8 s3.lt, Blk.below s4 hb8 s4.lt, ⟨v5, Blk.below s5 hb8 s5.lt⟩, fun h => (by rw [hl10] at h; cases h)⟩) ⟨hz8, fun k _ hk => hb8.block k hk⟩ ⟨A8, c8, g3, rfl, hr8, fun p hp => (by rcases hA8 p hp with h | h <;> omega), OwnV.more (OwnV.below o4 hb8 (Nat.le_of_lt hg4)) (Nat.le_refl _) (Nat.le_trans (Nat.le_of_lt hg4) hb8.size), h81, h82⟩
        · intro L hL hLa hLc x W hS hd KO hK
          clear hd
          simp only [List.getD_cons_zero, List.getD_cons_succ, fillL, Nat.reduceAdd, Act.put, List.setIfInBounds_toArray, List.set_cons_zero, List.set_cons_succ] at hK ⊢
          refine wpOp_plain rfl rfl ?_
          go_simp
          exact hK _ _ hS (NewR.refl _ _) rfl
        · intro L hL hLa hLc x W hS hd KO hK
          have h8 : (fun v x w' => ∃ (A8 : Option Addr) (c8 g3 : Nat), v = .slice A8 (1 + (n1 - 1)) c8 ∧ RV w' w'.heap.size A8 (1 + (n1 - 1)) (.slice (some ⟨g3, 0, none⟩) n1 n1 :: vt) ∧ (∀ p, A8 = some p → H ≤ p.block) ∧ OwnI w' 3 H w'.heap.size (some ⟨g3, 0, none⟩) n1 n1 (List.replicate n1 0) ∧ 1 + (n1 - 1) ≤ c8 ∧ c8 ≤ maxLen) (x 8) x W := hd 8 (by decide)
          have h9 : (fun v x _ => v = .pointer (some ⟨XB, 0, none⟩)) (x 9) x W := hd 9 (by decide)
          have e9 : x 9 = .pointer (some ⟨XB, 0, none⟩) := h9
          clear h9
          clear hd
          obtain ⟨A8, c8, g3, e8, f1⟩ := h8
          obtain ⟨s1, s2, s3, s4, ⟨v5, s5⟩, s6⟩ := hS
          obtain ⟨y0, y1, y2⟩ := blk3 s5
          have f0 := s5.frozen 0
          have HQ := hid (And.intro s1 (And.intro s3 (And.intro s4 s5)))
          clear s1 s3 s4 s5 s6 f1
          simp only [List.getD_cons_zero, List.getD_cons_succ, fillL, Nat.reduceAdd, Act.put, List.setIfInBounds_toArray, List.set_cons_zero, List.set_cons_succ, e9, e8] at hK ⊢
          refine wpOp_plain rfl rfl ?_
          go_simp
          exact hK undef _ (show LvS w1 X XA XB H (some ⟨b, o, none⟩) n1 c1 N G true (x 8) (W.setCell ⟨XB, 0, none⟩ (.slice A8 (1 + (n1 - 1)) c8)) from ⟨HQ.out.1.setCell (p := ⟨XB, 0, none⟩) (by show w1.heap.size ≤ XB; omega) _, by simpa [World.setCell] using s2, Blk.far HQ.out.2.1 (p := ⟨XB, 0, none⟩) (by show X ≠ XB; omega) _, Blk.far HQ.out.2.2.1 (p := ⟨XB, 0, none⟩) (by show XA ≠ XB; omega) _, ⟨_, Blk.set_ HQ.out.2.2.2 0 _⟩, fun _ => (by rw [e8]; exact Blk.set_ HQ.out.2.2.2 0 _)⟩) (NewR.setCell _ (by show XB < H; omega) _) trivial
      case fin =>
        intro x W L hL hS hd
        have h0 : (fun v x _ => v = .pointer (some ⟨X, 0, none⟩)) (x 0) x W := hd 0 (by decide)
        have e0 : x 0 = .pointer (some ⟨X, 0, none⟩) := h0
        clear h0
        have h1 : (fun v x _ => v = .slice (some ⟨b, o, none⟩) n1 c1) (x 1) x W := hd 1 (by decide)
        have e1 : x 1 = .slice (some ⟨b, o, none⟩) n1 c1 := h1
        clear h1
        have h2 : (fun v x _ => v = .int .i64 (n1 : Int)) (x 2) x W := hd 2 (by decide)
        have e2 : x 2 = .int .i64 (n1 : Int) := h2
        clear h2
        have h3 : (fun v x w' => ∃ g3 : Nat, v = .slice (some ⟨g3, 0, none⟩) n1 n1 ∧ OwnI w' 3 H w'.heap.size (some ⟨g3, 0, none⟩) n1 n1 (List.replicate n1 0)) (x 3) x W := hd 3 (by decide)
        have h4 : (fun v x w' => ∃ g4 g3 : Nat, v = .slice (some ⟨g4, 0, none⟩) 1 1 ∧ Blk w' g4 34 #[.slice (some ⟨g3, 0, none⟩) n1 n1] ∧ H ≤ g4 ∧ OwnI w' 3 H g4 (some ⟨g3, 0, none⟩) n1 n1 (List.replicate n1 0)) (x 4) x W := hd 4 (by decide)
        have h5 : (fun v x _ => v = .pointer (some ⟨X, 0, none⟩)) (x 5) x W := hd 5 (by decide)
        have e5 : x 5 = .pointer (some ⟨X, 0, none⟩) := h5
        clear h5
        have h6 : (fun v x _ => v = .slice (some ⟨b, o, none⟩) n1 c1) (x 6) x W := hd 6 (by decide)
        have e6 : x 6 = .slice (some ⟨b, o, none⟩) n1 c1 := h6
        clear h6
        have h7 : (fun v x _ => v = .slice A7 (n1 - 1) (c1 - 1)) (x 7) x W := hd 7 (by decide)
        have e7 : x 7 = .slice A7 (n1 - 1) (c1 - 1) := h7
        clear h7
        have h8 : (fun v x w' => ∃ (A8 : Option Addr) (c8 g3 : Nat), v = .slice A8 (1 + (n1 - 1)) c8 ∧ RV w' w'.heap.size A8 (1 + (n1 - 1)) (.slice (some ⟨g3, 0, none⟩) n1 n1 :: vt) ∧ (∀ p, A8 = some p → H ≤ p.block) ∧ OwnI w' 3 H w'.heap.size (some ⟨g3, 0, none⟩) n1 n1 (List.replicate n1 0) ∧ 1 + (n1 - 1) ≤ c8 ∧ c8 ≤ maxLen) (x 8) x W := hd 8 (by decide)
        have h9 : (fun v x _ => v = .pointer (some ⟨XB, 0, none⟩)) (x 9) x W := hd 9 (by decide)
        have e9 : x 9 = .pointer (some ⟨XB, 0, none⟩) := h9
        clear h9
        have h10 : (fun v x _ => True) (x 10) x W := hd 10 (by decide)
        clear hd
        simp only [fillL, Nat.reduceAdd, Act.put, List.setIfInBounds_toArray, List.set_cons_zero, List.set_cons_succ, e0, e1, e2, e5, e6, e7, e9]
        clear e0 e1 e2 e5 e6 e7 e9
        have hl10 := hL 10 (by omega)
        obtain ⟨s1, s2, s3, s4, _, s6⟩ := hS
        obtain ⟨A8, c8, g3, e8, f1, f2, f3, f4, f5⟩ := h8
        have kB := s6 hl10
        rw [e8] at kB
        have hm8 : 1 + (n1 - 1) = n1 := by omega
        rw [hm8] at f1 f4 kB
        have hba : linksB rows 0 G = false := linksB_no (fun hh => by have := hh.2.2.1; omega)
        have hca := linksValid_impl (some ⟨b, o, none⟩) n1 c1 w1.heap.size rows 0 G W (RVV.below HR1.out s1) s1.size (by omega)
        rw [hba] at hca
        have HCA := hid hca
        obtain ⟨xa0, xa1, xa2⟩ := blk3 s4
        have HQ := hid (And.intro s1 (And.intro f1 (And.intro f3 kB)))
        clear hca hba s1 s3 s4 s6 f1 f2 f3 kB e8 h10 HS0
        go_wp2_with fail
        refine HCA.out.mono ?_
        rintro e w6 ⟨rfl, hb6⟩
        obtain ⟨s1, f1, f3, kB⟩ := HQ.out
        have kB6 := Blk.below kB hb6 kB.lt
        have b6 := s1.trans (hb6.mono s1.size)
        have hrb : RII w6 w6.heap.size A8 n1 (List.replicate n1 0 :: rt) := HBK.out w6 A8 n1 _ n1 _ (RV.more (RV.below f1 hb6) hb6.size) (fun p hp => b6.cell hp) b6.size (RV.more (RV.below (OwnI.ri f3) hb6) hb6.size) (Nat.le_refl _) (by unfold maxLen; omega)
        have hbb : linksB (List.replicate n1 0 :: rt) N G = false := linksB_no (fun hh => (hh.2.2.2.2.2.2 0 _ rfl).2.1 (by rw [List.getD_eq_getElem?_getD, List.getElem?_replicate]; split <;> rfl))
        have hcb := linksValid_impl A8 n1 c8 w6.heap.size _ N G w6 hrb (Nat.le_refl _) (by omega)
        rw [hbb] at hcb
        have HCB := hid hcb
        have HF := hid (HB1.out.trans (b6.mono HB1.out.size))
        obtain ⟨xb0, xb1, xb2⟩ := blk3 kB6
        clear xa0 xa1 xa2 s1 f1 f3 kB kB6 b6 hrb hbb hcb hb6
        go_wp2_with fail
        refine HCB.out.mono ?_
        rintro e w7 ⟨rfl, hb7⟩
        have HF7 := hid (HF.out.trans (hb7.mono HF.out.size))
        clear hb7
        go_wp2
        go_ret
        exact ⟨rfl, HF7.out⟩
  · go_enter Try.func4, Try.ntmps4
    go_wp2
    go_ret
    exact ⟨rfl, Below.refl _ _⟩
end Go.Proofs.Ytajnpmnedghckaa
