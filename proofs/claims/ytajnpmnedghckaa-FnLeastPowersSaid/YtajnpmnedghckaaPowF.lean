/-
  LeastPowers, the program's and the reference's, walked.
-/
import Derived.Test.YtajnpmnedghckaaPowE
import Derived.Deep.RegionLawGrows
import Derived.Deep.DeepCutAuto
import Derived.Deep.LoopGhost
namespace Go.Proofs.Ytajnpmnedghckaa
open Go.RowKit
set_option linter.unusedVariables false

/-- 'append([]int{}, xs...)' as a step of a region that draws its order. -/
theorem step_copy {P : Program} {w : World} {ops : Array Oper} {o : Oper} {a : Act} {K : Act → World → Prop} {Q : Exit → Act → World → Prop} {E : Prop} (hgd : o.guard = none) (s x : Operand) (t : TypeId)
    (ho : o.op = .call { callee := .builtin .append, args := #[s, x], argTypes := #[t, t] })
    (e : TypeId) (i : TypeInfo) (z : Value) (bytes : Nat) (ht : P.underlying t = some (.slice e)) (hi : P.info? e = some i) (hz : i.zero = some z)
    (hsize : i.size = 1) (hby : i.bytes = bytes) (hzs : z.cells.size = 1) (hb64 : bytes ≤ 1000) (g : Nat) (hs : a.eval s = .slice (some ⟨g, 0, none⟩) 0 0)
    (B : Nat) (A1 : Option Addr) (m c1 : Nat) (news : List Value) (hx : a.eval x = .slice A1 m c1) (hr : RV w B A1 m news) (h1 : ∀ u ∈ news, u.oneCell' = true) (hm0 : 0 < m) (hm : m ≤ 1000000000)
    (h : ∀ A' c' w', OwnV w' e w.heap.size w'.heap.size A' m c' news → Below w.heap.size w w' → K (a.put o.dst (.slice A' m c')) w') :
    if Region.wanted o (yielded ops a.tmps) = true then Oper.wp P o a w K Q else E := by
  obtain ⟨b, off, rfl, hb, hc⟩ := hr.2 hm0
  have hbytes : (0 + m) * bytes ≤ 140737488355328 := by
    have := Nat.mul_le_mul (show 0 + m ≤ 1000000000 by omega) hb64
    omega
  refine step_append_grows hgd s x t ho e i z 1 bytes ht hi hz hsize hby hzs (by omega) (some ⟨g, 0, none⟩) 0 0 [] hs (fun h => by cases h) rfl (fun b hb j u hu => by simp at hu) ⟨b, off, none⟩ m c1 news hx (by rw [hr.1, Nat.mul_one]) ?_ h1 (by omega) (by unfold maxLen; omega) hbytes ?_
  · intro j u hu
    have := hc j u hu
    unfold Addr.add
    split <;> simp_all
  · intro v' w' hown hgr
    obtain ⟨A', c', rfl, hv⟩ := ownV_of (n := m) (vs := news) (by simpa using hown)
    exact h A' c' w' hv (below_of_grown hgr (Nat.le_refl _) (fun k hk => by cases hk))
/-- The call returned a slice of its own and a bool; nothing that was there has turned. -/
def RetIB (w : World) (e : Ending) (w' : World) (V : List Int × Bool) : Prop :=
  ∃ A n c, e = .returned (.tuple #[.slice A n c, .bool V.2]) ∧ OwnI w' 3 w.heap.size w'.heap.size A n c V.1 ∧ Below w.heap.size w w'
theorem meetB_nolinks {rows : List (List Int)} {N G : Int} {ps : List Int} (h : ¬ LinksOk rows N G) : meetB rows N G ps = false := meetB_no (fun hh => h hh.1.1)
theorem leastL_len (rows : List (List Int)) (N G : Int) : (leastL rows N G).length ≤ 5 := by
  by_cases h : LinksOk rows N G
  · rw [(least_ok h).1.2.1]; exact h.2.1
  · rw [leastL_no h]; simp
set_option maxRecDepth 100000 in
set_option maxHeartbeats 3200000 in
theorem leastPowers_impl (A : Option Addr) (n cx B : Nat) (rows : List (List Int)) (N G : Int) (w : World) (h : RII w B A n rows) (hB : B ≤ w.heap.size) (hn : n ≤ 1000000000) :
    Calls Try.prog 32 #[.agg #[.slice A n cx, .int .i64 N, .int .i64 G]] w fun e w' => RetIB w e w' (leastL rows N G, meetB rows N G (leastL rows N G)) := by
  have hlen : rows.length = n := RII.len h
  obtain ⟨i0, hi0, hz0, hz1, hz2⟩ := info_parts infoInt
  obtain ⟨WA, HW⟩ : ∃ W : World, W = w.alloc (.cells #[.slice A n cx, .int .i64 N, .int .i64 G] 27) := ⟨_, rfl⟩
  have hWs : WA.heap.size = w.heap.size + 1 := by rw [HW]; simp
  have rW : RII WA B A n rows := by rw [HW]; exact RVV.alloc h hB _
  have kW : Blk WA w.heap.size 27 #[.slice A n cx, .int .i64 N, .int .i64 G] := by rw [HW]; exact Blk.new _ _ _
  have BW : Below w.heap.size w WA := by rw [HW]; exact (Below.refl w.heap.size w).alloc (Nat.le_refl _) _
  have hcv := linksValid_impl A n cx B rows N G WA rW (by omega) hn
  by_cases hp : LinksOk rows N G
  · rw [linksB_yes hp] at hcv
    have HCV := hid hcv
    have HO := hid hp
    have HL := hid hlen
    have hn5 : n ≤ 5 := by rw [← hlen]; exact hp.2.1
    have hn0 : 0 < n := by have := hp.1; omega
    have hmk := run_make_row' (P := Try.prog) 34 3 (.int .i64 0) 8 Try.underlying34 infoInt rfl .i64 .i64 n (by omega) (by omega)
    have HWW := hid HW
    clear hcv hp h hlen
    go_enter Try.func32, Try.ntmps32
    go_wp2_with fail
    simp only [← HW]
    clear HW
    refine HCV.out.mono ?_
    rintro e w1 ⟨rfl, hb⟩
    have r1 : RII w1 B A n rows := RVV.below rW (hb.mono (by omega))
    have k1 : Blk w1 w.heap.size 27 #[.slice A n cx, .int .i64 N, .int .i64 G] := Blk.below kW hb (by omega)
    have hs1 := hb.size
    have HB1 := hid (BW.trans (hb.mono BW.size))
    obtain ⟨c0, c1, c2⟩ := blk3 k1
    have kz1 : Blk (w1.alloc (.cells (madeCells #[.int .i64 0] n) 3)) w.heap.size 27 #[.slice A n cx, .int .i64 N, .int .i64 G] := Blk.alloc k1 _
    obtain ⟨e0, e1, e2⟩ := blk3 kz1
    have HZ : Hid (∀ W, W = (w1.alloc (.cells (madeCells #[.int .i64 0] n) 3)).alloc (.cells (madeCells #[.int .i64 0] n) 3) →
        OwnI W 3 w1.heap.size (w1.heap.size + 1) (some ⟨w1.heap.size, 0, none⟩) n n (List.replicate n 0) ∧ OwnI W 3 (w1.heap.size + 1) (w1.heap.size + 1 + 1) (some ⟨w1.heap.size + 1, 0, none⟩) n n (List.replicate n 0) ∧ Below w1.heap.size w1 W) := hid (by
      rintro W rfl
      refine ⟨ownV_blk (Blk.alloc (blk_made w1 _ n (0 : Int) rfl) _) (Nat.le_refl _) (by omega) (by simp) (by unfold maxLen; omega), ?_, ((Below.refl _ _).alloc (Nat.le_refl _) _).alloc (by simp) _⟩
      have := blk_made (w1.alloc (.cells (madeCells #[.int .i64 0] n) 3)) 3 n (0 : Int) (f := Value.int .i64) rfl
      have e : (w1.alloc (.cells (madeCells #[.int .i64 0] n) 3)).heap.size = w1.heap.size + 1 := by simp
      rw [e] at this
      exact ownV_blk this (Nat.le_refl _) (by omega) (by simp) (by unfold maxLen; omega))
    clear hb rW kW BW kz1
    go_wp2
    go_upto_region 3 with fail
    go_cut [4, 5] (fun a b wx => ∃ p q : Nat, a = .slice (some ⟨p, 0, none⟩) n n ∧ b = .slice (some ⟨q, 0, none⟩) n n ∧ p ≠ q ∧ w1.heap.size ≤ p ∧ w1.heap.size ≤ q ∧ OwnI wx 3 p (p + 1) (some ⟨p, 0, none⟩) n n (List.replicate n 0) ∧ OwnI wx 3 q (q + 1) (some ⟨q, 0, none⟩) n n (List.replicate n 0) ∧ Below w1.heap.size w1 wx)
    case first =>
      go_region
      all_goals
        go_wp2_with fail
        go_meet
        first
          | exact ⟨w1.heap.size, w1.heap.size + 1, rfl, rfl, by omega, by omega, by omega, (HZ.out _ rfl).1, (HZ.out _ rfl).2.1, ((HZ.out _ rfl).2.2).drew⟩
          | exact ⟨w1.heap.size + 1, w1.heap.size, rfl, rfl, by omega, by omega, by omega, (HZ.out _ rfl).2.1, (HZ.out _ rfl).1, ((HZ.out _ rfl).2.2).drew⟩
    case rest =>
    obtain ⟨p0, q0, rfl, rfl, hpq0, hp0, hq0, op0, oq0, hbc⟩ := hcut
    obtain ⟨K, HK⟩ : ∃ K, Hid (stepL rows N G (itL rows N G K) = itL rows N G K) := it_exists HO.out
    have hz0 : List.replicate n (0 : Int) = itL rows N G 0 := by rw [itL, HL.out]
    rw [hz0] at op0
    clear c0 c1 c2 e0 e1 e2 hmk hz0
    go_wp2
    go_loopg [4, 5] K (fun gk a b wr => ∃ (k p q : Nat) (ys : List Int), k + gk = K ∧ a = .slice (some ⟨p, 0, none⟩) n n ∧ b = .slice (some ⟨q, 0, none⟩) n n ∧ p ≠ q ∧ w1.heap.size ≤ p ∧ w1.heap.size ≤ q ∧ OwnI wr 3 p (p + 1) (some ⟨p, 0, none⟩) n n (itL rows N G k) ∧ OwnI wr 3 q (q + 1) (some ⟨q, 0, none⟩) n n ys ∧ Below w1.heap.size w1 wr)
    case atStart => exact ⟨0, p0, q0, _, by omega, rfl, rfl, hpq0, hp0, hq0, op0, oq0, hbc⟩
    case round =>
      obtain ⟨k, p, q, ys, hkg, rfl, rfl, hpq, hp, hq, op, oq, hbr⟩ := hrel
      have hszr := hbr.size
      have r2 : RII wr B A n rows := RVV.below r1 (hbr.mono (by omega))
      have k2 : Blk wr w.heap.size 27 #[.slice A n cx, .int .i64 N, .int .i64 G] := Blk.below k1 hbr (by omega)
      obtain ⟨d0, d1, d2⟩ := blk3 k2
      obtain ⟨_, cs, he, _, _, hlp, _⟩ := op.blk hn0
      injection he with he
      injection he with he
      subst he
      obtain ⟨_, cs', he', _, _, hlq, _⟩ := oq.blk hn0
      injection he' with he'
      injection he' with he'
      subst he'
      have hlp' := hlp.lt
      have hlq' := hlq.lt
      have HCS := hid (stepPowers_impl A (some ⟨p, 0, none⟩) (some ⟨q, 0, none⟩) n n cx n n q (q + 1) rows N G (itL rows N G k) ys wr (RVV.more r2 (by omega)) (RV.more (OwnI.ri op) (by omega)) (fun a ha => by injection ha with ha; subst ha; simp only; omega) oq (by omega) (by omega) (it_ok HO.out k))
      clear r2 k2 hlp hlq oq op0 oq0 hbc
      have HOP := hid op
      have HBR := hid hbr
      clear op hbr
      go_wp2_with fail
      refine HCS.out.mono ?_
      rintro e w3 ⟨rfl, ho3, hon3⟩
      have HO3 := hid ho3
      have HP3 := hid (show OwnI w3 3 p (p + 1) (some ⟨p, 0, none⟩) n n (itL rows N G k) from OwnV.only HOP.out hon3 (by omega))
      have HB3 := hid (HBR.out.trans ((hon3.below (B := w1.heap.size) (by omega) (by omega)).mono (Nat.le_refl _)))
      clear ho3 hon3 HCS
      by_cases hf : stepL rows N G (itL rows N G k) = itL rows N G k
      · have hd : decide (stepL rows N G (itL rows N G k) ≠ itL rows N G k) = false := decide_eq_false (fun h => h hf)
        have HLE := hid (leastL_eq HO.out hf)
        have hsz3 := HB3.out.size
        obtain ⟨M, HM⟩ : ∃ M, Hid (meetB rows N G (itL rows N G k) = M) := ⟨_, hid rfl⟩
        have HK0 : Hid (∀ W', Below w3.heap.size w3 W' → W'.cell? ⟨w.heap.size, 0, none⟩ = some (.slice A n cx) ∧ W'.cell? ⟨w.heap.size, 1, none⟩ = some (.int .i64 N) ∧ W'.cell? ⟨w.heap.size, 2, none⟩ = some (.int .i64 G)) := hid (fun W' h => blk3 (Blk.below (Blk.below k1 HB3.out (by omega)) h (by omega)))
        have hp3 : p < w3.heap.size := by
          obtain ⟨_, cs, he, _, _, hl3, _⟩ := OwnV.blk HP3.out hn0
          injection he with he
          injection he with he
          subst he
          exact hl3.lt
        have HRN := hid (show RI w3 w3.heap.size (some ⟨p, 0, none⟩) n (itL rows N G k) from RV.more (OwnI.ri HP3.out) (by omega))
        have HCM : Hid (∀ W', Below w3.heap.size w3 W' → Calls Try.prog 20 #[.agg #[.slice A n cx, .int .i64 N, .int .i64 G], .slice (some ⟨p, 0, none⟩) n n] W' fun e w' => e = .returned (.bool M) ∧ Below W'.heap.size W' w') := hid (fun W' hb => by
          have := linksMeet_impl A (some ⟨p, 0, none⟩) n n cx n w3.heap.size rows N G (itL rows N G k) W' (RVV.below (RVV.more (RVV.below r1 (HB3.out.mono (by omega))) (by omega)) hb) (RV.below HRN.out hb) hb.size (by omega) (by omega)
          rw [HM.out] at this
          exact this)
        clear d0 d1 d2
        simp only [hd]
        clear hf hd
        go_wp2_with fail
        refine wp_region_g (by kernel_rfl) [[], [], [0, 1], [], [], [3, 4], [2], [5]] (by kernel_rfl) 8 (by rfl) [some 23, some 24, some 25, some 26, some 27, some 28, some 2, some 3] (by rfl)
          [fun v x _ => ∃ g : Nat, v = .slice (some ⟨g, 0, none⟩) 0 0,
           fun v x _ => v = .slice (some ⟨p, 0, none⟩) n n,
           fun v x w' => ∃ (A2 : Option Addr) (c2 : Nat), v = .slice A2 n c2 ∧ OwnI w' 3 w3.heap.size w'.heap.size A2 n c2 (itL rows N G k),
           fun v x _ => v = .agg #[.slice A n cx, .int .i64 N, .int .i64 G],
           fun v x _ => v = .slice (some ⟨p, 0, none⟩) n n,
           fun v x _ => v = .bool M,
           fun v x w' => ∃ (A2 : Option Addr) (c2 : Nat), v = .slice A2 n c2 ∧ OwnI w' 3 w3.heap.size w'.heap.size A2 n c2 (itL rows N G k),
           fun v x _ => v = .bool M]
          (fun _ w' => Below w3.heap.size w3 w') (fun w w' => Below w.heap.size w w') (fun _ => Below.refl _ _) ((Below.refl _ _).drew) ?loc ?ob ?fin
        case loc =>
          refine ⟨⟨⟨⟨⟨⟨⟨⟨trivial, ?_⟩, ?_⟩, ?_⟩, ?_⟩, ?_⟩, ?_⟩, ?_⟩, ?_⟩
          · intro v x x' w w' hx hR h
            revert h
            show (fun v x _ => ∃ g : Nat, v = .slice (some ⟨g, 0, none⟩) 0 0) v x w → (fun v x _ => ∃ g : Nat, v = .slice (some ⟨g, 0, none⟩) 0 0) v x' w'
            intro h
            exact h
          · exact fun _ _ _ _ _ _ _ h => h
          · intro v x x' w w' hx hR h
            revert h
            show (fun v x w' => ∃ (A2 : Option Addr) (c2 : Nat), v = .slice A2 n c2 ∧ OwnI w' 3 w3.heap.size w'.heap.size A2 n c2 (itL rows N G k)) v x w → (fun v x w' => ∃ (A2 : Option Addr) (c2 : Nat), v = .slice A2 n c2 ∧ OwnI w' 3 w3.heap.size w'.heap.size A2 n c2 (itL rows N G k)) v x' w'
            intro h
            obtain ⟨A2, c2, e, ho⟩ := h; exact ⟨A2, c2, e, OwnV.more (OwnV.below ho hR (Nat.le_refl _)) (Nat.le_refl _) hR.size⟩
          · exact fun _ _ _ _ _ _ _ h => h
          · exact fun _ _ _ _ _ _ _ h => h
          · exact fun _ _ _ _ _ _ _ h => h
          · intro v x x' w w' hx hR h
            revert h
            show (fun v x w' => ∃ (A2 : Option Addr) (c2 : Nat), v = .slice A2 n c2 ∧ OwnI w' 3 w3.heap.size w'.heap.size A2 n c2 (itL rows N G k)) v x w → (fun v x w' => ∃ (A2 : Option Addr) (c2 : Nat), v = .slice A2 n c2 ∧ OwnI w' 3 w3.heap.size w'.heap.size A2 n c2 (itL rows N G k)) v x' w'
            intro h
            obtain ⟨A2, c2, e, ho⟩ := h; exact ⟨A2, c2, e, OwnV.more (OwnV.below ho hR (Nat.le_refl _)) (Nat.le_refl _) hR.size⟩
          · exact fun _ _ _ _ _ _ _ h => h
        case ob =>
          refine ⟨⟨⟨⟨⟨⟨⟨⟨trivial, ?_⟩, ?_⟩, ?_⟩, ?_⟩, ?_⟩, ?_⟩, ?_⟩, ?_⟩
          · intro c hc x W hS hd KO hK
            clear hd
            simp only [List.getD_cons_zero, fillL, Nat.reduceAdd, Act.put, List.setIfInBounds_toArray, List.set_cons_zero, List.set_cons_succ] at hK ⊢
            refine wpOp_plain rfl rfl ?_
            go_simp
            exact hK _ _ (hS.trans (((Below.refl _ _).alloc (Nat.le_refl _) _).mono hS.size)) ((Below.refl _ _).alloc (Nat.le_refl _) _) ⟨_, rfl⟩
          · intro c hc x W hS hd KO hK
            clear hd
            simp only [List.getD_cons_zero, List.getD_cons_succ, fillL, Nat.reduceAdd, Act.put, List.setIfInBounds_toArray, List.set_cons_zero, List.set_cons_succ] at hK ⊢
            refine wpOp_plain rfl rfl ?_
            go_simp
            exact hK _ _ hS (Below.refl _ _) rfl
          · intro c hc x W hS hd KO hK
            have h0 : (fun v x _ => ∃ g : Nat, v = .slice (some ⟨g, 0, none⟩) 0 0) (x 0) x W := hd 0 (by decide)
            have h1 : (fun v x _ => v = .slice (some ⟨p, 0, none⟩) n n) (x 1) x W := hd 1 (by decide)
            have e1 : x 1 = .slice (some ⟨p, 0, none⟩) n n := h1
            clear h1
            clear hd
            obtain ⟨g, e0⟩ := h0
            simp only [List.getD_cons_zero, List.getD_cons_succ, fillL, Nat.reduceAdd, Act.put, List.setIfInBounds_toArray, List.set_cons_zero, List.set_cons_succ, e1, e0] at hK ⊢
            refine wpOp_ob rfl ?_
            refine step_copy rfl _ _ _ rfl 3 i0 _ 8 Try.underlying34 hi0 hz0 hz1 hz2 rfl (by omega) g rfl _ _ n _ _ rfl (RV.below HRN.out hS) (fun u hu => by obtain ⟨y, _, rfl⟩ := List.mem_map.1 hu; rfl) hn0 (by omega) ?_
            intro A2 c2 w2 ho2 hb2
            exact hK _ _ (hS.trans (hb2.mono hS.size)) hb2 ⟨A2, c2, rfl, OwnV.more ho2 hS.size (Nat.le_refl _)⟩
          · intro c hc x W hS hd KO hK
            clear hd
            have hc0 := (HK0.out _ hS).1
            have hc1 := (HK0.out _ hS).2.1
            have hc2 := (HK0.out _ hS).2.2
            simp only [List.getD_cons_zero, List.getD_cons_succ, fillL, Nat.reduceAdd, Act.put, List.setIfInBounds_toArray, List.set_cons_zero, List.set_cons_succ] at hK ⊢
            refine wpOp_plain rfl rfl ?_
            go_simp
            exact hK _ _ hS (Below.refl _ _) rfl
          · intro c hc x W hS hd KO hK
            clear hd
            simp only [List.getD_cons_zero, List.getD_cons_succ, fillL, Nat.reduceAdd, Act.put, List.setIfInBounds_toArray, List.set_cons_zero, List.set_cons_succ] at hK ⊢
            refine wpOp_plain rfl rfl ?_
            go_simp
            exact hK _ _ hS (Below.refl _ _) rfl
          · intro c hc x W hS hd KO hK
            have h3 : (fun v x _ => v = .agg #[.slice A n cx, .int .i64 N, .int .i64 G]) (x 3) x W := hd 3 (by decide)
            have e3 : x 3 = .agg #[.slice A n cx, .int .i64 N, .int .i64 G] := h3
            clear h3
            have h4 : (fun v x _ => v = .slice (some ⟨p, 0, none⟩) n n) (x 4) x W := hd 4 (by decide)
            have e4 : x 4 = .slice (some ⟨p, 0, none⟩) n n := h4
            clear h4
            clear hd
            simp only [List.getD_cons_zero, List.getD_cons_succ, fillL, Nat.reduceAdd, Act.put, List.setIfInBounds_toArray, List.set_cons_zero, List.set_cons_succ, e3, e4] at hK ⊢
            refine wpOp_plain rfl rfl ?_
            go_simp
            refine (HCM.out _ hS).mono ?_
            rintro e W1 ⟨rfl, hb1⟩
            go_wp2_with fail
            exact hK _ _ (hS.trans (hb1.mono hS.size)) hb1 rfl
          · intro c hc x W hS hd KO hK
            have h2 : (fun v x w' => ∃ (A2 : Option Addr) (c2 : Nat), v = .slice A2 n c2 ∧ OwnI w' 3 w3.heap.size w'.heap.size A2 n c2 (itL rows N G k)) (x 2) x W := hd 2 (by decide)
            clear hd
            obtain ⟨A2, c2, e2, ho2⟩ := h2
            simp only [List.getD_cons_zero, List.getD_cons_succ, fillL, Nat.reduceAdd, Act.put, List.setIfInBounds_toArray, List.set_cons_zero, List.set_cons_succ, e2] at hK ⊢
            refine wpOp_plain rfl rfl ?_
            go_simp
            exact hK _ _ hS (Below.refl _ _) ⟨A2, c2, rfl, ho2⟩
          · intro c hc x W hS hd KO hK
            have h5 : (fun v x _ => v = .bool M) (x 5) x W := hd 5 (by decide)
            have e5 : x 5 = .bool M := h5
            clear h5
            clear hd
            simp only [List.getD_cons_zero, List.getD_cons_succ, fillL, Nat.reduceAdd, Act.put, List.setIfInBounds_toArray, List.set_cons_zero, List.set_cons_succ, e5] at hK ⊢
            refine wpOp_plain rfl rfl ?_
            go_simp
            exact hK _ _ hS (Below.refl _ _) rfl
        case fin =>
          intro x W hS hd
          have h0 : (fun v x _ => ∃ g : Nat, v = .slice (some ⟨g, 0, none⟩) 0 0) (x 0) x W := hd 0 (by decide)
          have h1 : (fun v x _ => v = .slice (some ⟨p, 0, none⟩) n n) (x 1) x W := hd 1 (by decide)
          have e1 : x 1 = .slice (some ⟨p, 0, none⟩) n n := h1
          clear h1
          have h2 : (fun v x w' => ∃ (A2 : Option Addr) (c2 : Nat), v = .slice A2 n c2 ∧ OwnI w' 3 w3.heap.size w'.heap.size A2 n c2 (itL rows N G k)) (x 2) x W := hd 2 (by decide)
          have h3 : (fun v x _ => v = .agg #[.slice A n cx, .int .i64 N, .int .i64 G]) (x 3) x W := hd 3 (by decide)
          have e3 : x 3 = .agg #[.slice A n cx, .int .i64 N, .int .i64 G] := h3
          clear h3
          have h4 : (fun v x _ => v = .slice (some ⟨p, 0, none⟩) n n) (x 4) x W := hd 4 (by decide)
          have e4 : x 4 = .slice (some ⟨p, 0, none⟩) n n := h4
          clear h4
          have h5 : (fun v x _ => v = .bool M) (x 5) x W := hd 5 (by decide)
          have e5 : x 5 = .bool M := h5
          clear h5
          have h6 : (fun v x w' => ∃ (A2 : Option Addr) (c2 : Nat), v = .slice A2 n c2 ∧ OwnI w' 3 w3.heap.size w'.heap.size A2 n c2 (itL rows N G k)) (x 6) x W := hd 6 (by decide)
          have h7 : (fun v x _ => v = .bool M) (x 7) x W := hd 7 (by decide)
          have e7 : x 7 = .bool M := h7
          clear h7
          clear hd
          simp only [fillL, Nat.reduceAdd, Act.put, List.setIfInBounds_toArray, List.set_cons_zero, List.set_cons_succ, e1, e3, e4, e5, e7]
          clear e1 e3 e4 e5 e7
          have hV := h6
          obtain ⟨A2, c2, e6, ho6⟩ := hV
          have HF := hid (show RetIB w (.returned (.tuple #[.slice A2 n c2, .bool M])) W (leastL rows N G, meetB rows N G (leastL rows N G)) from by
            rw [HLE.out, HM.out]
            exact ⟨A2, n, c2, rfl, OwnV.more ho6 (by have := HB1.out.size; omega) (Nat.le_refl _), (HB1.out.trans (HB3.out.mono HB1.out.size)).trans (hS.mono (by have := HB1.out.size; omega))⟩)
          simp only [e6]
          go_wp2
          go_ret2
          exact HF.out
      · have hd : decide (stepL rows N G (itL rows N G k) ≠ itL rows N G k) = true := decide_eq_true hf
        have hgk : 0 < gk := by
          rcases Nat.eq_zero_or_pos gk with h0 | h0
          · exfalso
            have : k = K := by omega
            subst this
            exact hf HK.out
          · exact h0
        simp only [hd]
        clear hf hd d0 d1 d2
        go_wp2
        go_roundg (gk - 1)
        case measure => omega
        case rel => exact ⟨k + 1, q, p, _, by omega, rfl, rfl, Ne.symm hpq, hq, hp, HO3.out, HP3.out, HB3.out⟩
  · rw [linksB_no hp] at hcv
    have HCV := hid hcv
    have HBW := hid BW
    rw [leastL_no hp, meetB_nolinks hp]
    clear hcv hp h rW kW BW
    go_enter Try.func32, Try.ntmps32
    go_wp2_with fail
    simp only [← HW]
    clear HW
    refine HCV.out.mono ?_
    rintro e w1 ⟨rfl, hb⟩
    have HB1 := hid (HBW.out.trans (hb.mono HBW.out.size))
    clear hb
    go_wp2
    go_ret2
    exact ⟨none, 0, 0, rfl, OwnV.nil_ _ _ _ _, HB1.out⟩
end Go.Proofs.Ytajnpmnedghckaa
