/-
  LeastPowers, the reference's, walked.
-/
import Derived.Test.YtajnpmnedghckaaPowF
namespace Go.Proofs.Ytajnpmnedghckaa
open Go.RowKit
set_option linter.unusedVariables false

set_option maxRecDepth 100000 in
set_option maxHeartbeats 3200000 in
theorem leastPowers_spec (A : Option Addr) (n cx B : Nat) (rows : List (List Int)) (N G : Int) (w : World) (h : RII w B A n rows) (hB : B ≤ w.heap.size) (hn : n ≤ 1000000000) :
    Calls Try.prog 33 #[.agg #[.slice A n cx, .int .i64 N, .int .i64 G]] w fun e w' => RetIB w e w' (leastL rows N G, meetB rows N G (leastL rows N G)) := by
  have hlen : rows.length = n := RII.len h
  obtain ⟨WA, HW⟩ : ∃ W : World, W = w.alloc (.cells #[.slice A n cx, .int .i64 N, .int .i64 G] 27) := ⟨_, rfl⟩
  have hWs : WA.heap.size = w.heap.size + 1 := by rw [HW]; simp
  have rW : RII WA B A n rows := by rw [HW]; exact RVV.alloc h hB _
  have kW : Blk WA w.heap.size 27 #[.slice A n cx, .int .i64 N, .int .i64 G] := by rw [HW]; exact Blk.new _ _ _
  have BW : Below w.heap.size w WA := by rw [HW]; exact (Below.refl w.heap.size w).alloc (Nat.le_refl _) _
  have hcv := linksValid_spec A n cx B rows N G WA rW (by omega) hn
  by_cases hp : LinksOk rows N G
  · rw [linksB_yes hp] at hcv
    have HCV := hid hcv
    have HO := hid hp
    have HL := hid hlen
    have hn5 : n ≤ 5 := by rw [← hlen]; exact hp.2.1
    have hn0 : 0 < n := by have := hp.1; omega
    have hmk := run_make_row' (P := Try.prog) 34 3 (.int .i64 0) 8 Try.underlying34 infoInt rfl .i64 .i64 n (by omega) (by omega)
    have HWW := hid HW
    clear hcv hp h hlen
    go_enter Try.func33, Try.ntmps33
    go_wp2_with fail
    simp only [← HW]
    clear HW
    refine HCV.out.mono ?_
    rintro e w1 ⟨rfl, hb⟩
    have r1 : RII w1 B A n rows := RVV.below rW (hb.mono (by omega))
    have k1 : Blk w1 w.heap.size 27 #[.slice A n cx, .int .i64 N, .int .i64 G] := Blk.below kW hb (by omega)
    have hs1 := hb.size
    have HB1 := hid (BW.trans (hb.mono BW.size))
    obtain ⟨c0, c1, c2⟩ := blk3 k1
    have o1 : OwnI (w1.alloc (.cells (madeCells #[.int .i64 0] n) 3)) 3 w.heap.size (w1.alloc (.cells (madeCells #[.int .i64 0] n) 3)).heap.size (some ⟨w1.heap.size, 0, none⟩) n n (List.replicate n 0) :=
      ownV_blk (blk_made w1 _ n (0 : Int) rfl) (by omega) (by simp) (by simp) (by unfold maxLen; omega)
    have b1 : Below w1.heap.size w1 (w1.alloc (.cells (madeCells #[.int .i64 0] n) 3)) := (Below.refl _ _).alloc (Nat.le_refl _) _
    obtain ⟨K, HK⟩ : ∃ K, Hid (stepL rows N G (itL rows N G K) = itL rows N G K) := it_exists HO.out
    have hz0 : List.replicate n (0 : Int) = itL rows N G 0 := by rw [itL, HL.out]
    rw [hz0] at o1
    clear hb rW kW BW hz0
    go_wp2
    go_loopg [4] K (fun gk a wr => ∃ (k c : Nat) (A1 : Option Addr), k + gk = K ∧ a = .slice A1 n c ∧ OwnI wr 3 w.heap.size wr.heap.size A1 n c (itL rows N G k) ∧ Below w1.heap.size w1 wr)
    case atStart => exact ⟨0, n, _, by omega, rfl, o1, b1⟩
    case round =>
      obtain ⟨k, c, A1, hkg, rfl, op, hbr⟩ := hrel
      have hszr := hbr.size
      have r2 : RII wr B A n rows := RVV.below r1 (hbr.mono (by omega))
      have k2 : Blk wr w.heap.size 27 #[.slice A n cx, .int .i64 N, .int .i64 G] := Blk.below k1 hbr (by omega)
      obtain ⟨d0, d1, d2⟩ := blk3 k2
      have HCS := hid (powerStep_spec A A1 n n cx c wr.heap.size rows N G (itL rows N G k) wr (RVV.more r2 (by omega)) (OwnI.ri op) (Nat.le_refl _) (by omega) (by omega))
      have HOP := hid op
      have HBR := hid hbr
      clear r2 k2 op hbr o1 b1 hmk
      go_wp2_with fail
      refine HCS.out.mono ?_
      rintro e w3 ⟨A2, n2, c2x, rfl, ho3, hb3⟩
      rw [stepI_yes (it_ok HO.out k)] at ho3
      have hn2 : n2 = n := by rw [← OwnI.len ho3, stepL_len, it_len HO.out, HL.out]
      subst hn2
      have HO3 := hid ho3
      have HP3 := hid (show OwnI w3 3 w.heap.size w3.heap.size A1 n2 c (itL rows N G k) from OwnV.more (OwnV.below HOP.out hb3 (Nat.le_refl _)) (Nat.le_refl _) hb3.size)
      have HB3 := hid (HBR.out.trans (hb3.mono HBR.out.size))
      have q1 : RI w3 w3.heap.size A1 n2 (itL rows N G k) := OwnI.ri HP3.out
      have q2 : RI w3 w3.heap.size A2 n2 (stepL rows N G (itL rows N G k)) := OwnI.ri ho3
      have hil := it_len HO.out k
      clear ho3 hb3 HCS d0 d1 d2
      obtain ⟨PS, HPS⟩ : ∃ PS, Hid (itL rows N G k = PS) := ⟨_, hid rfl⟩
      obtain ⟨QS, HQS⟩ : ∃ QS, Hid (stepL rows N G (itL rows N G k) = QS) := ⟨_, hid rfl⟩
      rw [HPS.out] at q1 hil
      rw [HQS.out] at q2
      go_wp2_with fail
      go_loopw [6, 7] (fun s i wr => ∃ (j d : Nat) (b : Bool), j ≤ n2 ∧ s = .bool b ∧ i = .int .i64 j ∧ wr = w3.drewN d ∧ Hid (b = true ↔ ∀ i, i < j → pw PS i = pw QS i)) (fun _ i _ => n2 - (intOf i).toNat)
      case atStart => exact ⟨0, 0, true, Nat.zero_le _, rfl, rfl, rfl, hid ⟨fun _ i hi => by omega, fun _ => rfl⟩⟩
      case round =>
        obtain ⟨j, d, sm, hj, rfl, rfl, rfl, HS⟩ := hrel
        by_cases hjt : j < n2
        · obtain ⟨b4, o4, x, rfl, hb4, hx, hcx⟩ := RI.at_ q1 hjt
          obtain ⟨b5, o5, y, rfl, hb5, hy, hcy⟩ := RI.at_ q2 hjt
          have HXY := hid (And.intro (pw_of hx) (pw_of hy))
          clear hx hy
          by_cases hxy : x = y
          · have he : (x == y) = true := by simp [hxy]
            have HSS : Hid (∀ b : Bool, b = sm → (b = true ↔ ∀ i, i < j + 1 → pw PS i = pw QS i)) := hid (by
              rintro b rfl
              rw [HS.out]
              constructor
              · intro h i hi
                by_cases hij : i = j
                · subst hij; rw [HXY.out.1, HXY.out.2]; exact hxy
                · exact h i (by omega)
              · intro h i hi; exact h i (by omega))
            clear hxy
            cases sm
            all_goals
              go_wp2_with (go_quiet (fail))
              go_roundw
              case rel => exact ⟨j + 1, _, _, by omega, rfl, by go_num, by first | rfl | exact World.drewN_drewN _ _ _, hid (HSS.out _ rfl)⟩
              case measure => simp [intOf]; omega
          · have he : (x == y) = false := by simp [hxy]
            have HSS : Hid (∀ b : Bool, b = false → (b = true ↔ ∀ i, i < j + 1 → pw PS i = pw QS i)) := hid (by
              rintro b rfl
              constructor
              · intro h; cases h
              · intro h; exact absurd (by have := h j (by omega); rwa [HXY.out.1, HXY.out.2] at this) hxy)
            clear hxy
            cases sm
            all_goals
              go_wp2_with (go_quiet (fail))
              go_roundw
              case rel => exact ⟨j + 1, _, false, by omega, rfl, by go_num, by first | rfl | exact World.drewN_drewN _ _ _, hid (HSS.out _ rfl)⟩
              case measure => simp [intOf]; omega
        · have hjn : j = n2 := by omega
          subst hjn
          have HQL : Hid (QS.length = j ∧ PS.length = j) := hid ⟨OwnI.len (HQS.out ▸ HO3.out), by rw [hil, HL.out]⟩
          have HEQ : Hid (sm = true ↔ QS = PS) := hid (by
            rw [HS.out]
            constructor
            · intro h
              apply List.ext_getElem (by rw [HQL.out.1, HQL.out.2])
              intro i hi hi'
              have := h i (by rw [← HQL.out.1]; exact hi)
              have e1 : PS[i]? = some PS[i] := List.getElem?_eq_getElem hi'
              have e2 : QS[i]? = some QS[i] := List.getElem?_eq_getElem hi
              rw [pw_of e1, pw_of e2] at this
              exact this.symm
            · rintro rfl i _; rfl)
          have hD := Same.drewN w3 d
          cases sm
          · have hf : ¬ stepL rows N G (itL rows N G k) = itL rows N G k := by
              rw [HQS.out, HPS.out]
              intro h
              have := HEQ.out.2 h
              cases this
            have hgk : 0 < gk := by
              rcases Nat.eq_zero_or_pos gk with h0 | h0
              · exfalso
                have : k = K := by omega
                subst this
                exact hf HK.out
              · exact h0
            clear hf q1 q2
            go_wp2
            go_roundg (gk - 1)
            case measure => omega
            case rel => exact ⟨k + 1, _, _, by omega, rfl, OwnV.more HO3.out (by have := HB1.out.size; omega) (Nat.le_refl _), HB3.out.trans (hD.bel _)⟩
          · have hf : stepL rows N G (itL rows N G k) = itL rows N G k := by rw [HQS.out, HPS.out]; exact HEQ.out.1 rfl
            have HLE := hid (leastL_eq HO.out hf)
            have hsz3 := HB3.out.size
            obtain ⟨e0, e1, e2⟩ := blk3 (Blk.below k1 HB3.out (by omega))
            obtain ⟨M, HM⟩ : ∃ M, Hid (meetB rows N G (itL rows N G k) = M) := ⟨_, hid rfl⟩
            have hcm := linksMeet_spec A A1 j j cx c w3.heap.size rows N G PS (w3.drewN d) (RVV.more (B := B) (RVV.below (RVV.below r1 (HB3.out.mono (by omega))) (hD.bel _)) (by omega)) q1 (Nat.le_refl _) (by omega) (by omega)
            rw [← HPS.out, HM.out] at hcm
            have HCM := hid hcm
            clear hf q1 q2 hcm
            go_wp2_with fail
            refine HCM.out.mono ?_
            rintro e w5 ⟨rfl, hb5⟩
            have HF := hid (show RetIB w (.returned (.tuple #[.slice A1 j c, .bool M])) w5 (leastL rows N G, meetB rows N G (leastL rows N G)) from by
              rw [HLE.out, HM.out]
              exact ⟨A1, j, c, rfl, OwnV.more (OwnV.below HP3.out ((hD.bel w3.heap.size).trans hb5) (Nat.le_refl _)) (Nat.le_refl _) hb5.size, (HB1.out.trans (HB3.out.mono HB1.out.size)).trans (((hD.bel w3.heap.size).trans hb5).mono (by have := HB1.out.size; omega))⟩)
            clear hb5
            go_wp2
            go_ret2
            exact HF.out
  · rw [linksB_no hp] at hcv
    have HCV := hid hcv
    have HBW := hid BW
    rw [leastL_no hp, meetB_nolinks hp]
    clear hcv hp h rW kW BW
    go_enter Try.func33, Try.ntmps33
    go_wp2_with fail
    simp only [← HW]
    clear HW
    refine HCV.out.mono ?_
    rintro e w1 ⟨rfl, hb⟩
    have HB1 := hid (HBW.out.trans (hb.mono HBW.out.size))
    have HF := hid (show RetIB w (.returned (.tuple #[.slice (some ⟨w1.heap.size, 0, none⟩) 0 0, .bool false])) (w1.alloc (.cells #[] 3)) ([], false) from
      ⟨_, 0, 0, rfl, (by obtain ⟨A', c', e, ho⟩ := ownV_of (own_lit0 (w := w1) 3 (base := w.heap.size) HB1.out.size); injection e with e1 e2 e3; subst e1; subst e3; exact ho), HB1.out.alloc HB1.out.size _⟩)
    clear hb
    go_wp2
    go_ret2
    exact HF.out
end Go.Proofs.Ytajnpmnedghckaa
