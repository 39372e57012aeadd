/-
  WHAT A RECEIVER NEEDS, walked: the program's wantedAt, the reference's l14Disturb; whether powers fit: powersValid, l14Ok.
-/
import Derived.Test.YtajnpmnedghckaaPowLaw
import Derived.Test.YtajnpmnedghckaaReg
import Derived.Test.YtajnpmnedghckaaLinks
namespace Go.Proofs.Ytajnpmnedghckaa
open Go.RowKit
set_option linter.unusedVariables false

/-- The cells of the links laid at the call's start, in a later world. -/
theorem lnk_at {w w1 : World} {A : Option Addr} {n c : Nat} {N G : Int} (hb : Below (w.alloc (.cells #[.slice A n c, .int .i64 N, .int .i64 G] 27)).heap.size (w.alloc (.cells #[.slice A n c, .int .i64 N, .int .i64 G] 27)) w1) :
    w1.cell? ⟨w.heap.size, 0, none⟩ = some (.slice A n c) ∧ w1.cell? ⟨w.heap.size, 1, none⟩ = some (.int .i64 N) ∧ w1.cell? ⟨w.heap.size, 2, none⟩ = some (.int .i64 G) :=
  blk3 (Blk.below (Blk.new w 27 #[.slice A n c, .int .i64 N, .int .i64 G]) hb (by simp))
set_option maxHeartbeats 1600000 in
theorem wantedAt_impl (A A' : Option Addr) (n n' c c' B i : Nat) (rows : List (List Int)) (N G : Int) (ps : List Int) (w : World) (h : RII w B A n rows) (h' : RI w B A' n' ps) (hB : B ≤ w.heap.size) (ho : PowOk rows N G ps) (hi : i < n) :
    Calls Try.prog 44 #[.agg #[.slice A n c, .int .i64 N, .int .i64 G], .slice A' n' c', .int .i64 i] w fun e w' => e = .returned (.int .i64 (want rows N G ps i)) ∧ Below w.heap.size w w' := by
  have hlen : rows.length = n := RII.len h
  have hlen' : ps.length = n' := RI.len h'
  have hnn : n' = n := by rw [← hlen, ← hlen']; exact ho.2.1
  subst hnn
  have hn5 : n' ≤ 5 := by rw [← hlen]; exact ho.1.2.1
  have HBB := hid ((Below.refl w.heap.size w).alloc (Nat.le_refl _) (.cells #[.slice A n' c, .int .i64 N, .int .i64 G] 27))
  obtain ⟨b, o, A1, n1, c1, r, rfl, hb, hx, hcl, hr, hn1, hc1⟩ := RII.at_ h hi
  have hbw : b < w.heap.size := by omega
  have hn11 : n1 = n' := by rw [← RI.len hr, (ho.1.2.2.2.2.2.2 i r hx).1, hlen]
  subst hn11
  have hi0 : (0 : Int) ≤ (i : Int) := by omega
  have hin : (i : Int) < (n1 : Int) := by omega
  have HX := hid hx
  have HO := hid ho
  have HL := hid (And.intro hlen hlen')
  have hW := hid (want_bd ho.1 (show i < rows.length by omega) (fun k hk => ho.2.2 k (by omega)) ho.2.1)
  have hD := hid (dsum_bd (ps := ps) ho.1 (show i < rows.length by omega) (fun k hk => ho.2.2 k (by omega)))
  have hN1 := ho.1.2.2.1
  have hN2 := ho.1.2.2.2.1
  clear hx ho hlen hlen' h
  go_enter Try.func44, Try.ntmps44
  go_wp2
  go_loop [7, 14] (fun t j => ∃ (k : Nat) (T : Int), k ≤ n1 ∧ j = .int .i64 k ∧ t = .int .i64 (N + T) ∧ 0 ≤ T ∧ T ≤ k * 10000000 ∧ Hid (T = dsum rows ps i k)) (fun _ j => n1 - (intOf j).toNat)
  case atStart => exact ⟨0, 0, Nat.zero_le _, rfl, by simp, by omega, by omega, hid rfl⟩
  case round =>
    obtain ⟨k, T, hk, rfl, rfl, T0, T1, HT⟩ := hrel
    by_cases hlt : k < n1
    · obtain ⟨b2, o2, p, rfl, hb2, hp, hcp⟩ := RI.at_ h' hlt
      obtain ⟨b3, o3, g, rfl, hb3, hg, hcg⟩ := RI.at_ hr hlt
      have hb2w : b2 < w.heap.size := by omega
      have hb3w : b3 < w.heap.size := by omega
      have hp2 : 0 ≤ p ∧ p ≤ 10000 := by have := HO.out.2.2 k (by rw [HL.out.2]; exact hlt); rwa [pw_of hp] at this
      have hg2 : 0 ≤ g ∧ g ≤ 1000 := by have := gn_bd HO.out.1 (show i < rows.length by rw [HL.out.1]; omega) (show k < rows.length by rw [HL.out.1]; omega); rwa [gn_of HX.out hg] at this
      have hm := mul_bd hg2.1 hg2.2 hp2.1 hp2.2
      obtain ⟨m0, m1⟩ := hm
      have HG := hid (And.intro (gn_of HX.out hg) (pw_of hp))
      have hk0 : (0 : Int) ≤ (k : Int) := by omega
      have hkn : (k : Int) < (n1 : Int) := by omega
      clear hp hg hp2 hg2
      have r1 : IntKind.i64.wrap (g * p) = g * p := IntWalk.i64_in _ (by omega)
      have r2 : IntKind.i64.wrap (N + T + g * p) = N + T + g * p := IntWalk.i64_in _ (by omega)
      by_cases hki : k = i
      · subst hki
        have hq : ((k : Int) != (k : Int)) = false := by simp
        go_wp2
        go_round
        case rel => exact ⟨k + 1, T, by omega, by go_num, rfl, T0, by push_cast; omega, hid (by rw [HT.out, dsum, if_pos rfl]; omega)⟩
        case measure => simp [intOf]; omega
      · have hq : ((k : Int) != (i : Int)) = true := by simp; omega
        go_wp2
        go_round
        case rel => exact ⟨k + 1, T + g * p, by omega, by go_num, by first | rfl | rw [Int.add_assoc], by omega, by push_cast; omega, hid (by rw [HT.out, dsum, if_neg hki, HG.out.1, HG.out.2])⟩
        case measure => simp [intOf]; omega
    · have hk : k = n1 := by omega
      subst hk
      have HV : Hid (want rows N G ps i = G * (N + T)) := hid (by unfold want; rw [HL.out.2, HT.out])
      have hw := hW.out
      rw [HV.out] at hw
      go_wp2
      go_ret
      exact ⟨ret_int (by rw [HV.out]), HBB.out⟩
set_option maxHeartbeats 1600000 in
theorem disturb_spec (A A' : Option Addr) (n n' c c' B i : Nat) (rows : List (List Int)) (N G : Int) (ps : List Int) (w : World) (h : RII w B A n rows) (h' : RI w B A' n' ps) (hB : B ≤ w.heap.size) (ho : PowOk rows N G ps) (hi : i < n) :
    Calls Try.prog 46 #[.agg #[.slice A n c, .int .i64 N, .int .i64 G], .slice A' n' c', .int .i64 i] w fun e w' => e = .returned (.int .i64 (N + dsum rows ps i ps.length)) ∧ Below w.heap.size w w' := by
  have hlen : rows.length = n := RII.len h
  have hlen' : ps.length = n' := RI.len h'
  have hnn : n' = n := by rw [← hlen, ← hlen']; exact ho.2.1
  subst hnn
  have hn5 : n' ≤ 5 := by rw [← hlen]; exact ho.1.2.1
  have HBB := hid ((Below.refl w.heap.size w).alloc (Nat.le_refl _) (.cells #[.slice A n' c, .int .i64 N, .int .i64 G] 27))
  obtain ⟨b, o, A1, n1, c1, r, rfl, hb, hx, hcl, hr, hn1, hc1⟩ := RII.at_ h hi
  have hbw : b < w.heap.size := by omega
  have hn11 : n1 = n' := by rw [← RI.len hr, (ho.1.2.2.2.2.2.2 i r hx).1, hlen]
  subst hn11
  have hi0 : (0 : Int) ≤ (i : Int) := by omega
  have hin : (i : Int) < (n1 : Int) := by omega
  have HX := hid hx
  have HO := hid ho
  have HL := hid (And.intro hlen hlen')
  have hN1 := ho.1.2.2.1
  have hN2 := ho.1.2.2.2.1
  clear hx ho hlen hlen' h
  go_enter Try.func46, Try.ntmps46
  go_wp2
  go_loopw [7, 8] (fun t j wr => ∃ (k d : Nat) (T : Int), k ≤ n1 ∧ j = .int .i64 k ∧ t = .int .i64 (N + T) ∧ wr = (w.alloc (.cells #[.slice (some ⟨b, o, none⟩) n1 c, .int .i64 N, .int .i64 G] 27)).drewN d ∧ 0 ≤ T ∧ T ≤ k * 10000000 ∧ Hid (T = dsum rows ps i k)) (fun _ j _ => n1 - (intOf j).toNat)
  case atStart => exact ⟨0, 0, 0, Nat.zero_le _, rfl, by simp, rfl, by omega, by omega, hid rfl⟩
  case round =>
    obtain ⟨k, d, T, hk, rfl, rfl, rfl, T0, T1, HT⟩ := hrel
    by_cases hlt : k < n1
    · obtain ⟨b2, o2, p, rfl, hb2, hp, hcp⟩ := RI.at_ h' hlt
      obtain ⟨b3, o3, g, rfl, hb3, hg, hcg⟩ := RI.at_ hr hlt
      have hb2w : b2 < w.heap.size := by omega
      have hb3w : b3 < w.heap.size := by omega
      have hp2 : 0 ≤ p ∧ p ≤ 10000 := by have := HO.out.2.2 k (by rw [HL.out.2]; exact hlt); rwa [pw_of hp] at this
      have hg2 : 0 ≤ g ∧ g ≤ 1000 := by have := gn_bd HO.out.1 (show i < rows.length by rw [HL.out.1]; omega) (show k < rows.length by rw [HL.out.1]; omega); rwa [gn_of HX.out hg] at this
      have hm := mul_bd hg2.1 hg2.2 hp2.1 hp2.2
      obtain ⟨m0, m1⟩ := hm
      have HG := hid (And.intro (gn_of HX.out hg) (pw_of hp))
      have hk0 : (0 : Int) ≤ (k : Int) := by omega
      have hkn : (k : Int) < (n1 : Int) := by omega
      clear hp hg hp2 hg2
      have r1 : IntKind.i64.wrap (g * p) = g * p := IntWalk.i64_in _ (by omega)
      have r2 : IntKind.i64.wrap (N + T + g * p) = N + T + g * p := IntWalk.i64_in _ (by omega)
      by_cases hki : k = i
      · subst hki
        have hq : ((k : Int) != (k : Int)) = false := by simp
        go_wp2
        go_roundw
        case rel => exact ⟨k + 1, d, T, by omega, by go_num, rfl, rfl, T0, by push_cast; omega, hid (by rw [HT.out, dsum, if_pos rfl]; omega)⟩
        case measure => simp [intOf]; omega
      · have hq : ((k : Int) != (i : Int)) = true := by simp; omega
        go_wp2_with (go_quiet (fail))
        go_roundw
        case rel => exact ⟨k + 1, _, T + g * p, by omega, by go_num, by first | rfl | rw [Int.add_assoc], by first | rfl | exact World.drewN_drewN _ _ _, by omega, by push_cast; omega, hid (by rw [HT.out, dsum, if_neg hki, HG.out.1, HG.out.2])⟩
        case measure => simp [intOf]; omega
    · have hk : k = n1 := by omega
      subst hk
      have HV : Hid (T = dsum rows ps i ps.length) := hid (by rw [HL.out.2]; exact HT.out)
      go_wp2
      go_ret
      exact ⟨ret_int (by rw [HV.out]), HBB.out.trans ((Same.drewN _ _).bel _)⟩
set_option maxHeartbeats 1600000 in
theorem powOk_impl (A A' : Option Addr) (n n' c c' B : Nat) (rows : List (List Int)) (N G : Int) (ps : List Int) (w : World) (h : RII w B A n rows) (h' : RI w B A' n' ps) (hB : B ≤ w.heap.size) (hn : n ≤ 1000000000) (hn' : n' ≤ 1000000000) :
    Calls Try.prog 43 #[.agg #[.slice A n c, .int .i64 N, .int .i64 G], .slice A' n' c'] w fun e w' => e = .returned (.bool (powB rows N G ps)) ∧ Below w.heap.size w w' := by
  have hlen : rows.length = n := RII.len h
  have hlen' : ps.length = n' := RI.len h'
  have HL := hid (And.intro hlen hlen')
  have HBB := hid ((Below.refl w.heap.size w).alloc (Nat.le_refl _) (.cells #[.slice A n c, .int .i64 N, .int .i64 G] 27))
  have hcv := linksValid_impl A n c B rows N G (w.alloc (.cells #[.slice A n c, .int .i64 N, .int .i64 G] 27)) (RVV.alloc h hB _) (by simp; omega) hn
  have HB' := hid (And.intro hB h')
  by_cases hl : LinksOk rows N G
  · rw [linksB_yes hl] at hcv
    have HCV := hid hcv
    have HO := hid hl
    clear hcv hl hlen hlen'
    by_cases hnn : n' = n
    · subst hnn
      have hne : ((n' : Int) != (n' : Int)) = false := by simp
      clear h h' hB
      go_enter Try.func43, Try.ntmps43
      go_wp2_with fail
      refine HCV.out.mono ?_
      rintro e w1 ⟨rfl, hb⟩
      have HBW := hid (HBB.out.trans (hb.mono HBB.out.size))
      obtain ⟨c0, c1, c2⟩ := lnk_at hb
      have h2 : RI w1 B A' n' ps := RV.below HB'.out.2 (HBW.out.mono HB'.out.1)
      clear hb
      go_wp2
      go_loop [20] (fun i => ∃ k : Nat, k ≤ n' ∧ i = .int .i64 k ∧ Hid (∀ j, j < k → 0 ≤ pw ps j ∧ pw ps j ≤ 10000)) (fun i => n' - (intOf i).toNat)
      case atStart => exact ⟨0, Nat.zero_le _, rfl, hid (fun j hj => by omega)⟩
      case round =>
        obtain ⟨k, hk, rfl, HK⟩ := hrel
        by_cases hlt : k < n'
        · obtain ⟨b2, o2, p, rfl, hb2, hp, hcp⟩ := RI.at_ h2 hlt
          have HP := hid (pw_of hp)
          clear hp
          by_cases hpb : 0 ≤ p ∧ p ≤ 10000
          · have HPB := hid hpb
            obtain ⟨p0, p1⟩ := hpb
            go_wp2
            go_round
            case rel => exact ⟨k + 1, by omega, by go_num, hid (fun j hj => by
              by_cases hjk : j = k
              · subst hjk; rw [HP.out]; exact HPB.out
              · exact HK.out j (by omega))⟩
            case measure => simp [intOf]; omega
          · have HV := hid (powB_no (rows := rows) (N := N) (G := G) (ps := ps) (fun hh => hpb (by have := hh.2.2 k (by rw [HL.out.2]; exact hlt); rwa [HP.out] at this)))
            rcases (show p < 0 ∨ (0 ≤ p ∧ 10000 < p) by omega) with hlow | ⟨hlow, hhigh⟩
            all_goals
              clear hpb
              go_wp2
              go_ret
              exact ⟨ret_bool HV.out.symm, HBW.out⟩
        · have HV := hid (powB_yes (rows := rows) (N := N) (G := G) (ps := ps) ⟨HO.out, by rw [HL.out.1, HL.out.2], fun j hj => HK.out j (by rw [HL.out.2] at hj; omega)⟩)
          go_wp2
          go_ret
          exact ⟨ret_bool HV.out.symm, HBW.out⟩
    · have hne : ((n' : Int) != (n : Int)) = true := by simp; omega
      have HV := hid (powB_no (rows := rows) (N := N) (G := G) (ps := ps) (fun hh => hnn (by rw [← HL.out.1, ← HL.out.2]; exact hh.2.1)))
      clear h h' hB
      go_enter Try.func43, Try.ntmps43
      go_wp2_with fail
      refine HCV.out.mono ?_
      rintro e w1 ⟨rfl, hb⟩
      have HBW := hid (HBB.out.trans (hb.mono HBB.out.size))
      obtain ⟨c0, c1, c2⟩ := lnk_at hb
      clear hb
      go_wp2
      go_ret
      exact ⟨ret_bool HV.out.symm, HBW.out⟩
  · rw [linksB_no hl] at hcv
    have HCV := hid hcv
    have HV := hid (powB_no (rows := rows) (N := N) (G := G) (ps := ps) (fun hh => hl hh.1))
    clear hcv hl h h' hB
    go_enter Try.func43, Try.ntmps43
    go_wp2_with fail
    refine HCV.out.mono ?_
    rintro e w1 ⟨rfl, hb⟩
    have HBW := hid (HBB.out.trans (hb.mono HBB.out.size))
    clear hb
    go_wp2
    go_ret
    exact ⟨ret_bool HV.out.symm, HBW.out⟩
set_option maxHeartbeats 1600000 in
theorem powOk_spec (A A' : Option Addr) (n n' c c' B : Nat) (rows : List (List Int)) (N G : Int) (ps : List Int) (w : World) (h : RII w B A n rows) (h' : RI w B A' n' ps) (hB : B ≤ w.heap.size) (hn : n ≤ 1000000000) (hn' : n' ≤ 1000000000) :
    Calls Try.prog 45 #[.agg #[.slice A n c, .int .i64 N, .int .i64 G], .slice A' n' c'] w fun e w' => e = .returned (.bool (powB rows N G ps)) ∧ Below w.heap.size w w' := by
  have hlen : rows.length = n := RII.len h
  have hlen' : ps.length = n' := RI.len h'
  have HL := hid (And.intro hlen hlen')
  have HBB := hid ((Below.refl w.heap.size w).alloc (Nat.le_refl _) (.cells #[.slice A n c, .int .i64 N, .int .i64 G] 27))
  have hcv := linksValid_spec A n c B rows N G (w.alloc (.cells #[.slice A n c, .int .i64 N, .int .i64 G] 27)) (RVV.alloc h hB _) (by simp; omega) hn
  have HB' := hid (And.intro hB h')
  by_cases hl : LinksOk rows N G
  · rw [linksB_yes hl] at hcv
    have HCV := hid hcv
    have HO := hid hl
    clear hcv hl hlen hlen'
    by_cases hnn : n' = n
    · subst hnn
      have hne : ((n' : Int) != (n' : Int)) = false := by simp
      clear h h' hB
      go_enter Try.func45, Try.ntmps45
      go_wp2_with fail
      refine HCV.out.mono ?_
      rintro e w1 ⟨rfl, hb⟩
      have HBW := hid (HBB.out.trans (hb.mono HBB.out.size))
      obtain ⟨c0, c1, c2⟩ := lnk_at hb
      have h2 : RI w1 B A' n' ps := RV.below HB'.out.2 (HBW.out.mono HB'.out.1)
      clear hb
      go_wp2
      go_loop [5] (fun i => ∃ k : Nat, k ≤ n' ∧ i = .int .i64 k ∧ Hid (∀ j, j < k → 0 ≤ pw ps j ∧ pw ps j ≤ 10000)) (fun i => n' - (intOf i).toNat)
      case atStart => exact ⟨0, Nat.zero_le _, rfl, hid (fun j hj => by omega)⟩
      case round =>
        obtain ⟨k, hk, rfl, HK⟩ := hrel
        by_cases hlt : k < n'
        · obtain ⟨b2, o2, p, rfl, hb2, hp, hcp⟩ := RI.at_ h2 hlt
          have HP := hid (pw_of hp)
          clear hp
          by_cases hpb : 0 ≤ p ∧ p ≤ 10000
          · have HPB := hid hpb
            have I1 := hid (fun W => l1In_yes p 0 10000 W hpb.1 hpb.2)
            clear hpb
            go_wp2_with fail
            refine (I1.out _).mono ?_
            rintro e w2 ⟨rfl, rfl⟩
            go_wp2
            go_round
            case rel => exact ⟨k + 1, by omega, by go_num, hid (fun j hj => by
              by_cases hjk : j = k
              · subst hjk; rw [HP.out]; exact HPB.out
              · exact HK.out j (by omega))⟩
            case measure => simp [intOf]; omega
          · have HV := hid (powB_no (rows := rows) (N := N) (G := G) (ps := ps) (fun hh => hpb (by have := hh.2.2 k (by rw [HL.out.2]; exact hlt); rwa [HP.out] at this)))
            have I1 := hid (fun W => l1In_no p 0 10000 W (by omega))
            clear hpb
            go_wp2_with fail
            refine (I1.out _).mono ?_
            rintro e w2 ⟨rfl, rfl⟩
            go_wp2
            go_ret
            exact ⟨ret_bool HV.out.symm, HBW.out⟩
        · have HV := hid (powB_yes (rows := rows) (N := N) (G := G) (ps := ps) ⟨HO.out, by rw [HL.out.1, HL.out.2], fun j hj => HK.out j (by rw [HL.out.2] at hj; omega)⟩)
          go_wp2
          go_ret
          exact ⟨ret_bool HV.out.symm, HBW.out⟩
    · have hne : ((n' : Int) != (n : Int)) = true := by simp; omega
      have HV := hid (powB_no (rows := rows) (N := N) (G := G) (ps := ps) (fun hh => hnn (by rw [← HL.out.1, ← HL.out.2]; exact hh.2.1)))
      clear h h' hB
      go_enter Try.func45, Try.ntmps45
      go_wp2_with fail
      refine HCV.out.mono ?_
      rintro e w1 ⟨rfl, hb⟩
      have HBW := hid (HBB.out.trans (hb.mono HBB.out.size))
      obtain ⟨c0, c1, c2⟩ := lnk_at hb
      clear hb
      go_wp2
      go_ret
      exact ⟨ret_bool HV.out.symm, HBW.out⟩
  · rw [linksB_no hl] at hcv
    have HCV := hid hcv
    have HV := hid (powB_no (rows := rows) (N := N) (G := G) (ps := ps) (fun hh => hl hh.1))
    clear hcv hl h h' hB
    go_enter Try.func45, Try.ntmps45
    go_wp2_with fail
    refine HCV.out.mono ?_
    rintro e w1 ⟨rfl, hb⟩
    have HBW := hid (HBB.out.trans (hb.mono HBB.out.size))
    clear hb
    go_wp2
    go_ret
    exact ⟨ret_bool HV.out.symm, HBW.out⟩
end Go.Proofs.Ytajnpmnedghckaa
