/-
  container/heap's down and up over the queue of senders, walked.
-/
import Derived.Test.YtnebmfdjcikegaaHm
namespace Go.Proofs.Ytnebmfdjcikegaa
open Go.RowKit
set_option linter.unusedVariables false

set_option maxRecDepth 100000 in
set_option maxHeartbeats 3200000 in
theorem down_q {hb qb n m lo hi : Nat} {L : List Snd} {w : World} (h : QM w hb qb n L) (hm : m ≤ L.length) (hl : L.length ≤ 8) (hd : DI L m 0) (hq1 : lo ≤ qb) (hq2 : qb < hi) :
    Calls Try.prog 37 #[.iface 48 (.pointer (some ⟨hb, 0, none⟩)), .int .i64 0, .int .i64 m] w fun e w' => (∃ b, e = .returned (.bool b)) ∧ ∃ L', QM w' hb qb n L' ∧ L'.Perm L ∧ Hp L' m ∧ (∀ k, m ≤ k → gt L' k = gt L k) ∧ Only lo hi w w' := by
  have H := hid h
  have HD := hid hd
  clear h hd
  go_enter Try.func37, Try.ntmps37
  go_wp2
  go_loopw [7] (fun v7 wr => ∃ (i : Nat) (L1 : List Snd), v7 = .int .i64 i ∧ i ≤ m ∧ Hid (L1.length = L.length) ∧ Hid (QM wr hb qb n L1) ∧ Hid (L1.Perm L) ∧ Hid (DI L1 m i) ∧ Hid (∀ k, m ≤ k → gt L1 k = gt L k) ∧ Hid (Only lo hi w wr)) (fun v7 _ => m - (intOf v7).toNat)
  case atStart => exact ⟨0, L, rfl, Nat.zero_le _, hid rfl, H, hid (List.Perm.refl _), HD, hid (fun _ _ => rfl), hid (Only.refl _ _ _)⟩
  case round =>
    obtain ⟨i, L1, rfl, him, HL1, Q, PE, DD, KE, OO⟩ := hrel
    obtain ⟨J, hJ⟩ : ∃ J : Nat, J = 2 * i + 1 := ⟨_, rfl⟩
    have HJ := hid hJ
    have r1 : 2 * (i : Int) + 1 = (J : Int) := by omega
    by_cases hleaf : m ≤ J
    · have HF := hid (di_leaf DD.out (by omega))
      have h1 : (m : Int) ≤ (J : Int) := by omega
      clear hJ
      go_wp2
      go_ret
      exact ⟨⟨_, rfl⟩, L1, Q.out, PE.out, HF.out, KE.out, OO.out⟩
    · have h1 : ¬ (m : Int) ≤ (J : Int) := by omega
      have h2 : ¬ (J : Int) < 0 := by omega
      obtain ⟨K, hK⟩ : ∃ K : Nat, K = J + 1 := ⟨_, rfl⟩
      have HK := hid hK
      have r2 : (J : Int) + 1 = (K : Int) := by omega
      by_cases hk : K < m
      · have h3 : (K : Int) < (m : Int) := by omega
        have HM := meth_Less ⟨hb, 0, none⟩ wr _ Q.out.var
        have HLE := hid (less_m lo hi Q.out (i := K) (j := J) (by have := HL1.out; omega) (by have := HL1.out; omega))
        clear hJ hK
        obtain ⟨S, hS⟩ : ∃ S, decide (sl L1 K < sl L1 J) = S := ⟨_, rfl⟩
        rw [hS] at HLE
        have HS := hid hS
        clear hS
        go_wp2_with fail
        refine HLE.out.mono ?_
        rintro e w2 ⟨rfl, q2, o2⟩
        have Q2 := hid q2
        have O2 := hid (OO.out.trans o2)
        clear HM q2 o2
        cases S with
        | true =>
          have hs := of_decide_eq_true HS.out
          have HM2 := meth_Less ⟨hb, 0, none⟩ w2 _ Q2.out.var
          have HMIN : Hid (∀ k, 0 < k → k < m → (k - 1) / 2 = i → sl L1 K ≤ sl L1 k) := hid (by
            have e1 := HJ.out
            have e2 := HK.out
            intro k k0 km kp
            have : k = J ∨ k = K := by omega
            rcases this with rfl | rfl <;> omega)
          have HL2 := hid (less_m lo hi Q2.out (i := K) (j := i) (by have := HL1.out; have := HJ.out; have := HK.out; omega) (by have := HL1.out; have := HJ.out; have := HK.out; omega))
          have hij : i < K := by have := HJ.out; have := HK.out; omega
          have HC := hid (show K = 2 * i + 1 ∨ K = 2 * i + 2 by have := HJ.out; have := HK.out; omega)
          clear r1 r2
          try clear hJ hK
          obtain ⟨T, hT⟩ : ∃ T, decide (sl L1 K < sl L1 i) = T := ⟨_, rfl⟩
          rw [hT] at HL2
          have HT := hid hT
          clear hT
          go_wp2_with fail
          refine HL2.out.mono ?_
          rintro e w3 ⟨rfl, q3, o3⟩
          have Q3 := hid q3
          have O3 := hid (O2.out.trans o3)
          clear HM2 q3 o3
          cases T with
          | true =>
            have ht := of_decide_eq_true HT.out
            have HM3 := meth_Swap ⟨hb, 0, none⟩ w3 _ Q3.out.var
            have HSW := hid (swap_m (lo := lo) (hi := hi) Q3.out (i := i) (j := K) (by have := HL1.out; omega) (by have := HL1.out; omega) hq1 hq2)
            have HST := hid (di_step DD.out HC.out (by omega) (by have := HL1.out; omega) HMIN.out ht)
            clear ht
            go_wp2_with fail
            refine HSW.out.mono ?_
            rintro e w4 ⟨rfl, q4, o4⟩
            have Q4 := hid q4
            have O4 := hid (O3.out.trans o4)
            clear q4 o4 HM3
            go_wp2
            go_roundw
            case rel => exact ⟨K, swp L1 i K, rfl, by omega, hid (by rw [swp_len]; exact HL1.out), Q4, hid ((swp_perm (by have := HL1.out; omega) (by have := HL1.out; omega)).trans PE.out), HST, hid (fun k hk => by rw [swp_gt (by have := HL1.out; omega) (by have := HL1.out; omega), if_neg (by omega), if_neg (by omega)]; exact KE.out k hk), O4⟩
            case measure => simp [intOf]; omega
          | false =>
            have ht := of_decide_eq_false HT.out
            have HF := hid (di_stop DD.out HC.out (by omega) HMIN.out ht)
            clear ht
            go_wp2
            go_ret
            exact ⟨⟨_, rfl⟩, L1, Q3.out, PE.out, HF.out, KE.out, O3.out⟩
        | false =>
          have hs := of_decide_eq_false HS.out
          have HM2 := meth_Less ⟨hb, 0, none⟩ w2 _ Q2.out.var
          have HMIN : Hid (∀ k, 0 < k → k < m → (k - 1) / 2 = i → sl L1 J ≤ sl L1 k) := hid (by
            have e1 := HJ.out
            have e2 := HK.out
            intro k k0 km kp
            have : k = J ∨ k = K := by omega
            rcases this with rfl | rfl <;> omega)
          have HL2 := hid (less_m lo hi Q2.out (i := J) (j := i) (by have := HL1.out; have := HJ.out; have := HK.out; omega) (by have := HL1.out; have := HJ.out; have := HK.out; omega))
          have hij : i < J := by have := HJ.out; have := HK.out; omega
          have HC := hid (show J = 2 * i + 1 ∨ J = 2 * i + 2 by have := HJ.out; have := HK.out; omega)
          clear r1 r2
          try clear hJ hK
          obtain ⟨T, hT⟩ : ∃ T, decide (sl L1 J < sl L1 i) = T := ⟨_, rfl⟩
          rw [hT] at HL2
          have HT := hid hT
          clear hT
          go_wp2_with fail
          refine HL2.out.mono ?_
          rintro e w3 ⟨rfl, q3, o3⟩
          have Q3 := hid q3
          have O3 := hid (O2.out.trans o3)
          clear HM2 q3 o3
          cases T with
          | true =>
            have ht := of_decide_eq_true HT.out
            have HM3 := meth_Swap ⟨hb, 0, none⟩ w3 _ Q3.out.var
            have HSW := hid (swap_m (lo := lo) (hi := hi) Q3.out (i := i) (j := J) (by have := HL1.out; omega) (by have := HL1.out; omega) hq1 hq2)
            have HST := hid (di_step DD.out HC.out (by omega) (by have := HL1.out; omega) HMIN.out ht)
            clear ht
            go_wp2_with fail
            refine HSW.out.mono ?_
            rintro e w4 ⟨rfl, q4, o4⟩
            have Q4 := hid q4
            have O4 := hid (O3.out.trans o4)
            clear q4 o4 HM3
            go_wp2
            go_roundw
            case rel => exact ⟨J, swp L1 i J, rfl, by omega, hid (by rw [swp_len]; exact HL1.out), Q4, hid ((swp_perm (by have := HL1.out; omega) (by have := HL1.out; omega)).trans PE.out), HST, hid (fun k hk => by rw [swp_gt (by have := HL1.out; omega) (by have := HL1.out; omega), if_neg (by omega), if_neg (by omega)]; exact KE.out k hk), O4⟩
            case measure => simp [intOf]; omega
          | false =>
            have ht := of_decide_eq_false HT.out
            have HF := hid (di_stop DD.out HC.out (by omega) HMIN.out ht)
            clear ht
            go_wp2
            go_ret
            exact ⟨⟨_, rfl⟩, L1, Q3.out, PE.out, HF.out, KE.out, O3.out⟩
      · have h3 : ¬ (K : Int) < (m : Int) := by omega
        have HM2 := meth_Less ⟨hb, 0, none⟩ wr _ Q.out.var
        have HMIN : Hid (∀ k, 0 < k → k < m → (k - 1) / 2 = i → sl L1 J ≤ sl L1 k) := hid (by
          have e1 := HJ.out
          have e2 := HK.out
          intro k k0 km kp
          have : k = J ∨ k = K := by omega
          rcases this with rfl | rfl
          · exact Int.le_refl _
          · omega)
        have HL2 := hid (less_m lo hi Q.out (i := J) (j := i) (by have := HL1.out; have := HJ.out; have := HK.out; omega) (by have := HL1.out; have := HJ.out; have := HK.out; omega))
        have hij : i < J := by have := HJ.out; have := HK.out; omega
        have HC := hid (show J = 2 * i + 1 ∨ J = 2 * i + 2 by have := HJ.out; have := HK.out; omega)
        try clear hJ hK
        obtain ⟨T, hT⟩ : ∃ T, decide (sl L1 J < sl L1 i) = T := ⟨_, rfl⟩
        rw [hT] at HL2
        have HT := hid hT
        clear hT
        go_wp2_with fail
        refine HL2.out.mono ?_
        rintro e w3 ⟨rfl, q3, o3⟩
        have Q3 := hid q3
        have O3 := hid (OO.out.trans o3)
        clear HM2 q3 o3
        cases T with
        | true =>
          have ht := of_decide_eq_true HT.out
          have HM3 := meth_Swap ⟨hb, 0, none⟩ w3 _ Q3.out.var
          have HSW := hid (swap_m (lo := lo) (hi := hi) Q3.out (i := i) (j := J) (by have := HL1.out; omega) (by have := HL1.out; omega) hq1 hq2)
          have HST := hid (di_step DD.out HC.out (by omega) (by have := HL1.out; omega) HMIN.out ht)
          clear ht
          go_wp2_with fail
          refine HSW.out.mono ?_
          rintro e w4 ⟨rfl, q4, o4⟩
          have Q4 := hid q4
          have O4 := hid (O3.out.trans o4)
          clear q4 o4 HM3
          go_wp2
          go_roundw
          case rel => exact ⟨J, swp L1 i J, rfl, by omega, hid (by rw [swp_len]; exact HL1.out), Q4, hid ((swp_perm (by have := HL1.out; omega) (by have := HL1.out; omega)).trans PE.out), HST, hid (fun k hk => by rw [swp_gt (by have := HL1.out; omega) (by have := HL1.out; omega), if_neg (by omega), if_neg (by omega)]; exact KE.out k hk), O4⟩
          case measure => simp [intOf]; omega
        | false =>
          have ht := of_decide_eq_false HT.out
          have HF := hid (di_stop DD.out HC.out (by omega) HMIN.out ht)
          clear ht
          go_wp2
          go_ret
          exact ⟨⟨_, rfl⟩, L1, Q3.out, PE.out, HF.out, KE.out, O3.out⟩

set_option maxRecDepth 100000 in
set_option maxHeartbeats 3200000 in
theorem up_q {hb qb n m lo hi : Nat} {L : List Snd} {w : World} (h : QM w hb qb n L) (hm : L.length = m + 1) (hl : L.length ≤ 8) (hd : UI L (m + 1) m) (hq1 : lo ≤ qb) (hq2 : qb < hi) :
    Calls Try.prog 38 #[.iface 48 (.pointer (some ⟨hb, 0, none⟩)), .int .i64 m] w fun e w' => e = .returned (.tuple #[]) ∧ ∃ L', QM w' hb qb n L' ∧ L'.Perm L ∧ Hp L' (m + 1) ∧ Only lo hi w w' := by
  have H := hid h
  have HD := hid hd
  clear h hd
  go_enter Try.func38, Try.ntmps38
  go_wp2
  go_loopw [1] (fun v1 wr => ∃ (j : Nat) (L1 : List Snd), v1 = .int .i64 j ∧ j ≤ m ∧ Hid (L1.length = L.length) ∧ Hid (QM wr hb qb n L1) ∧ Hid (L1.Perm L) ∧ Hid (UI L1 (m + 1) j) ∧ Hid (Only lo hi w wr)) (fun v1 _ => (intOf v1).toNat)
  case atStart => exact ⟨m, L, rfl, Nat.le_refl _, hid rfl, H, hid (List.Perm.refl _), HD, hid (Only.refl _ _ _)⟩
  case round =>
    obtain ⟨j, L1, rfl, hjm, HL1, Q, PE, DD, OO⟩ := hrel
    by_cases hj0 : j = 0
    · subst hj0
      have HF := hid (ui_top DD.out)
      go_wp2
      go_end0
      exact ⟨rfl, L1, Q.out, PE.out, HF.out, OO.out⟩
    · obtain ⟨I, hI⟩ : ∃ I : Nat, (j - 1) / 2 = I := ⟨_, rfl⟩
      have r1 : ((j : Int) - 1).tdiv 2 = (I : Int) := by
        have e : ((j : Int) - 1) = ((j - 1 : Nat) : Int) := by omega
        rw [e]
        show ((j - 1 : Nat) : Int).tdiv ((2 : Nat) : Int) = _
        rw [← Int.ofNat_tdiv, hI]
      have hIj : I < j := by omega
      have hne : ((I : Int) == (j : Int)) = false := by simp; omega
      have HI := hid hI
      have HM := meth_Less ⟨hb, 0, none⟩ wr _ Q.out.var
      have HLE := hid (less_m lo hi Q.out (i := j) (j := I) (by have := HL1.out; omega) (by have := HL1.out; omega))
      clear hI
      obtain ⟨T, hT⟩ : ∃ T, decide (sl L1 j < sl L1 I) = T := ⟨_, rfl⟩
      rw [hT] at HLE
      have HT := hid hT
      clear hT
      go_wp2_with fail
      refine HLE.out.mono ?_
      rintro e w2 ⟨rfl, q2, o2⟩
      have Q2 := hid q2
      have O2 := hid (OO.out.trans o2)
      clear HM q2 o2
      cases T with
      | true =>
        have ht := of_decide_eq_true HT.out
        have HM3 := meth_Swap ⟨hb, 0, none⟩ w2 _ Q2.out.var
        have HSW := hid (swap_m (lo := lo) (hi := hi) Q2.out (i := I) (j := j) (by have := HL1.out; omega) (by have := HL1.out; omega) hq1 hq2)
        have HST := hid (show UI (swp L1 I j) (m + 1) I by have := ui_step DD.out (by omega) (by omega) (by have := HL1.out; omega) (by rw [HI.out]; exact ht); rw [HI.out] at this; exact this)
        clear ht
        go_wp2_with fail
        refine HSW.out.mono ?_
        rintro e w4 ⟨rfl, q4, o4⟩
        have Q4 := hid q4
        have O4 := hid (O2.out.trans o4)
        clear q4 o4 HM3
        go_wp2
        go_roundw
        case rel => exact ⟨I, swp L1 I j, rfl, by omega, hid (by rw [swp_len]; exact HL1.out), Q4, hid ((swp_perm (by have := HL1.out; omega) (by have := HL1.out; omega)).trans PE.out), HST, O4⟩
        case measure => simp [intOf]; omega
      | false =>
        have ht := of_decide_eq_false HT.out
        have HF := hid (ui_stop DD.out (by rw [HI.out]; exact ht))
        clear ht
        go_wp2
        go_end0
        exact ⟨rfl, L1, Q2.out, PE.out, HF.out, O2.out⟩
end Go.Proofs.Ytnebmfdjcikegaa
