/-
  ONE STEP OF THE POWERS, the program's stepPowers, walked.
-/
import Derived.Test.YtajnpmnedghckaaPowB
namespace Go.Proofs.Ytajnpmnedghckaa
open Go.RowKit
set_option linter.unusedVariables false

theorem RV.away {w w' : World} {B n lo hi : Nat} {A : Option Addr} {vs : List Value} (h : RV w B A n vs) (hA : ∀ a, A = some a → ¬ (lo ≤ a.block ∧ a.block < hi)) (hB : B ≤ w.heap.size) (ho : Only lo hi w w') : RV w' B A n vs :=
  ⟨h.1, fun hn => by
    obtain ⟨b, o, e, hb, hc⟩ := h.2 hn
    exact ⟨b, o, e, hb, fun j u hu => (World.cell?_of_block (ho.block b (by omega) (hA _ e))).trans (hc j u hu)⟩⟩
theorem RI.away {w w' : World} {B n lo hi : Nat} {A : Option Addr} {xs : List Int} (h : RI w B A n xs) (hA : ∀ a, A = some a → ¬ (lo ≤ a.block ∧ a.block < hi)) (hB : B ≤ w.heap.size) (ho : Only lo hi w w') : RI w' B A n xs := RV.away h hA hB ho
set_option maxHeartbeats 3200000 in
theorem stepPowers_impl (A A' A2 : Option Addr) (n n' c c' c2 lo hi : Nat) (rows : List (List Int)) (N G : Int) (ps xs : List Int) (w : World) (h : RII w lo A n rows) (h' : RI w w.heap.size A' n' ps)
    (hA : ∀ a, A' = some a → ¬ (lo ≤ a.block ∧ a.block < hi)) (hx : OwnI w 3 lo hi A2 n' c2 xs) (hh : hi ≤ w.heap.size) (hlh : lo ≤ hi) (ho : PowOk rows N G ps) :
    Calls Try.prog 47 #[.agg #[.slice A n c, .int .i64 N, .int .i64 G], .slice A' n' c', .slice A2 n' c2] w fun e w' => e = .returned (.bool (decide (stepL rows N G ps ≠ ps))) ∧ OwnI w' 3 lo hi A2 n' c2 (stepL rows N G ps) ∧ Only lo hi w w' := by
  have hlen : rows.length = n := RII.len h
  have hlen' : ps.length = n' := RI.len h'
  have hnn : n' = n := by rw [← hlen, ← hlen']; exact ho.2.1
  subst hnn
  have hn5 : n' ≤ 5 := by rw [← hlen]; exact ho.1.2.1
  have HO := hid ho
  have HL := hid (And.intro hlen hlen')
  obtain ⟨W, HW⟩ : ∃ W : World, W = w.alloc (.cells #[.slice A n' c, .int .i64 N, .int .i64 G] 27) := ⟨_, rfl⟩
  have hWs : W.heap.size = w.heap.size + 1 := by rw [HW]; simp
  have kW : Blk W w.heap.size 27 #[.slice A n' c, .int .i64 N, .int .i64 G] := by rw [HW]; exact Blk.new _ _ _
  have rW : RII W lo A n' rows := by rw [HW]; exact RVV.alloc h (by omega) _
  have pW : RI W w.heap.size A' n' ps := by rw [HW]; exact RV.alloc h' (Nat.le_refl _) _
  have oW : OwnI W 3 lo hi A2 n' c2 xs := by rw [HW]; exact OwnV.alloc hx _
  have OW : Hid (∀ W', Only lo hi W W' → Only lo hi w W') := hid (fun W' h => ((Only.refl lo hi w).alloc (.cells #[.slice A n' c, .int .i64 N, .int .i64 G] 27)).trans (by rw [← HW]; exact h))
  have hA' := hid hA
  have hrange : ∀ ys : List Int, ys.length = n' → (∀ j, j < n' → ys[j]? = some (stepV rows N G ps j)) → ys = stepL rows N G ps := by
    intro ys hl hy
    apply List.ext_getElem?
    intro j
    by_cases hj : j < n'
    · rw [hy j hj, stepL, List.getElem?_map, List.getElem?_range (by omega)]; rfl
    · rw [List.getElem?_eq_none (by omega), List.getElem?_eq_none (by rw [stepL_len]; omega)]
  have hdiff : (stepL rows N G ps ≠ ps) ↔ ∃ j, j < n' ∧ stepV rows N G ps j ≠ pw ps j := by
    constructor
    · intro hne
      refine Classical.byContradiction fun hn => hne ?_
      refine (hrange ps hlen' fun j hj => ?_).symm
      have : stepV rows N G ps j = pw ps j := Classical.byContradiction fun h => hn ⟨j, hj, h⟩
      rw [this]
      have e : ps[j]? = some (ps[j]'(by omega)) := List.getElem?_eq_getElem (by omega)
      rw [pw_of e, e]
    · rintro ⟨j, hj, hne⟩ he
      rw [← pw_step (by omega), he] at hne
      exact hne rfl
  have HR := hid hrange
  have HD := hid hdiff
  clear hrange hdiff h h' hx hA ho hlen hlen'
  go_enter Try.func47, Try.ntmps47
  go_wp2
  simp only [← HW]
  go_loopw [7, 12] (fun ch i wr => ∃ (k : Nat) (ys : List Int) (b : Bool), k ≤ n' ∧ i = .int .i64 k ∧ ch = .bool b ∧ Only lo hi W wr ∧ OwnI wr 3 lo hi A2 n' c2 ys ∧ Hid (∀ j, j < k → ys[j]? = some (stepV rows N G ps j)) ∧ Hid (b = true ↔ ∃ j, j < k ∧ stepV rows N G ps j ≠ pw ps j)) (fun _ i _ => n' - (intOf i).toNat)
  case atStart => exact ⟨0, xs, false, Nat.zero_le _, rfl, rfl, Only.refl _ _ _, oW, hid (fun j hj => by omega), hid ⟨fun e => by simp at e, fun ⟨j, hj, _⟩ => by omega⟩⟩
  case round =>
    obtain ⟨k, ys, ch, hk, rfl, rfl, hon, hown, HY, HC⟩ := hrel
    by_cases hlt : k < n'
    · have hsz := hon.size
      obtain ⟨c0, c1, c2'⟩ := blk3 (Blk.only kW hon (by omega))
      have f0 := (Blk.only kW hon (by omega)).frozen
      have rr : RII wr lo A n' rows := RVV.below rW (hon.below (Nat.le_refl _) (by omega))
      have pr : RI wr w.heap.size A' n' ps := RI.away pW hA'.out (by omega) hon
      obtain ⟨b, o, A1, n1, c1', r, rfl, hb, hx, hcl, hr, hn1, hc1⟩ := RII.at_ rr hlt
      have hn11 : n1 = n' := by rw [← RI.len hr, (HO.out.1.2.2.2.2.2.2 k r hx).1, HL.out.1]
      subst hn11
      obtain ⟨b3, o3, g, rfl, hb3, hg, hcg⟩ := RI.at_ hr hlt
      have hgk := gn_self HO.out.1 (show k < rows.length by rw [HL.out.1]; exact hlt)
      rw [gn_of hx hg] at hgk
      obtain ⟨g1, g2⟩ := hgk
      have hcw := wantedAt_impl _ A' n1 n1 c c' wr.heap.size k rows N G ps wr (RVV.more rr (by omega)) (RV.more pr (by omega)) (Nat.le_refl _) HO.out hlt
      have HW0 := want_bd HO.out.1 (show k < rows.length by rw [HL.out.1]; exact hlt) (fun j hj => HO.out.2.2 j (by rw [HL.out.2]; rw [HL.out.1] at hj; exact hj)) HO.out.2.1
      obtain ⟨W0, hW0⟩ : ∃ W0, want rows N G ps k = W0 := ⟨_, rfl⟩
      rw [hW0] at hcw HW0
      obtain ⟨w1', w2'⟩ := HW0
      have HCW := hid hcw
      have HN : Hid (stepV rows N G ps k = min ((W0 + 10 * g - 1) / (10 * g)) 10000) := hid (by unfold stepV needV; rw [hW0, gn_of hx hg])
      have hS := stepV_bd HO.out (show k < ps.length by rw [HL.out.2]; exact hlt)
      obtain ⟨S, hSS⟩ : ∃ S, stepV rows N G ps k = S := ⟨_, rfl⟩
      rw [hSS] at HN hS
      have hV0 : 0 ≤ (W0 + 10 * g - 1) / (10 * g) := Int.ediv_nonneg (by omega) (by omega)
      have hV1 : (W0 + 10 * g - 1) / (10 * g) ≤ W0 + 10 * g - 1 := Int.ediv_le_self _ (by omega)
      obtain ⟨V, hVV⟩ : ∃ V, (W0 + 10 * g - 1) / (10 * g) = V := ⟨_, rfl⟩
      have r4 : Int.tdiv (W0 + 10 * g - 1) (10 * g) = V := by rw [Int.tdiv_eq_ediv_of_nonneg (by omega), hVV]
      rw [hVV] at HN hV0 hV1
      have r1 : IntKind.i64.wrap (10 * g) = 10 * g := IntWalk.i64_in _ (by omega)
      have r2 : IntKind.i64.wrap (W0 + 10 * g) = W0 + 10 * g := IntWalk.i64_in _ (by omega)
      have r3 : IntKind.i64.wrap (W0 + 10 * g - 1) = W0 + 10 * g - 1 := IntWalk.i64_in _ (by omega)
      have r5 : IntKind.i64.wrap V = V := IntWalk.i64_in _ (by omega)
      have HSS := hid hSS
      obtain ⟨b2, o2, p, rfl, hb2, hp, hcp⟩ := RI.at_ pr hlt
      have hb2n := hA'.out _ rfl
      simp only at hb2n
      have HP := hid (pw_of hp)
      have hk0 : (0 : Int) ≤ (k : Int) := by omega
      have hkn : (k : Int) < (n1 : Int) := by omega
      clear hx hg hp hcw hW0 hSS hVV rr pr hr
      go_wp2_with fail
      refine HCW.out.mono ?_
      rintro e w1 ⟨rfl, hbw⟩
      have hon1 : Only lo hi W w1 := hon.step hbw hsz
      have hown1 : OwnI w1 3 lo hi A2 n1 c2 ys := OwnV.below hown hbw (by omega)
      have pr1 : RI w1 w.heap.size (some ⟨b2, o2, none⟩) n1 ps := RI.away pW hA'.out (by omega) hon1
      obtain ⟨b4, o4, p4, he4, hb4, hp4, hcp4⟩ := RI.at_ pr1 hlt
      injection he4 with he4
      injection he4 with he4 he5
      subst he4 he5
      have hp44 : p4 = p := by rw [← HP.out, pw_of hp4]
      subst hp44
      obtain ⟨gg, y, rfl, hgl, hgh, hgs, hy, hcy, hfy, hst⟩ := OwnI.stored hown1 hlt S
      have d1 := (Blk.only kW hon1 (by omega))
      obtain ⟨q0, q1, q2⟩ := blk3 d1
      have hne : b2 ≠ gg := by omega
      have hne' : w.heap.size ≠ gg := by omega
      have HST := hid (And.intro hst (And.intro (hon1.setCell (p := ⟨gg, k, none⟩) hgl hgh (.int .i64 S)) (show ∀ j, j < k + 1 → (ys.set k S)[j]? = some (stepV rows N G ps j) from fun j hj => by
        rw [List.getElem?_set]
        by_cases hjk : k = j
        · subst hjk
          rw [if_pos rfl, if_pos (List.getElem?_eq_some_iff.1 hy).1, HSS.out]
        · rw [if_neg hjk]; exact HY.out j (by omega))))
      clear hst hown hown1 hon hon1 hp4 hy pr1 hbw kW rW pW oW d1
      have hSV : (V ≤ 10000 ∧ S = V) ∨ (10000 < V ∧ S = 10000) := by have := HN.out; omega
      by_cases hsp : S = p4
      · have hsq : (S != p4) = false := by simp [hsp]
        have HCC : Hid (ch = true ↔ ∃ j, j < k + 1 ∧ stepV rows N G ps j ≠ pw ps j) := hid (by
          rw [HC.out]
          constructor
          · rintro ⟨j, hj, h⟩; exact ⟨j, by omega, h⟩
          · rintro ⟨j, hj, h⟩
            refine ⟨j, ?_, h⟩
            have : j ≠ k := by rintro rfl; rw [HSS.out, HP.out] at h; exact h hsp
            omega)
        clear hsp
        rcases hSV with ⟨v1, v2⟩ | ⟨v1, v2⟩
        all_goals
          subst v2
          cases ch
          all_goals
            go_wp2_with (go_quiet (fail))
            go_roundw
            case rel => exact ⟨k + 1, _, _, by omega, by go_num, rfl, HST.out.2.1.drewN _, HST.out.1, hid HST.out.2.2, by first | exact HCC | exact hid ⟨fun _ => HCC.out.1 trivial, fun _ => rfl⟩⟩
            case measure => simp [intOf]; omega
      · have hsq : (S != p4) = true := by simp [hsp]
        have HCC : Hid (∃ j, j < k + 1 ∧ stepV rows N G ps j ≠ pw ps j) := hid ⟨k, by omega, by rw [HSS.out, HP.out]; exact hsp⟩
        clear hsp
        rcases hSV with ⟨v1, v2⟩ | ⟨v1, v2⟩
        all_goals
          subst v2
          cases ch
          all_goals
            go_wp2_with (go_quiet (fail))
            go_roundw
            case rel => exact ⟨k + 1, _, true, by omega, by go_num, rfl, HST.out.2.1.drewN _, HST.out.1, hid HST.out.2.2, hid ⟨fun _ => HCC.out, fun _ => rfl⟩⟩
            case measure => simp [intOf]; omega
    · have hkn : k = n' := by omega
      subst hkn
      have hyl := OwnI.len hown
      have HE := hid (HR.out ys hyl HY.out)
      have HF := hid (And.intro (OW.out _ hon) hown)
      have HB : Hid (decide (stepL rows N G ps ≠ ps) = ch) := hid (by
        cases ch
        · exact decide_eq_false (fun h => by have := HC.out.2 (HD.out.1 h); cases this)
        · exact decide_eq_true (HD.out.2 (HC.out.1 rfl)))
      clear hon hown kW rW pW oW
      go_wp2
      go_ret
      exact ⟨ret_bool HB.out.symm, by rw [← HE.out]; exact HF.out.2, HF.out.1⟩
end Go.Proofs.Ytajnpmnedghckaa
