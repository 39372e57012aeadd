/-
  The program's BestSlots, walked.
-/
import Derived.Test.YtgccpjhkgkhllaaDoorSloG
namespace Go.Proofs.YtgccpjhkgkhllaaDoor
open Go.RowKit
set_option linter.unusedVariables false

set_option maxRecDepth 100000 in
set_option maxHeartbeats 3200000 in
theorem best_impl (A : Option Addr) (n c B : Nat) (rows : List (List Bool)) (w : World) (h : RTT w B A n rows) (hB : B ≤ w.heap.size) (hn : n ≤ 1000000000) :
    Calls Tryd.prog 12 #[.slice A n c] w fun e w' => RetI 3 w e w' (bestI rows) := by
  have HL := hid (RTT.len h)
  have hcv := confValid_impl A n c B rows w h hn
  by_cases hco : ConfOk rows ∧ rows.length ≤ 7
  · obtain ⟨hco, h7⟩ := hco
    rw [confB_yes hco] at hcv
    rw [bestI_yes hco h7]
    rw [HL.out] at h7
    obtain ⟨BM, hBM⟩ : ∃ BM, bestM rows = BM := ⟨_, rfl⟩
    obtain ⟨s1, s2, s3⟩ := bestM_spec rows
    rw [hBM, HL.out] at s1 s2
    rw [hBM] at s3
    have hsq : ∀ r ∈ rows, r.length = n := fun r hr => by rw [conf_sq hco r hr]; exact HL.out
    have HS := hid (And.intro s2 (fun u hu => (show search rows u n [] = none by have := s3 u hu; rwa [HL.out] at this)))
    have HBL := hid (show (bestL rows).length = n by rw [best_len]; exact HL.out)
    have hBn : BM ≤ n := s1
    have HCV := hid hcv
    have hcs := conflictSets_impl A n c B rows w h hB hsq (by omega)
    have HCS := hid hcs
    have h7' : ¬ (7 : Int) < (n : Int) := by omega
    clear hcv hco h hBM s1 s2 s3 hcs hsq
    go_enter Tryd.func12, Tryd.ntmps12
    go_wp2_with fail
    refine HCV.out.mono ?_
    rintro e w1 ⟨rfl, rfl⟩
    go_wp2_with fail
    refine HCS.out.mono ?_
    rintro e w2 ⟨rfl, hgb, hb2⟩
    obtain ⟨g, hg⟩ : ∃ g, w.heap.size = g := ⟨_, rfl⟩
    obtain ⟨p, hp⟩ : ∃ p, w2.heap.size = p := ⟨_, rfl⟩
    have hgp : g < p := by rw [← hp, ← hg]; exact hgb.lt
    have hmk := run_make0 (P := Tryd.prog) 25 3 (.int .i64 0) 8 Tryd.underlying25 infoSl rfl .i64 .i64 n (by omega) (by omega) w2
    have hpt : Part (w2.alloc (.cells (madeCells #[.int .i64 0] n) 3)) p n 0 [] := ⟨_, by rw [← hp]; exact Blk.new w2 3 _, by simp [madeCells], rfl⟩
    have hgb1 : Blk (w2.alloc (.cells (madeCells #[.int .i64 0] n) 3)) g 45 ((setsL rows n).map fU).toArray := by rw [← hg]; exact hgb.alloc _
    have HH := hid (And.intro hgb1 (And.intro (hb2.alloc hb2.size (.cells (madeCells #[.int .i64 0] n) 3)) (And.intro hg (And.intro hp hpt))))
    rw [hp] at hmk
    rw [hg]
    clear hgb hgb1 hb2 hpt hg
    obtain ⟨W3, hW3⟩ : ∃ W3, w2.alloc (.cells (madeCells #[.int .i64 0] n) 3) = W3 := ⟨_, rfl⟩
    rw [hW3] at hmk
    go_wp2
    go_loopw [5] (fun mv wr => ∃ m : Nat, m ≤ BM ∧ mv = .int .i64 m ∧ Only p (p + 1) W3 wr ∧ Part wr p n 0 []) (fun mv _ => BM - (intOf mv).toNat)
    case atStart => exact ⟨0, Nat.zero_le _, rfl, Only.refl _ _ _, hW3 ▸ HH.out.2.2.2.2⟩
    case round =>
      obtain ⟨m, hmB, rfl, hon, hpt⟩ := hrel
      have hfl := fill_impl n g m p rows (by omega) (by omega) (by omega) n 0 [] wr (Blk.only (hW3 ▸ HH.out.1) hon (by omega)) hpt rfl (by omega) (fun j => by simp)
      have HFL := hid hfl
      have HB0 := hid (And.intro hon (show Below w.heap.size w wr from by
        have hb3 : Below w.heap.size w W3 := hW3 ▸ HH.out.2.1
        exact hb3.trans (hon.below (by rw [HH.out.2.2.1]; omega) hb3.size)))
      clear hfl hon hpt
      go_wp2_with fail
      refine HFL.out.mono ?_
      rintro e w4 ⟨v4, rfl, hfr, hon4, hpt4⟩
      have HB4 := hid (And.intro (HB0.out.1.trans hon4) (And.intro (HB0.out.2.trans (hon4.below (by rw [HH.out.2.2.1]; omega) HB0.out.2.size)) hpt4))
      have hws : w.heap.size ≤ wr.heap.size := HB0.out.2.size
      by_cases hmm : m < BM
      · rw [HS.out.2 m hmm] at hfr
        have hv4 : v4 = .slice none 0 0 := hfr
        subst hv4
        clear hfr hon4 hpt4 hws
        go_wp2
        go_roundw
        case rel => exact ⟨m + 1, by omega, by go_num, HB4.out.1, HB4.out.2.2⟩
        case measure => simp [intOf]; omega
      · have hme : m = BM := by omega
        subst hme
        rw [HS.out.1] at hfr
        obtain ⟨A4, c4, rfl, ho4⟩ := hfr
        have HF := hid (show RetI 3 w (.returned (.slice (some A4) n c4)) w4 (castL (bestL rows)) from ⟨_, _, _, rfl, OwnV.more ho4 hws (Nat.le_refl _), HB4.out.2.1⟩)
        clear ho4 hon4 hpt4 hws
        go_wp2
        go_ret
        exact HF.out
  · rw [bestI_no hco]
    have HF := hid (retI_nil 3 w)
    by_cases hc : ConfOk rows
    · rw [confB_yes hc] at hcv
      have HCV := hid hcv
      have h7' : (7 : Int) < (n : Int) := by have := HL.out; have : ¬ rows.length ≤ 7 := fun h => hco ⟨hc, h⟩; omega
      clear hcv hco h hc
      go_enter Tryd.func12, Tryd.ntmps12
      go_wp2_with fail
      refine HCV.out.mono ?_
      rintro e w1 ⟨rfl, rfl⟩
      go_wp2
      go_ret
      exact HF.out
    · rw [confB_no hc] at hcv
      have HCV := hid hcv
      clear hcv hco h hc
      go_enter Tryd.func12, Tryd.ntmps12
      go_wp2_with fail
      refine HCV.out.mono ?_
      rintro e w1 ⟨rfl, rfl⟩
      go_wp2
      go_ret
      exact HF.out
end Go.Proofs.YtgccpjhkgkhllaaDoor
