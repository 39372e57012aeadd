/-
  The reference's search of slots, BestSlots, walked.
-/
import Derived.Test.YtgccpjhkgkhllaaDoorSloC
namespace Go.Proofs.YtgccpjhkgkhllaaDoor
open Go.RowKit
set_option linter.unusedVariables false

/-- What the search gives with slot s next. -/
def srchF (rows : List (List Bool)) (most d : Nat) (ss : List Nat) (s : Nat) : Option (List Nat) := if usedB rows ss ss.length s then none else search rows most d (ss ++ [s])
theorem search_succ (rows : List (List Bool)) (most d : Nat) (ss : List Nat) : search rows most (d + 1) ss = (List.range most).findSome? (srchF rows most d ss) := rfl
theorem range_none {α : Type} {f : Nat → Option α} {k : Nat} (h : ∀ t, t < k → f t = none) : (List.range k).findSome? f = none := by
  rw [List.findSome?_eq_none_iff]
  intro x hx
  exact h x (List.mem_range.1 hx)
theorem range_some {α : Type} {f : Nat → Option α} {k m : Nat} {x : α} (h : ∀ t, t < k → f t = none) (hk : f k = some x) (hm : k < m) : (List.range m).findSome? f = some x := by
  obtain ⟨e, rfl⟩ := Nat.exists_eq_add_of_lt hm
  rw [show k + e + 1 = (k + 1) + e by omega, List.range_add, List.findSome?_append, List.range_succ, List.findSome?_append, range_none h]
  simp [hk]
set_option maxRecDepth 100000 in
set_option maxHeartbeats 3200000 in
theorem search_spec (A : Option Addr) (n c B most : Nat) (rows : List (List Bool)) (hsq : ∀ r ∈ rows, r.length = n) (hn : n ≤ 10) (hmost : most ≤ 1000) :
    ∀ (d : Nat) (A' : Option Addr) (n' c' : Nat) (ss : List Nat) (w : World), RTT w B A n rows → B ≤ w.heap.size → RI w w.heap.size A' n' (castL ss) → ss.length + d = n →
    Calls Tryd.prog 38 #[.slice A n c, .slice A' n' c', .int .i64 (most : Int)] w fun e w' => ∃ A2 n2 c2, e = .returned (.slice A2 n2 c2) ∧ RI w' w'.heap.size A2 n2 (castL ((search rows most d ss).getD [])) ∧ Below w.heap.size w w' := by
  intro d
  induction d with
  | zero =>
    intro A' n' c' ss w h hB h' hd
    have hl : n' = n := by rw [← RI.len h', castL_len]; omega
    subst hl
    have hq : ((n' : Int) == (n' : Int)) = true := by simp
    have HF := hid h'
    clear h h'
    go_enter Tryd.func38, Tryd.ntmps38
    go_wp2
    go_ret
    exact ⟨_, _, _, rfl, HF.out, Below.refl _ _⟩
  | succ d ih =>
    intro A' n' c' ss w h hB h' hd
    obtain ⟨i0, hi0, hz0, hz1, hz2⟩ := info_parts infoSl
    have hln : ss.length = n' := by rw [← castL_len]; exact RI.len h'
    have hlt' : n' < n := by omega
    have hq : ((n' : Int) == (n : Int)) = false := by simp; omega
    have HH := hid (And.intro h h')
    have HIH := hid ih
    clear h h' ih
    go_enter Tryd.func38, Tryd.ntmps38
    go_wp2
    go_loopw [7] (fun sv wr => ∃ s : Nat, s ≤ most ∧ sv = .int .i64 s ∧ Below w.heap.size w wr ∧ Hid (∀ t, t < s → srchF rows most d ss t = none)) (fun sv _ => most - (intOf sv).toNat)
    case atStart => exact ⟨0, Nat.zero_le _, rfl, Below.refl _ _, hid (fun t ht => by omega)⟩
    case round =>
      obtain ⟨s, hs, rfl, hbr, HN⟩ := hrel
      have hsz := hbr.size
      by_cases hst : s < most
      · have hr := RVV.below HH.out.1 (hbr.mono hB)
        have hx : RI wr w.heap.size A' n' (castL ss) := RV.below HH.out.2 hbr
        have hfr := free_spec A A' n n' c c' B w.heap.size n' s rows ss wr hr hx hsq hlt' (by omega) (by omega)
        cases hu : usedB rows ss n' s with
        | true =>
          rw [hu] at hfr
          have HFR := hid hfr
          have HN2 := hid (show ∀ t, t < s + 1 → srchF rows most d ss t = none from fun t ht => by
            by_cases hts : t = s
            · subst hts; unfold srchF; rw [hln, hu]; rfl
            · exact HN.out t (by omega))
          have HBR := hid hbr
          clear hr hx hfr hu hbr
          go_wp2_with fail
          refine HFR.out.mono ?_
          rintro e w_ ⟨rfl, rfl⟩
          go_wp2
          go_roundw
          case rel => exact ⟨s + 1, by omega, by go_num, HBR.out, HN2⟩
          case measure => simp [intOf]; omega
        | false =>
          rw [hu] at hfr
          have HFR := hid hfr
          have HU := hid (show srchF rows most d ss s = search rows most d (ss ++ [s]) by unfold srchF; rw [hln, hu]; rfl)
          have HBR := hid hbr
          have HR := hid hr
          have hown0 := own_lit0 (w := wr) 3 (Nat.le_refl _)
          have hxr := RV.alloc hx hsz (.cells #[] 3)
          have HXR := hid hxr
          clear hr hx hfr hu hbr hxr
          go_wp2_with fail
          refine HFR.out.mono ?_
          rintro e w_ ⟨rfl, rfl⟩
          go_wp2_with (first
            | (at_builtin; refine wpList_all rfl _ _ _ rfl wr.heap.size 3 i0 _ 8 Tryd.underlying25 hi0 hz0 hz1 hz2 rfl (by omega) _ 0 0 [] rfl hown0 w.heap.size A' n' c' ((castL ss).map (Value.int .i64)) rfl HXR.out (by intro u hu; obtain ⟨x, _, rfl⟩ := List.mem_map.1 hu; rfl) (by omega) (by omega) (by simp) ?_; intro A2 c2 w2 hown2 hgrow2; simp only [Nat.zero_add, List.nil_append] at hown2; have hbb2 := below_push ((Below.refl wr.heap.size wr).alloc (Nat.le_refl _) _) hown0 (Nat.le_refl _) (by simp) hgrow2; have hz2' := hbb2.size; have HB2 := hid hbb2; clear hbb2 hgrow2)
            | (at_builtin; refine wpList_push rfl _ _ _ rfl wr.heap.size 3 i0 _ 8 Tryd.underlying25 hi0 hz0 hz1 hz2 rfl (by omega) _ _ A2 n' c2 _ rfl hown2 rfl rfl (by omega) (by omega) ?_; intro g3 cap3 w3 hown3 hgrow3 hlies3 hlt3))
          have b3 : Below wr.heap.size wr w3 := below_push HB2.out hown2 (Nat.le_refl _) (by omega) hgrow3
          have x3 : RI w3 w3.heap.size (some ⟨g3, 0, none⟩) (n' + 1) (castL (ss ++ [s])) := by
            have := RV.of_own hown3
            unfold RI
            rw [castL_snoc, List.map_append]
            exact this
          have hrec := HIH.out (some ⟨g3, 0, none⟩) (n' + 1) cap3 (ss ++ [s]) w3 (RVV.below HR.out (b3.mono (by omega))) (Nat.le_trans hB (Nat.le_trans hsz b3.size)) x3 (by simp; omega)
          have HB3 := hid (HBR.out.trans (b3.mono hsz))
          clear hown2 hown3 hgrow3 x3 b3
          refine hrec.mono ?_
          rintro e w4 ⟨A4, n4, c4, rfl, x4, hb4⟩
          have HB4 := hid (HB3.out.trans (hb4.mono HB3.out.size))
          have hl4 := RI.len x4
          rw [castL_len] at hl4
          have HX4 := hid x4
          clear hrec hb4 x4
          cases hsr : search rows most d (ss ++ [s]) with
          | some xs =>
            rw [hsr] at hl4 HX4
            have hxl := search_len d _ hsr
            have hn4 : n = n4 := by simp at hl4 hxl; omega
            subst hn4
            have hqq : ((n : Int) == (n : Int)) = true := by simp
            have HV := hid (show search rows most (d + 1) ss = some xs by rw [search_succ]; exact range_some HN.out (HU.out.trans hsr) hst)
            clear hsr hl4 hxl
            go_wp2
            go_ret
            exact ⟨_, _, _, rfl, by rw [HV.out]; exact HX4.out, HB4.out⟩
          | none =>
            rw [hsr] at hl4
            have hn4 : n4 = 0 := by simpa using hl4.symm
            subst hn4
            have hqq : ((0 : Int) == (n : Int)) = false := by simp; omega
            have HN2 := hid (show ∀ t, t < s + 1 → srchF rows most d ss t = none from fun t ht => by
              by_cases hts : t = s
              · subst hts; rw [HU.out, hsr]
              · exact HN.out t (by omega))
            clear hsr hl4 HX4
            go_wp2
            go_roundw
            case rel => exact ⟨s + 1, by omega, by go_num, HB4.out, HN2⟩
            case measure => simp [intOf]; omega
      · have hsm : s = most := by omega
        subst hsm
        have HV := hid (show search rows s (d + 1) ss = none by rw [search_succ]; exact range_none HN.out)
        have HF := hid (show RI (wr.alloc (.cells #[] 3)) (wr.alloc (.cells #[] 3)).heap.size (some ⟨wr.heap.size, 0, none⟩) 0 [] from RV.of_own (own_lit0 (w := wr) 3 (Nat.le_refl _)))
        have HB2 := hid (hbr.alloc hsz (.cells #[] 3))
        clear hbr
        go_wp2
        go_ret
        exact ⟨_, _, _, rfl, by rw [HV.out]; exact HF.out, HB2.out⟩
open Classical in
/-- The best slots, nothing for a table that is not valid or too large. -/
noncomputable def bestI (rows : List (List Bool)) : List Int := if ConfOk rows ∧ rows.length ≤ 7 then castL (bestL rows) else []
open Classical in
theorem bestI_yes {rows : List (List Bool)} (h : ConfOk rows) (h7 : rows.length ≤ 7) : bestI rows = castL (bestL rows) := by unfold bestI; exact if_pos ⟨h, h7⟩
open Classical in
theorem bestI_no {rows : List (List Bool)} (h : ¬ (ConfOk rows ∧ rows.length ≤ 7)) : bestI rows = [] := by unfold bestI; exact if_neg h
theorem bestI_len (rows : List (List Bool)) : (bestI rows).length ≤ 7 := by
  by_cases h : ConfOk rows ∧ rows.length ≤ 7
  · rw [bestI_yes h.1 h.2, castL_len, best_len]; exact h.2
  · rw [bestI_no h]; simp
theorem conf_sq {rows : List (List Bool)} (h : ConfOk rows) : ∀ r ∈ rows, r.length = rows.length := fun r hr => by
  obtain ⟨j, hj, e⟩ := List.mem_iff_getElem.1 hr
  exact h.2.1 j r (by rw [← e]; exact List.getElem?_eq_getElem hj)
set_option maxHeartbeats 1600000 in
theorem best_spec (A : Option Addr) (n c B : Nat) (rows : List (List Bool)) (w : World) (h : RTT w B A n rows) (hB : B ≤ w.heap.size) (hn : n ≤ 1000000000) :
    Calls Tryd.prog 15 #[.slice A n c] w fun e w' => RetI 3 w e w' (bestI rows) := by
  have HL := hid (RTT.len h)
  obtain ⟨i0, hi0, hz0, hz1, hz2⟩ := info_parts infoSl
  have hcv := confValid_spec A n c B rows w h hn
  by_cases hco : ConfOk rows ∧ rows.length ≤ 7
  · obtain ⟨hco, h7⟩ := hco
    rw [confB_yes hco] at hcv
    rw [bestI_yes hco h7]
    rw [HL.out] at h7
    obtain ⟨BM, hBM⟩ : ∃ BM, bestM rows = BM := ⟨_, rfl⟩
    obtain ⟨s1, s2, s3⟩ := bestM_spec rows
    rw [hBM, HL.out] at s1 s2
    rw [hBM] at s3
    have HSQ := hid (show ∀ r ∈ rows, r.length = n from fun r hr => by rw [conf_sq hco r hr]; exact HL.out)
    have HS := hid (And.intro s2 (fun u hu => (show search rows u n [] = none by have := s3 u hu; rwa [HL.out] at this)))
    have HBL := hid (show (bestL rows).length = n by rw [best_len]; exact HL.out)
    have hBn : BM ≤ n := s1
    have HCV := hid hcv
    have HH := hid h
    have h7' : ¬ (7 : Int) < (n : Int) := by omega
    clear hcv hco h hBM s1 s2 s3
    go_enter Tryd.func15, Tryd.ntmps15
    go_wp2_with fail
    refine HCV.out.mono ?_
    rintro e w1 ⟨rfl, d, rfl⟩
    have b1 : Below w.heap.size w (w.drewN d) := (Same.drewN _ _).bel _
    go_wp2
    go_loopw [3] (fun mv wr => ∃ m : Nat, m ≤ BM ∧ mv = .int .i64 m ∧ Below w.heap.size w wr) (fun mv _ => BM - (intOf mv).toNat)
    case atStart => exact ⟨0, Nat.zero_le _, rfl, b1⟩
    case round =>
      obtain ⟨m, hmB, rfl, hbr⟩ := hrel
      have hsz := hbr.size
      have hbl := hbr.alloc hsz (.cells #[] 3)
      have hxl : RI (wr.alloc (.cells #[] 3)) (wr.alloc (.cells #[] 3)).heap.size (some ⟨wr.heap.size, 0, none⟩) 0 (castL []) := RV.of_own (own_lit0 (w := wr) 3 (Nat.le_refl _))
      have hsp := search_spec A n c B m rows HSQ.out (by omega) (by omega) n (some ⟨wr.heap.size, 0, none⟩) 0 0 [] _ (RVV.below HH.out (hbl.mono hB)) (by simp; omega) hxl (by simp)
      have HSP := hid hsp
      have HB2 := hid hbl
      clear hbr hbl hxl hsp b1
      go_wp2_with fail
      refine HSP.out.mono ?_
      rintro e w2 ⟨A2, n2, c2, rfl, x2, hb2⟩
      have HB3 := hid (HB2.out.trans (hb2.mono HB2.out.size))
      have hl2 := RI.len x2
      rw [castL_len] at hl2
      by_cases hmm : m < BM
      · rw [HS.out.2 m hmm] at hl2
        have hn2 : n2 = 0 := by simpa using hl2.symm
        subst hn2
        have hqq : ((0 : Int) == (n : Int)) = false := by simp; omega
        clear hl2 x2 hb2
        go_wp2
        go_roundw
        case rel => exact ⟨m + 1, by omega, by go_num, HB3.out⟩
        case measure => simp [intOf]; omega
      · have hme : m = BM := by omega
        subst hme
        rw [HS.out.1] at hl2 x2
        have hn2 : n = n2 := by have := HBL.out; simp at hl2; omega
        subst hn2
        have hqq : ((n : Int) == (n : Int)) = true := by simp
        have hown0 := own_lit0 (w := w2) 3 (Nat.le_refl _)
        have hx2 := RV.alloc x2 (Nat.le_refl _) (.cells #[] 3)
        have HX2 := hid hx2
        clear hl2 x2 hb2 hx2
        go_wp2_with (at_builtin; refine wpList_all rfl _ _ _ rfl w2.heap.size 3 i0 _ 8 Tryd.underlying25 hi0 hz0 hz1 hz2 rfl (by omega) _ 0 0 [] rfl hown0 w2.heap.size A2 n c2 ((castL (bestL rows)).map (Value.int .i64)) rfl HX2.out (by intro u hu; obtain ⟨x, _, rfl⟩ := List.mem_map.1 hu; rfl) (by omega) (by omega) (by simp) ?_; intro A5 c5 w5 hown5 hgrow5; simp only [Nat.zero_add, List.nil_append] at hown5)
        have hb5 := below_push ((Below.refl w2.heap.size w2).alloc (Nat.le_refl _) _) hown0 (Nat.le_refl _) (by simp) hgrow5
        have HF := hid (show RetI 3 w (.returned (.slice A5 n c5)) w5 (castL (bestL rows)) from retI_of (own_base hown5 HB3.out.size) (HB3.out.trans (hb5.mono HB3.out.size)))
        clear hown5 hgrow5 hb5 hown0
        go_ret
        exact HF.out
  · rw [bestI_no hco]
    have HH := hid h
    have HF := hid (fun d => show RetI 3 w (.returned (.slice (some ⟨w.heap.size, 0, none⟩) 0 0)) ((w.drewN d).alloc (.cells #[] 3)) [] from retI_of (n := 0) (own_lit0 (w := w.drewN d) 3 (Nat.le_refl _)) (((Same.drewN w d).bel _).alloc (Nat.le_refl _) _))
    by_cases hc : ConfOk rows
    · rw [confB_yes hc] at hcv
      have HCV := hid hcv
      have h7' : (7 : Int) < (n : Int) := by have := HL.out; have : ¬ rows.length ≤ 7 := fun h => hco ⟨hc, h⟩; omega
      clear hcv hco h hc
      go_enter Tryd.func15, Tryd.ntmps15
      go_wp2_with fail
      refine HCV.out.mono ?_
      rintro e w1 ⟨rfl, d, rfl⟩
      go_wp2
      go_ret
      exact HF.out d
    · rw [confB_no hc] at hcv
      have HCV := hid hcv
      clear hcv hco h hc
      go_enter Tryd.func15, Tryd.ntmps15
      go_wp2_with fail
      refine HCV.out.mono ?_
      rintro e w1 ⟨rfl, d, rfl⟩
      go_wp2
      go_ret
      exact HF.out d
end Go.Proofs.YtgccpjhkgkhllaaDoor
