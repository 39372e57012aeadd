/-
  SelectRepeat, the reference's, walked.
-/
import Derived.Test.YtnnapbjaidbkgaaRepF
namespace Go.Proofs.Ytnnapbjaidbkgaa
open Go.RowKit
set_option linter.unusedVariables false

theorem updArr (n m : Nat) (d : Nat → Bool) (v : Bool) : ((List.range n).map fun j => Value.bool (updB d m v j)).toArray = (((List.range n).map fun j => Value.bool (d j)).toArray).setIfInBounds m (.bool v) := by
  apply Array.ext
  · simp
  · intro i h1 h2
    simp [updB]
    by_cases hi : i = m
    · subst hi; simp
    · have hi' : ¬ m = i := fun e => hi e.symm
      simp [hi, hi']
theorem repBool (n : Nat) : (madeCells #[Value.bool false] n) = ((List.range n).map fun j => Value.bool ((fun _ => false) j)).toArray := by
  apply Array.toList_inj.1
  rw [toList_madeCells_one]
  apply List.ext_getElem
  · simp
  · intro i h1 h2; simp
theorem rangeCell (n i : Nat) (f : Nat → Value) (h : i < n) : ((List.range n).map f).toArray[i]? = some (f i) := by simp [h]
theorem infoBoolG : (Try.prog.info? 4).map (fun i => (i.zero, i.size, i.bytes)) = some (some (.bool false), 1, 1) := by kernel_rfl

set_option maxHeartbeats 4000000 in
set_option maxRecDepth 20000 in
theorem selRep_spec (n win : Int) (A : Option Addr) (l c B : Nat) (lost : List Bool) (w : World) (h : RT w B A l lost) (hB : B ≤ w.heap.size) (hl : l ≤ 1000000000) :
    Calls Try.prog 24 #[.int .i64 n, .int .i64 win, .slice A l c] w fun e w' => RetIB w e w' (selRep n win lost) := by
  by_cases hv : ValidGo n win
  · obtain ⟨N, rfl⟩ := Int.eq_ofNat_of_zero_le hv.1
    obtain ⟨W, rfl⟩ := Int.eq_ofNat_of_zero_le (show 0 ≤ win by have := hv.2.2.1; omega)
    have hn : N ≤ 30 := by have := hv.2.1; omega
    have hw1 : 1 ≤ W := by have := hv.2.2.1; omega
    have hw8 : W ≤ 8 := by have := hv.2.2.2; omega
    obtain ⟨V, HVV⟩ : ∃ V, Hid (V = srO N W lost 301 0 (fun _ => false) []) := ⟨_, hid rfl⟩
    have HV : Hid (selRep N W lost = goOut V) := hid (by rw [HVV.out]; unfold selRep; exact (if_pos hv).trans rfl)
    have HH := hid h
    obtain ⟨i0, hi0, hz0, hz1, hz2⟩ := info_parts infoI
    have hs1 := hid (fun W => l1In_yes (N : Int) 0 30 W (by omega) (by omega))
    have hs2 := hid (fun W' => l1In_yes (W : Int) 1 8 W' (by omega) (by omega))
    have hmk := run_make_row' (P := Try.prog) 22 4 (.bool false) 1 Try.underlying22 infoBoolG rfl .i64 .i64 N (by omega) (by omega)
    obtain ⟨g, Hg⟩ : ∃ g, Hid (g = w.heap.size + 1) := ⟨_, hid rfl⟩
    have HD0 : Hid (Blk ((w.alloc (.cells #[] 3)).alloc (.cells (madeCells #[Value.bool false] N) 4)) g 4 ((List.range N).map fun j => Value.bool ((fun _ => false) j)).toArray) := hid (by
      have := Blk.new (w.alloc (.cells #[] 3)) 4 (madeCells #[Value.bool false] N)
      rw [show (w.alloc (.cells #[] 3)).heap.size = g by rw [Hg.out]; simp] at this
      rw [← repBool]
      exact this)
    have hgw : w.heap.size < g := by rw [Hg.out]; omega
    clear h hv
    go_enter Try.func24, Try.ntmps24
    go_wp2_with fail
    refine (hs1.out _).mono ?_
    rintro e w1 ⟨rfl, rfl⟩
    go_wp2_with fail
    refine (hs2.out _).mono ?_
    rintro e w1 ⟨rfl, rfl⟩
    go_wp2
    rw [show ((w.heap.size : Nat) + 1) = g from Hg.out.symm]
    go_loopw [8, 10] (fun sv bv wr => ∃ (f b l1 c1 : Nat) (A1 : Option Addr) (s : List Int) (d : Nat → Bool), bv = .int .i64 b ∧ sv = .slice A1 l1 c1 ∧ l1 ≤ 308 ∧ b ≤ N ∧ 301 ≤ f + l1 ∧ Hid (OwnI wr 3 w.heap.size wr.heap.size A1 l1 c1 s ∧ Below w.heap.size w wr ∧ (∀ a, A1 = some a → a.block ≠ g) ∧ Blk wr g 4 ((List.range N).map fun j => Value.bool (d j)).toArray ∧ (b < N → d b = false) ∧ srO N W lost f b d s = V)) (fun sv _ _ => 400 - slLenIn sv)
    case atStart => exact ⟨301, 0, 0, 0, _, [], fun _ => false, rfl, rfl, by omega, Nat.zero_le _, by omega, hid ⟨OwnV.alloc (ownV_blk (vs := []) (Blk.new _ _ _) (Nat.le_refl _) (by simp; omega) rfl (by simp)) _, ((Below.refl _ _).alloc (Nat.le_refl _) _).alloc (by simp) _, fun a ha => by injection ha with ha; subst ha; show w.heap.size ≠ g; omega, HD0.out, fun _ => rfl, HVV.out.symm⟩⟩
    case round =>
      obtain ⟨f, b, l1, c1, A1, s, d, rfl, rfl, hl1, hbn, hfl, HX⟩ := hrel
      have hls : Hid (s.length = l1) := hid (OwnI.len HX.out.1)
      by_cases hb : b < N
      · by_cases h300 : 300 ≤ l1
        · have hN : Hid (V = none) := hid (by
            have h1 := HX.out.2.2.2.2.2
            cases f with
            | zero => rw [srO, if_pos hb] at h1; exact h1.symm
            | succ f => rw [srO, if_pos hb, if_pos (by rw [hls.out]; exact h300)] at h1; exact h1.symm)
          go_wp2
          go_ret2
          rw [HV.out, hN.out]
          exact retIB_lit0 _ _ HX.out.2.1
        · obtain ⟨f, rfl⟩ : ∃ f', f = f' + 1 := ⟨f - 1, by omega⟩
          obtain ⟨M, HM⟩ : ∃ M, Hid (M = min (b + W) N - b) := ⟨_, hid rfl⟩
          obtain ⟨R, HR⟩ : ∃ R, Hid (R = srR lost M b d s) := ⟨_, hid rfl⟩
          have HG1 : Hid (srO N W lost f (firstN N R.1 N b) R.1 R.2 = V) := hid (by
            have h1 := HX.out.2.2.2.2.2
            rw [srO, if_pos hb, if_neg (by rw [hls.out]; exact h300), ← HM.out, ← HR.out] at h1
            exact h1)
          have hM : b + M = min (b + W) N := by rw [HM.out]; omega
          have hM1 : b + M ≤ N := by omega
          have hM8 : M ≤ W := by omega
          have hM0 : 1 ≤ M := by omega
          have HM2 := hid hM
          have hRl := srR_first lost M b d s (HX.out.2.2.2.2.1 hb) (by omega) (by omega)
          rw [← HR.out, hls.out] at hRl
          have HRl := hid hRl
          have HX1 := hid (And.intro HX.out.1 (And.intro HX.out.2.1 (And.intro HX.out.2.2.1 HX.out.2.2.2.1)))
          clear hM hRl HX
          go_wp2
          go_loopw [8, 11] (fun sv kv wr => ∃ (j l3 c3 : Nat) (A3 : Option Addr) (d3 : Nat → Bool) (s3 : List Int), j ≤ M ∧ kv = .int .i64 ((b : Int) + (j : Int)) ∧ sv = .slice A3 l3 c3 ∧ l3 ≤ l1 + j ∧
              Hid (OwnI wr 3 w.heap.size wr.heap.size A3 l3 c3 s3 ∧ Below w.heap.size w wr ∧ (∀ a, A3 = some a → a.block ≠ g) ∧ Blk wr g 4 ((List.range N).map fun j => Value.bool (d3 j)).toArray ∧ srR lost (M - j) (b + j) d3 s3 = R)) (fun _ kv _ => 100 - (intOf kv).toNat)
          case atStart => exact ⟨0, l1, c1, A1, d, s, Nat.zero_le _, by simp, rfl, Nat.le_refl _, hid ⟨HX1.out.1, HX1.out.2.1, HX1.out.2.2.1, HX1.out.2.2.2, HR.out.symm⟩⟩
          case round =>
            obtain ⟨j, l3, c3, A3, d3, s3, hj, rfl, rfl, hl3, HX3⟩ := hrel
            by_cases hjM : j < M
            · have hmin : (if (b : Int) + (W : Int) < (N : Int) then (b : Int) + (W : Int) else (N : Int)) = (b : Int) + (M : Int) := by have := HM2.out; split <;> omega
              have hs3l : s3.length = l3 := OwnI.len HX3.out.1
              have hlo := lostAt_spec A l c B lost s3.length wr (RV.below HH.out (HX3.out.2.1.mono hB)) (by omega)
              have hg := HX3.out.2.2.2.2
              obtain ⟨m, hm⟩ : ∃ m, M - j = m + 1 := ⟨M - j - 1, by omega⟩
              have hm2 : M - (j + 1) = m := by omega
              rw [hm, srR] at hg
              rw [hs3l] at hlo hg
              have hcell : wr.cell? ⟨g, b + j, none⟩ = some (.bool (d3 (b + j))) := (HX3.out.2.2.2.1.cell _).trans (rangeCell _ _ _ (by omega))
              have hfr := HX3.out.2.2.2.1.frozen (b + j)
              have hbj : ((b : Int) + (j : Int)).toNat = b + j := by omega
              have hbj0 : (0 : Int) ≤ (b : Int) + (j : Int) := by omega
              have hbj1 : (b : Int) + (j : Int) < (N : Int) := by omega
              have H4 := hid (And.intro HX3.out.1 (And.intro HX3.out.2.1 (And.intro HX3.out.2.2.1 HX3.out.2.2.2.1)))
              clear HX3 hs3l
              cases hv : d3 (b + j)
              · rw [hv] at hcell hg
                rw [if_neg Bool.false_ne_true] at hg
                have H5 : Hid (srR lost (M - (j + 1)) (b + (j + 1)) (updB d3 (b + j) (!lostB lost l3)) (s3 ++ [((b + j : Nat) : Int)]) = R) := hid (by rw [hm2]; exact hg)
                have HLO := hid hlo
                obtain ⟨u, hu⟩ : ∃ u, u = lostB lost l3 := ⟨_, rfl⟩
                have HU := hid hu
                rw [← hu] at HLO
                have hgl := H4.out.2.2.2.lt
                have hb5 := Blk.set_ H4.out.2.2.2 (b + j) (.bool (!u))
                have ho5 := OwnV.far (p := ⟨g, b + j, none⟩) H4.out.1 H4.out.2.2.1 (.bool (!u))
                have hZ : wr.heap.size = (wr.setCell ⟨g, b + j, none⟩ (.bool (!u))).heap.size := by simp [World.setCell]
                have hw4 : w.heap.size ≤ wr.heap.size := H4.out.2.1.size
                have hw5 : w.heap.size ≤ (wr.setCell ⟨g, b + j, none⟩ (.bool (!u))).heap.size := by rw [← hZ]; exact hw4
                have ho6 : OwnI (wr.setCell ⟨g, b + j, none⟩ (.bool (!u))) 3 w.heap.size (wr.setCell ⟨g, b + j, none⟩ (.bool (!u))).heap.size A3 l3 c3 s3 := by rw [← hZ]; exact ho5
                have hus := OwnV.own ho6
                have hgl5 : g < (wr.setCell ⟨g, b + j, none⟩ (.bool (!u))).heap.size := by rw [← hZ]; exact hgl
                have hbl5 := H4.out.2.1.setCell (p := ⟨g, b + j, none⟩) (Nat.le_of_lt hgw) (.bool (!u))
                have H6 := hid (And.intro ho6 (And.intro hb5 hbl5))
                have HGL := hid hgl5
                have HZ := hid hZ
                clear hlo hg hm hm2 hv hu hb5 ho5 ho6 hbl5 hgl5 hZ
                go_wp2_with fail
                refine HLO.out.mono ?_
                rintro e w1 ⟨rfl, rfl⟩
                go_wp2_with (at_builtin; refine wpList_pushZ rfl _ _ _ rfl w.heap.size 3 i0 _ 8 Try.underlying23 hi0 hz0 hz1 hz2 rfl (by omega) _ _ A3 l3 c3 _ rfl hus wr.heap.size HZ.out rfl rfl (by omega) hw5 ?_; intro g_ cap_ w6 hown6 hgrow6 hlies6 hlt6)
                have hblk := own_blkneIn H6.out.1
                have hng : ∀ k, Value.ownBlock (.slice A3 l3 c3) = some k → k ≠ g := fun k hk => by
                  obtain ⟨h1, h2, a, ha, hb⟩ := hblk k hk
                  exact fun e => H4.out.2.2.1 a ha (by omega)
                have hg6 : w6.heap[g]? = (wr.setCell ⟨g, b + j, none⟩ (.bool (!u))).heap[g]? := hgrow6.block g HGL.out (fun e => hng g e.symm rfl)
                have H8 : Hid (OwnI w6 3 w.heap.size w6.heap.size (some ⟨g_, 0, none⟩) (l3 + 1) cap_ (s3 ++ [((b + j : Nat) : Int)]) ∧ Below w.heap.size w w6 ∧ (∀ a, (some ⟨g_, 0, none⟩ : Option Addr) = some a → a.block ≠ g) ∧ Blk w6 g 4 ((List.range N).map fun i => Value.bool (updB d3 (b + j) (!u) i)).toArray) := hid (by
                  refine ⟨?_, below_push H6.out.2.2 hus (Nat.le_refl _) hw5 hgrow6, ?_, ?_⟩
                  · unfold OwnI; rw [List.map_append]; exact ownPushIn hw5 H6.out.1 hown6
                  · intro a ha
                    injection ha with ha
                    subst ha
                    rcases hlies6 with h | h
                    · exact hng g_ h
                    · have := HZ.out; show g_ ≠ g; omega
                  · rw [updArr]
                    exact hg6.trans H6.out.2.1)
                clear hown6 hgrow6 hlies6 hlt6 hus hblk hng hg6
                go_roundw
                case rel => exact ⟨j + 1, l3 + 1, cap_, _, updB d3 (b + j) (!u), s3 ++ [((b + j : Nat) : Int)], by omega, by go_num, rfl, by omega, hid ⟨H8.out.1, H8.out.2.1, H8.out.2.2.1, H8.out.2.2.2, by rw [HU.out]; exact H5.out⟩⟩
                case measure => simp [intOf]; omega
              · rw [hv] at hcell hg
                rw [if_pos rfl] at hg
                have H5 : Hid (srR lost (M - (j + 1)) (b + (j + 1)) d3 s3 = R) := hid (by rw [hm2]; exact hg)
                clear hlo hg hm hm2 hv
                go_wp2
                go_roundw
                case rel => exact ⟨j + 1, l3, c3, A3, d3, s3, by omega, by go_num, rfl, by omega, hid ⟨H4.out.1, H4.out.2.1, H4.out.2.2.1, H4.out.2.2.2, H5.out⟩⟩
                case measure => simp [intOf]; omega
            · have hjM' : j = M := by omega
              subst hjM'
              have hmin : (if (b : Int) + (W : Int) < (N : Int) then (b : Int) + (W : Int) else (N : Int)) = (b : Int) + (j : Int) := by have := HM2.out; split <;> omega
              have hR : R = (d3, s3) := by have := HX3.out.2.2.2.2; rw [Nat.sub_self, srR] at this; exact this.symm
              have hl31 : l1 < l3 := by have := HRl.out; rw [hR] at this; have h2 := OwnI.len HX3.out.1; simp only at this; omega
              obtain ⟨q, HQ⟩ : ∃ q, Hid (q = firstN N d3 N b) := ⟨_, hid rfl⟩
              obtain ⟨q1, q2, q3, q4⟩ := firstN_mid N d3 N b hbn (by omega)
              rw [← HQ.out] at q1 q2 q3 q4
              have HQ3 := hid q3; have HQ4 := hid q4
              have HB5 := hid HX3.out.2.2.2.1
              have H7 : Hid (OwnI wr 3 w.heap.size wr.heap.size A3 l3 c3 s3 ∧ Below w.heap.size w wr ∧ (∀ a, A3 = some a → a.block ≠ g) ∧ Blk wr g 4 ((List.range N).map fun j => Value.bool (d3 j)).toArray ∧ (q < N → d3 q = false) ∧ srO N W lost f q d3 s3 = V) := hid ⟨HX3.out.1, HX3.out.2.1, HX3.out.2.2.1, HX3.out.2.2.2.1, q4, by have := HG1.out; rw [hR] at this; rw [HQ.out]; exact this⟩
              clear hR HX3 q3 q4 HQ
              go_wp2
              obtain ⟨wo, rfl⟩ : ∃ wo : World, wo = wr := ⟨_, rfl⟩
              go_loop [10] (fun bv => ∃ b2 : Nat, b ≤ b2 ∧ b2 ≤ q ∧ bv = .int .i64 b2) (fun bv => N - (intOf bv).toNat)
              case atStart => exact ⟨b, Nat.le_refl _, q1, rfl⟩
              case round =>
                obtain ⟨b2, hb1, hb2, rfl⟩ := hrel
                by_cases hbq : b2 < q
                · have hb3 : b2 < N := by omega
                  have hcell : wo.cell? ⟨g, b2, none⟩ = some (.bool true) := ((HB5.out.cell _).trans (rangeCell _ _ _ hb3)).trans (by rw [HQ3.out b2 hb1 hbq])
                  have hb0 : (0 : Int) ≤ (b2 : Int) := by omega
                  go_wp2
                  go_round
                  case rel => exact ⟨b2 + 1, by omega, by omega, by go_num⟩
                  case measure => simp [intOf]; omega
                · have hbq' : b2 = q := by omega
                  subst hbq'
                  clear hbq hb2
                  by_cases hb3 : b2 < N
                  · have hcell : wo.cell? ⟨g, b2, none⟩ = some (.bool false) := ((HB5.out.cell _).trans (rangeCell _ _ _ hb3)).trans (by rw [HQ4.out hb3])
                    have hb0 : (0 : Int) ≤ (b2 : Int) := by omega
                    go_wp2
                    go_roundw
                    case rel => exact ⟨f, b2, l3, c3, A3, s3, d3, rfl, rfl, by omega, by omega, by omega, H7⟩
                    case measure => simp [slLenIn]; omega
                  · go_wp2
                    go_roundw
                    case rel => exact ⟨f, b2, l3, c3, A3, s3, d3, rfl, rfl, by omega, by omega, by omega, H7⟩
                    case measure => simp [slLenIn]; omega
      · have hN : Hid (V = some s) := hid (by
          have h1 := HX.out.2.2.2.2.2
          cases f with
          | zero => rw [srO, if_neg hb] at h1; exact h1.symm
          | succ f => rw [srO, if_neg hb] at h1; exact h1.symm)
        go_wp2
        go_ret2
        rw [HV.out, hN.out]
        exact ⟨_, _, _, rfl, HX.out.1, HX.out.2.1⟩
  · have HV := hid (selRep_no lost hv)
    by_cases h0 : 0 ≤ n ∧ n ≤ 30
    · have h1 : win < 1 ∨ 8 < win := by
        by_cases h2 : 1 ≤ win
        · by_cases h3 : win ≤ 8
          · exact absurd ⟨h0.1, h0.2, h2, h3⟩ hv
          · omega
        · omega
      have hs1 := hid (fun W => l1In_yes n 0 30 W h0.1 h0.2)
      have hs2 := hid (fun W => l1In_no win 1 8 W h1)
      clear hv h0 h1
      go_enter Try.func24, Try.ntmps24
      go_wp2_with fail
      refine (hs1.out _).mono ?_
      rintro e w1 ⟨rfl, rfl⟩
      go_wp2_with fail
      refine (hs2.out _).mono ?_
      rintro e w1 ⟨rfl, rfl⟩
      go_wp2
      go_ret2
      rw [HV.out]
      exact retIB_lit00 w
    · have hs1 := hid (fun W => l1In_no n 0 30 W (by omega))
      clear hv h0
      go_enter Try.func24, Try.ntmps24
      go_wp2_with fail
      refine (hs1.out _).mono ?_
      rintro e w1 ⟨rfl, rfl⟩
      go_wp2
      go_ret2
      rw [HV.out]
      exact retIB_lit00 w
end Go.Proofs.Ytnnapbjaidbkgaa
