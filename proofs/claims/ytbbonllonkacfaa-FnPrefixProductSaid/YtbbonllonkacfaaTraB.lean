/-
  The butterflies, walked.
-/
import Derived.Test.YtbbonllonkacfaaTraA
import Derived.RegionTactic
import Derived.ChangeAlike
namespace Go.Proofs.Ytbbonllonkacfaa
open Go.RowKit
set_option linter.unusedVariables false

theorem own_far {w w' : World} {base n : Nat} {t : TypeId} {v : Value} {xs : List Value} {row : Option Nat} (h : w.ownsRow base t 1 v n xs) (hg : w.grownBy w' row) (hne : ∀ k, v.ownBlock = some k → row ≠ some k) : w'.ownsRow base t 1 v n xs := by
  have hb : ∀ g, v.ownBlock = some g → w'.heap[g]? = w.heap[g]? := fun g hv => hg.block g (h.lt g hv).2 (fun e => hne g hv e.symm)
  obtain ⟨h1, h2⟩ := h
  refine ⟨h1, ?_⟩
  rcases h2 with h2 | ⟨g, cap, cur, rfl, hb', hgg, rest⟩
  · exact .inl h2
  · exact .inr ⟨g, cap, cur, rfl, hb', (hb g rfl).trans hgg, rest⟩

/-- What stands in the result after k rounds. -/
def stg (e o : List Int) (w : Int) (h k i : Nat) : Int := if i < k then lowE e o w i else if h ≤ i ∧ i < h + k then highE e o w (i - h) else 0
def stgL (e o : List Int) (w : Int) (h k : Nat) : List Int := (List.range (2 * h)).map (stg e o w h k)
theorem stgL_zero (e o : List Int) (w : Int) (h : Nat) : stgL e o w h 0 = List.replicate (2 * h) 0 := by
  apply List.ext_getElem
  · simp [stgL]
  · intro i h1 h2
    simp only [stgL, List.getElem_map, List.getElem_range, List.getElem_replicate, stg]
    rw [if_neg (by omega), if_neg (by omega)]
theorem stgL_succ (e o : List Int) (w : Int) (h k : Nat) (hk : k < h) : ((stgL e o w h k).set k (lowE e o w k)).set (k + h) (highE e o w k) = stgL e o w h (k + 1) := by
  apply List.ext_getElem
  · simp [stgL]
  · intro i h1 h2
    simp only [stgL, List.length_map, List.length_range] at h2
    rw [List.getElem_set, List.getElem_set]
    simp only [stgL, List.getElem_map, List.getElem_range, stg]
    (repeat' split) <;> (first | rfl | (exfalso; omega) | (congr 1 <;> omega))
theorem stgL_last (d : Nat) (xs : List Int) (w : Int) : stgL (bf d (evens xs) (w * w % 257)) (bf d (odds xs) (w * w % 257)) w (2 ^ d) (2 ^ d) = bf (d + 1) xs w := by
  apply List.ext_getElem
  · rw [bf_len, stgL, List.length_map, List.length_range, Nat.pow_succ]; omega
  · intro i h1 h2
    have hp : 2 ^ (d + 1) = 2 * 2 ^ d := by rw [Nat.pow_succ]; omega
    rw [bf_len] at h2
    have h3 := bf_get d xs w i h2
    rw [List.getD_eq_getElem?_getD, List.getElem?_eq_getElem (by rw [bf_len]; exact h2), Option.getD_some] at h3
    rw [h3]
    simp only [stgL, List.getElem_map, List.getElem_range, stg]
    by_cases c : i < 2 ^ d
    · rw [if_pos c, if_pos c]
    · rw [if_neg c, if_neg c, if_pos (by omega)]
/-- The first k of the places of even number, of odd number. -/
theorem evens_take : ∀ (xs : List Int) (k : Nat) (x y : Int), xs[2 * k]? = some x → xs[2 * k + 1]? = some y → (evens xs).take (k + 1) = (evens xs).take k ++ [x] ∧ (odds xs).take (k + 1) = (odds xs).take k ++ [y]
  | [], k, x, y, h, _ => by simp at h
  | [a], k, x, y, _, h => by simp at h
  | a :: b :: t, 0, x, y, h, h' => by
    simp at h h'
    subst h h'
    simp [evens, odds]
  | a :: b :: t, k + 1, x, y, h, h' => by
    rw [show 2 * (k + 1) = 2 * k + 1 + 1 by omega] at h h'
    simp only [List.getElem?_cons_succ] at h h'
    obtain ⟨e1, e2⟩ := evens_take t k x y h h'
    simp only [evens, odds, List.take_succ_cons, e1, e2, List.cons_append]
    trivial

set_option maxRecDepth 100000 in
set_option maxHeartbeats 4000000 in
theorem bf_impl : ∀ (d : Nat), d ≤ 4 → ∀ (A : Option Addr) (n c B : Nat) (xs : List Int) (v : Int) (w : World), n = 2 ^ d → RI w B A n xs → B ≤ w.heap.size → In257 xs → 0 ≤ v → v < 257 →
    Calls Try.prog 24 #[.slice A n c, .int .i64 v] w fun e w' => RetI 3 w e w' (bf d xs v) := by
  intro d
  induction d with
  | zero =>
    intro _ A n c B xs v w hn h hB hx v0 v1
    have hn1 : n = 1 := by simpa using hn
    subst hn1
    obtain ⟨b, o, x, rfl, hb, hx0, hc⟩ := RI.at_ h (k := 0) (by omega)
    have hc0 : w.cell? ⟨b, o, none⟩ = some (.int .i64 x) := by simpa using hc
    have hg : xs.getD 0 0 = x := by rw [List.getD_eq_getElem?_getD, hx0]; rfl
    have HG := hid hg
    clear hc hx0 hn hg hx
    go_enter Try.func24, Try.ntmps24
    go_wp2
    go_ret
    rw [bf, HG.out]
    exact ⟨_, 1, 1, rfl, ownV_blk (vs := [.int .i64 x]) (Blk.new _ _ _) (Nat.le_refl _) (by simp) (by simp) (by unfold maxLen; omega), (Below.refl _ _).alloc (Nat.le_refl _) _⟩
  | succ d ih =>
    intro hd A n c B xs v w hn h hB hx v0 v1
    obtain ⟨i0, hi0, hz0, hz1, hz2⟩ := info_parts infoI
    obtain ⟨hh, HH⟩ : ∃ hh, Hid (hh = 2 ^ d) := ⟨_, hid rfl⟩
    have hn2 : n = 2 * hh := by rw [hn, HH.out, Nat.pow_succ]; omega
    subst hn2
    have hpos : 0 < hh := by rw [HH.out]; exact Nat.pow_pos (by omega)
    have hle : hh ≤ 8 := by
      rw [HH.out]
      have : 2 ^ d ≤ 2 ^ 3 := Nat.pow_le_pow_right (by omega) (by omega)
      simpa using this
    have HL := hid (RI.len h)
    obtain ⟨l1, l2⟩ := evens_len hh xs HL.out
    have HL1 := hid l1; have HL2 := hid l2
    obtain ⟨hx1, hx2⟩ := in257_split xs hx
    obtain ⟨vv, HVV⟩ : ∃ vv, Hid (vv = v * v % 257) := ⟨_, hid rfl⟩
    obtain ⟨m0, m1⟩ := mul_bd257 v0 v1 v0 v1
    have hvv : v * v % 257 = vv := HVV.out.symm
    have hvb : 0 ≤ vv ∧ vv < 257 := by rw [HVV.out]; exact ⟨Int.emod_nonneg _ (by omega), Int.emod_lt_of_pos _ (by omega)⟩
    have IH := hid (ih (by omega))
    have H1 := hid hx1; have H2 := hid hx2; have HX := hid hx
    have hmk : ∀ w, (Instr.makeSlice 23 (.int .i64 0) (.int .i64 (hh : Int))).run Try.prog w = .ok (.slice (some ⟨w.heap.size, 0, none⟩) 0 hh) (w.alloc (.cells (madeCells #[.int .i64 0] hh) 3)) :=
      run_make0 (P := Try.prog) 23 3 (.int .i64 0) 8 Try.underlying23 infoI rfl .i64 .i64 hh (by omega) (by omega)
    have hmk2 : ∀ w, (Instr.makeSlice 23 (.int .i64 (2 * (hh : Int))) (.int .i64 (2 * (hh : Int)))).run Try.prog w = .ok (.slice (some ⟨w.heap.size, 0, none⟩) (2 * hh) (2 * hh)) (w.alloc (.cells (madeCells #[.int .i64 0] (2 * hh)) 3)) := fun w => by
      have := run_make_row' (P := Try.prog) 23 3 (.int .i64 0) 8 Try.underlying23 infoI rfl .i64 .i64 (2 * hh) (by omega) (by omega) w
      rwa [show (((2 * hh : Nat)) : Int) = 2 * (hh : Int) by omega] at this
    have HMK2 := hid hmk2
    have hdiv : (2 * (hh : Int)) / 2 = (hh : Int) := by omega
    have hne : (2 * (hh : Int) == 1) = false := by simp; omega
    have HVV2 := hid hvv
    clear hn l1 l2 hx1 hx2 hx ih hmk2 hvv
    go_enter Try.func24, Try.ntmps24
    have hsz1 : (w.drew.alloc (.cells (madeCells #[.int .i64 0] hh) 3)).heap.size = w.heap.size + 1 := by simp
    have hO1 : ((w.drew.alloc (.cells (madeCells #[.int .i64 0] hh) 3)).alloc (.cells (madeCells #[.int .i64 0] hh) 3)).ownsRow w.heap.size 3 1 (.slice (some ⟨w.heap.size, 0, none⟩) 0 hh) 0 [] := (own_made0 (w := w.drew) 3 (.int .i64 0) hh (Nat.le_refl _) (by unfold maxLen; omega)).alloc _
    have hO2 : ((w.drew.alloc (.cells (madeCells #[.int .i64 0] hh) 3)).alloc (.cells (madeCells #[.int .i64 0] hh) 3)).ownsRow w.heap.size 3 1 (.slice (some ⟨w.heap.size + 1, 0, none⟩) 0 hh) 0 [] := by
      have := own_made0 (w := w.drew.alloc (.cells (madeCells #[.int .i64 0] hh) 3)) 3 (.int .i64 0) hh (base := w.heap.size) (by rw [hsz1]; exact Nat.le_succ _) (by unfold maxLen; omega)
      rwa [hsz1] at this
    have hbw : Below w.heap.size w ((w.drew.alloc (.cells (madeCells #[.int .i64 0] hh) 3)).alloc (.cells (madeCells #[.int .i64 0] hh) 3)) := (((Below.refl _ _).drew).alloc (Nat.le_refl _) _).alloc (by rw [hsz1]; exact Nat.le_succ _) _
    have HO := hid (And.intro hO1 (And.intro hO2 hbw))
    clear hsz1 hO1 hO2 hbw
    go_wp2
    go_region
    all_goals
      go_wp2
      go_loopw [6, 7, 8] (fun ev_ ov iv wr => ∃ (k be bo ce co : Nat), k ≤ hh ∧ iv = .int .i64 (2 * (k : Int)) ∧ ev_ = .slice (some ⟨be, 0, none⟩) k ce ∧ ov = .slice (some ⟨bo, 0, none⟩) k co ∧ be ≠ bo ∧ wr.ownsRow w.heap.size 3 1 (.slice (some ⟨be, 0, none⟩) k ce) k (((evens xs).take k).map (Value.int .i64)) ∧ wr.ownsRow w.heap.size 3 1 (.slice (some ⟨bo, 0, none⟩) k co) k (((odds xs).take k).map (Value.int .i64)) ∧ Below w.heap.size w wr)
        (fun _ _ iv _ => 2 * hh - (intOf iv).toNat)
      case atStart =>
        first
          | exact ⟨0, w.heap.size, w.heap.size + 1, hh, hh, Nat.zero_le _, rfl, rfl, rfl, by omega, HO.out.1, HO.out.2.1, HO.out.2.2⟩
          | exact ⟨0, w.heap.size + 1, w.heap.size, hh, hh, Nat.zero_le _, rfl, rfl, rfl, by omega, HO.out.2.1, HO.out.1, HO.out.2.2⟩
      case round =>
        obtain ⟨k, be, bo, ce, co, hk, rfl, rfl, rfl, hbe, hoE, hoO, hbel⟩ := hrel
        have hsz := hbel.size
        by_cases hlt : k < hh
        · have hr := RV.below h (hbel.mono hB)
          obtain ⟨b, o, x, rfl, hb, hx, hcx⟩ := RI.at_ hr (k := 2 * k) (by omega)
          obtain ⟨b', o', y, hbo', hb', hy, hcy⟩ := RI.at_ hr (k := 2 * k + 1) (by omega)
          injection hbo' with hbo'
          injection hbo' with hbb hoo
          subst hbb hoo
          obtain ⟨t1, t2⟩ := evens_take xs k x y hx hy
          have HT := hid (And.intro t1 t2)
          have HOO := hid (And.intro hoE hoO)
          clear hx hy t1 t2 hr hb'
          have hti : (2 * (k : Int)).toNat = 2 * k := by omega
          have hti2 : (2 * (k : Int) + 1).toNat = 2 * k + 1 := by omega
          have hi1 : 2 * (k : Int) < 2 * (hh : Int) := by omega
          have hi2 : 2 * (k : Int) + 1 < 2 * (hh : Int) := by omega
          have hi00 : (0 : Int) ≤ 2 * (k : Int) := by omega
          have hbe0 : w.heap.size ≤ be := (hoE.lt be rfl).1
          have hbo0 : bo < wr.heap.size := (hoO.lt bo rfl).2
          have hF : ∀ w1, wr.grownBy w1 (Value.ownBlock (.slice (some ⟨be, 0, none⟩) k ce)) → w1.cell? ⟨b, o + (2 * k + 1), none⟩ = some (.int .i64 y) := fun w1 hg => (World.cell?_of_block (hg.block b (by omega) (by simp [Value.ownBlock]; omega))).trans hcy
          have HF := hid hF
          clear hoE hoO hF hcy
          have hP : ∀ (g1 cap1 : Nat) (w1 : World), w1.ownsRow w.heap.size 3 1 (.slice (some ⟨g1, 0, none⟩) (k + 1) cap1) (k + 1) (((evens xs).take k).map (Value.int .i64) ++ [.int .i64 x]) → wr.grownBy w1 (Value.ownBlock (.slice (some ⟨be, 0, none⟩) k ce)) → (Value.ownBlock (.slice (some ⟨be, 0, none⟩) k ce) = some g1 ∨ wr.heap.size < g1) →
              w1.ownsRow w.heap.size 3 1 (.slice (some ⟨g1, 0, none⟩) (k + 1) cap1) (k + 1) (((evens xs).take k).map (Value.int .i64) ++ [.int .i64 x]) ∧ w1.ownsRow w.heap.size 3 1 (.slice (some ⟨bo, 0, none⟩) k co) k (((odds xs).take k).map (Value.int .i64)) ∧ Below w.heap.size w w1 ∧ g1 ≠ bo ∧ w.heap.size ≤ w1.heap.size := fun g1 cap1 w1 hown1 hgrow1 hlies1 => by
            have hbel1 := below_push hbel HOO.out.1 (Nat.le_refl _) (by omega) hgrow1
            refine ⟨hown1, own_far HOO.out.2 hgrow1 (fun k' hk' he => by simp [Value.ownBlock] at hk' he; omega), hbel1, ?_, hbel1.size⟩
            rcases hlies1 with e | e
            · simp [Value.ownBlock] at e; omega
            · omega
          have HP := hid hP
          clear hP
          go_wp2_with (first | (at_builtin; refine wpList_push rfl _ _ _ rfl w.heap.size 3 i0 _ 8 Try.underlying23 hi0 hz0 hz1 hz2 rfl (by omega) _ _ (some ⟨be, 0, none⟩) k ce _ rfl HOO.out.1 rfl rfl (by omega) (by omega) ?_; intro g1 cap1 w1 hown1 hgrow1 hlies1 hlt1; have hcy1 := HF.out w1 hgrow1; have H1' := hid (HP.out g1 cap1 w1 hown1 hgrow1 hlies1); have hz1' := H1'.out.2.2.2.2; clear hown1 hgrow1 hlies1 hlt1) | (at_builtin; refine wpList_push rfl _ _ _ rfl w.heap.size 3 i0 _ 8 Try.underlying23 hi0 hz0 hz1 hz2 rfl (by omega) _ _ (some ⟨bo, 0, none⟩) k co _ rfl H1'.out.2.1 rfl rfl (by omega) (by omega) ?_; intro g2 cap2 w2 hown2 hgrow2 hlies2 hlt2))
          have hg1 := H1'.out.2.2.2.1
          have hbel2 := below_push H1'.out.2.2.1 H1'.out.2.1 (Nat.le_refl _) (by omega) hgrow2
          have hoE2 := own_far H1'.out.1 hgrow2 (fun k' hk' he => by simp [Value.ownBlock] at hk' he; omega)
          have hg2 : g1 ≠ g2 := by
            rcases hlies2 with e | e
            · simp [Value.ownBlock] at e; omega
            · have := (H1'.out.1.lt g1 rfl).2; omega
          go_roundw
          case rel => exact ⟨k + 1, g1, g2, cap1, cap2, by omega, congrArg (Value.int .i64) (by omega), rfl, rfl, hg2, by rw [HT.out.1, List.map_append]; exact hoE2, by rw [HT.out.2, List.map_append]; exact hown2, hbel2⟩
          case measure => simp [intOf]; omega
        · have e : k = hh := by omega
          subst e
          clear hlt
          rw [List.take_of_length_le (by rw [HL1.out]; exact Nat.le_refl _)] at hoE
          rw [List.take_of_length_le (by rw [HL2.out]; exact Nat.le_refl _)] at hoO
          have rE : RI wr wr.heap.size (some ⟨be, 0, none⟩) k (evens xs) := by obtain ⟨A', c', hv, ho⟩ := ownV_of hoE; injection hv with q1 _ q2; subst q1 q2; exact OwnV.rv ho
          have rO : RI wr wr.heap.size (some ⟨bo, 0, none⟩) k (odds xs) := by obtain ⟨A', c', hv, ho⟩ := ownV_of hoO; injection hv with q1 _ q2; subst q1 q2; exact OwnV.rv ho
          clear hoE hoO h
          have hvv := HVV2.out
          go_wp2_with fail
          refine (IH.out _ k ce _ (evens xs) vv wr HH.out rE (Nat.le_refl _) H1.out hvb.1 hvb.2).mono ?_
          rintro e w1 ⟨A1, n1, c1, rfl, o1, hb1⟩
          have hn1 : n1 = k := by rw [← OwnI.len o1, bf_len, HH.out]
          subst hn1
          have rE1 := OwnI.ri o1
          have rO1 := RV.next rO hb1
          have hbel1 := Below.next hbel hb1
          clear o1 hb1 rE rO hbel
          go_wp2_with fail
          refine (IH.out _ n1 co _ (odds xs) vv w1 HH.out rO1 (Nat.le_refl _) H2.out hvb.1 hvb.2).mono ?_
          rintro e w2 ⟨A2, n2, c2, rfl, o2, hb2⟩
          have hn2 : n2 = n1 := by rw [← OwnI.len o2, bf_len, HH.out]
          subst hn2
          have rO2 := OwnI.ri o2
          have rE2 := RV.next rE1 hb2
          have hbel2 := Below.next hbel1 hb2
          clear o2 hb2 rE1 rO1 hbel1 hvv
          have hE := bf_in d (evens xs) vv H1.out
          have hO := bf_in d (odds xs) vv H2.out
          have HEI := hid hE; have HOI := hid hO
          have hlast := stgL_last d xs v
          rw [← HVV.out, ← HH.out] at hlast
          have HLAST := hid hlast
          obtain ⟨E, hEe⟩ : ∃ E, E = bf d (evens xs) vv := ⟨_, rfl⟩
          obtain ⟨O, hOe⟩ : ∃ O, O = bf d (odds xs) vv := ⟨_, rfl⟩
          rw [← hEe, ← hOe] at HLAST
          rw [← hEe] at HEI rE2
          rw [← hOe] at HOI rO2
          clear hE hO hlast hEe hOe
          have hmk2 := HMK2.out
          have hsz2 := hbel2.size
          go_wp2
          go_loopw [10, 63] (fun tv kv wr => ∃ (j : Nat) (T : Int), j ≤ n2 ∧ kv = .int .i64 j ∧ tv = .int .i64 T ∧ 0 ≤ T ∧ T < 257 ∧ Hid (T = pw v j) ∧ Blk wr w2.heap.size 3 ((stgL E O v n2 j).map (Value.int .i64)).toArray ∧ Below w2.heap.size w2 wr)
            (fun _ kv _ => n2 - (intOf kv).toNat)
          case atStart => exact ⟨0, 1, Nat.zero_le _, rfl, rfl, by omega, by omega, hid rfl, by rw [stgL_zero]; exact blk_made _ _ _ (0 : Int) rfl, (Below.refl _ _).alloc (Nat.le_refl _) _⟩
          case round =>
            obtain ⟨j, T, hj, rfl, rfl, T0, T1, HTT, hblk, hbr⟩ := hrel
            by_cases hlj : j < n2
            · obtain ⟨pe, qe, xe, rfl, hpe, hxe, hce⟩ := RI.at_ (RV.below rE2 hbr) hlj
              obtain ⟨po, qo, xo, rfl, hpo, hxo, hco⟩ := RI.at_ (RV.below rO2 hbr) hlj
              obtain ⟨xe0, xe1⟩ := in257_get HEI.out hxe
              obtain ⟨xo0, xo1⟩ := in257_get HOI.out hxo
              obtain ⟨m2, m3⟩ := mul_bd257 xo0 xo1 T0 T1
              obtain ⟨m4, m5⟩ := mul_bd257 T0 T1 v0 v1
              have hlow : lowE E O v j = (xe + xo * T % 257) % 257 := by
                rw [lowE, List.getD_eq_getElem?_getD, List.getD_eq_getElem?_getD, hxe, hxo, ← HTT.out]; rfl
              have hhigh : highE E O v j = (xe - xo * T % 257) % 257 := by
                rw [highE, List.getD_eq_getElem?_getD, List.getD_eq_getElem?_getD, hxe, hxo, ← HTT.out]; rfl
              have hst := stgL_succ E O v n2 j hlj
              rw [hlow, hhigh] at hst
              have HST := hid hst
              have HTN : Hid (T * v % 257 = pw v (j + 1)) := hid (by rw [pw, HTT.out])
              have hll : (stgL E O v n2 j).length = 2 * n2 := by simp [stgL]
              obtain ⟨y1, _, hcy1⟩ := hblk.cellL (k := j) (by rw [hll]; omega)
              have hfr1 := hblk.frozen j
              obtain ⟨t, ht⟩ : ∃ t, t = xo * T % 257 := ⟨_, rfl⟩
              have ht0 : 0 ≤ t ∧ t < 257 := by rw [ht]; exact ⟨Int.emod_nonneg _ (by omega), Int.emod_lt_of_pos _ (by omega)⟩
              rw [← ht] at HST
              obtain ⟨t0, t1⟩ := ht0
              have hteq : xo * T % 257 = t := ht.symm
              have hF1 : ∀ u, (wr.setCell ⟨w2.heap.size, j, none⟩ u).cell? ⟨pe, qe + j, none⟩ = some (.int .i64 xe) := fun u => (World.cell?_setCell_other _ _ _ _ (fun e => by injection e; omega)).trans hce
              have hblk1 := hblk.setL j ((xe + t) % 257)
              obtain ⟨y2, _, hcy2⟩ := hblk1.cellL (k := j + n2) (by rw [List.length_set, hll]; omega)
              have hfr2 := hblk1.frozen (j + n2)
              have hblk2 := hblk1.setL (j + n2) ((xe - t) % 257)
              rw [HST.out] at hblk2
              have hbr2 := (hbr.setCell (p := ⟨w2.heap.size, j, none⟩) (Nat.le_refl _) (.int .i64 ((xe + t) % 257))).setCell (p := ⟨w2.heap.size, j + n2, none⟩) (Nat.le_refl _) (.int .i64 ((xe - t) % 257))
              have HB2 := hid (And.intro hblk2 hbr2)
              have htk : ((j : Int) + (n2 : Int)).toNat = j + n2 := by omega
              clear hlow hhigh hst hll hblk hblk1 hblk2 hbr2 ht hxe hxo
              go_wp2
              go_roundw
              case rel => exact ⟨j + 1, T * v % 257, by omega, by go_num, rfl, Int.emod_nonneg _ (by omega), Int.emod_lt_of_pos _ (by omega), HTN, HB2.out.1, HB2.out.2⟩
              case measure => simp [intOf]; omega
            · have e : j = n2 := by omega
              subst e
              clear hlj
              rw [HLAST.out] at hblk
              have hbt := Below.next hbel2 hbr
              have HBT := hid (And.intro hblk hbt)
              clear hblk hbt hbr hbel2
              go_wp2
              go_ret
              have hl : (bf (d + 1) xs v).length = 2 * j := by rw [bf_len, HH.out, Nat.pow_succ]; omega
              exact ⟨_, 2 * j, 2 * j, rfl, ownV_blk HBT.out.1 hsz2 HBT.out.1.lt (by simpa using hl) (by unfold maxLen; omega), HBT.out.2⟩
end Go.Proofs.Ytbbonllonkacfaa
