/-
  The program's GreedySlots, walked: the lowest bit that is not set is the least free slot.
-/
import Derived.Test.YtgccpjhkgkhllaaDoorSloG
import Derived.Test.YtgccpjhkgkhllaaDoorTz
namespace Go.Proofs.YtgccpjhkgkhllaaDoor
open Go.RowKit
set_option linter.unusedVariables false

theorem ctz_of {x t : Nat} (hx : x < 2 ^ 64) (ht : x.testBit t = true) (hu : ∀ v, v < t → x.testBit v = false) : Lib.ctz 64 x = t := by
  have h0 : x ≠ 0 := by intro e; subst e; simp at ht
  unfold Lib.ctz
  rw [if_neg h0]
  obtain ⟨m, hm, _⟩ := Lib.ctzFrom_spec 64 x (by omega) hx
  obtain ⟨c, hc⟩ : ∃ c, Lib.ctzFrom 64 x = c := ⟨_, rfl⟩
  rw [hc] at hm ⊢
  rcases Nat.lt_trichotomy c t with h | h | h
  · have := hu c h
    rw [hm, Nat.testBit_two_pow_mul] at this
    simp at this
  · exact h
  · rw [hm, Nat.testBit_two_pow_mul] at ht
    simp at ht
    omega
theorem ctz_not {U t : Nat} (hU : U < 65536) (ht : t < 64) (h1 : U.testBit t = false) (h2 : ∀ v, v < t → U.testBit v = true) : Lib.ctz 64 (18446744073709551615 - U) = t := by
  have e : 18446744073709551615 - U = 2 ^ 64 - (U + 1) := by omega
  have hb : ∀ i, (18446744073709551615 - U).testBit i = (decide (i < 64) && !U.testBit i) := fun i => by
    rw [e, Nat.testBit_two_pow_sub_succ (by omega)]
  refine ctz_of (by omega) (by rw [hb, h1]; simp [ht]) (fun v hv => by rw [hb, h2 v hv]; simp)
theorem Part.whole {w : World} {p n base : Nat} {ss : List Nat} (h : Part w p n n ss) (hb : base ≤ p) (hn : n ≤ maxLen) : OwnI w 3 base w.heap.size (some ⟨p, 0, none⟩) n n (castL ss) := by
  obtain ⟨cs, h1, h2, h3⟩ := h
  rw [List.take_of_length_le (by simp; omega)] at h3
  have e : cs = ((castL ss).map (Value.int .i64)).toArray := by rw [← h3]
  have hl : ((castL ss).map (Value.int .i64)).length = n := by rw [← h3]; simpa using h2
  rw [e] at h1
  exact ownV_blk h1 hb h1.lt hl hn
theorem lt_of_cell {w : World} {a : Addr} {v : Value} (h : w.cell? a = some v) : a.block < w.heap.size := by
  unfold World.cell? at h
  rcases Nat.lt_or_ge a.block w.heap.size with h' | h'
  · exact h'
  · rw [Array.getElem?_eq_none h'] at h
    cases h
theorem TabW.lt {w : World} (h : TabW w) : 1 < w.heap.size := lt_of_cell (h 0 (by omega))
theorem xor_max (U : Nat) (h : U < 65536) : bits .xor .u64 IntKind.u64.max (U : Int) = ((18446744073709551615 - U : Nat) : Int) := by
  show IntKind.u64.wrap ((BitVec.ofInt 64 IntKind.u64.max ^^^ BitVec.ofInt 64 (U : Int)).toNat : Int) = _
  have e : BitVec.ofInt 64 IntKind.u64.max = BitVec.allOnes 64 := by decide
  rw [e, BitVec.allOnes_xor, BitVec.toNat_not, BitVec.ofInt_natCast, BitVec.toNat_ofNat, Nat.mod_eq_of_lt (by omega), IntKind.wrap_u64]
  omega
theorem greedy_lt (rows : List (List Bool)) {k : Nat} (hk : k ≤ 10) (j : Nat) : (greedyL rows k).getD j 0 < 16 := by
  by_cases hj : j < (greedyL rows k).length
  · have := (greedy_col (rows := rows) k).1 j hj
    omega
  · rw [List.getD_eq_getElem?_getD, List.getElem?_eq_none (by omega)]; simp

set_option maxRecDepth 100000 in
set_option maxHeartbeats 3200000 in
theorem greedy_impl (A : Option Addr) (n c B : Nat) (rows : List (List Bool)) (w : World) (h : RTT w B A n rows) (hB : B ≤ w.heap.size) (hn : n ≤ 1000000000) (hT : TabW w) :
    Calls Tryd.prog 11 #[.slice A n c] w fun e w' => RetI 3 w e w' (greedyI rows) := by
  obtain ⟨i0, hi0, hz0, hz1, hz2⟩ := info_parts infoSl
  have HL := hid (RTT.len h)
  have hcv := confValid_impl A n c B rows w h hn
  by_cases hco : ConfOk rows
  · rw [confB_yes hco] at hcv
    rw [greedyI_yes hco, HL.out]
    have h10 : n ≤ 10 := by rw [← HL.out]; exact hco.1
    have hsq : ∀ r ∈ rows, r.length = n := fun r hr => by rw [conf_sq hco r hr]; exact HL.out
    have HCV := hid hcv
    have hcs := conflictSets_impl A n c B rows w h hB hsq (by omega)
    have HCS := hid hcs
    have HT := hid hT
    clear hcv hco h hcs hsq hT
    go_enter Tryd.func11, Tryd.ntmps11
    go_wp2_with fail
    refine HCV.out.mono ?_
    rintro e w1 ⟨rfl, rfl⟩
    go_wp2_with fail
    refine HCS.out.mono ?_
    rintro e w2 ⟨rfl, hgb, hb2⟩
    obtain ⟨g, hg⟩ : ∃ g, w.heap.size = g := ⟨_, rfl⟩
    obtain ⟨p, hp⟩ : ∃ p, w2.heap.size = p := ⟨_, rfl⟩
    have hgp : g < p := by rw [← hp, ← hg]; exact hgb.lt
    have hmk := run_make0 (P := Tryd.prog) 25 3 (.int .i64 0) 8 Tryd.underlying25 infoSl rfl .i64 .i64 n (by omega) (by omega) w2
    have hpt : Part (w2.alloc (.cells (madeCells #[.int .i64 0] n) 3)) p n 0 [] := ⟨_, by rw [← hp]; exact Blk.new w2 3 _, by simp [madeCells], rfl⟩
    have hgb1 : Blk (w2.alloc (.cells (madeCells #[.int .i64 0] n) 3)) g 45 ((setsL rows n).map fU).toArray := by rw [← hg]; exact hgb.alloc _
    have HH := hid (And.intro hgb1 (And.intro (hb2.alloc hb2.size (.cells (madeCells #[.int .i64 0] n) 3)) (And.intro hg (And.intro hp hpt))))
    rw [hp] at hmk
    rw [hg]
    clear hgb hgb1 hb2 hpt hg
    obtain ⟨W3, hW3⟩ : ∃ W3, w2.alloc (.cells (madeCells #[.int .i64 0] n) 3) = W3 := ⟨_, rfl⟩
    rw [hW3] at hmk
    go_wp2
    go_loopw [4, 16] (fun sv iv wr => ∃ k : Nat, k ≤ n ∧ sv = .slice (some ⟨p, 0, none⟩) k n ∧ iv = .int .i64 k ∧ Only p (p + 1) W3 wr ∧ Part wr p n k (greedyL rows k)) (fun _ iv _ => n - (intOf iv).toNat)
    case atStart => exact ⟨0, Nat.zero_le _, rfl, rfl, Only.refl _ _ _, hW3 ▸ HH.out.2.2.2.2⟩
    case round =>
      obtain ⟨k, hk, rfl, rfl, hon, hpt⟩ := hrel
      have hbw : Below w.heap.size w wr := by
        have hb3 : Below w.heap.size w W3 := hW3 ▸ HH.out.2.1
        exact hb3.trans (hon.below (by rw [HH.out.2.2.1]; omega) hb3.size)
      have HBW := hid hbw
      clear hbw
      by_cases hlt : k < n
      · obtain ⟨hce, hfz, hplr⟩ := hpt.cell hlt
        have hgr := Blk.only (hW3 ▸ HH.out.1 : Blk W3 g 45 ((setsL rows n).map fU).toArray) hon (by omega)
        have hgc : wr.cell? ⟨g, k, none⟩ = some (.int .u64 (rowN rows k n : Nat)) := by
          rw [hgr.cell]
          simp [setsL, hlt, fU]
        have hus := usedSlots_impl (some ⟨p, 0, none⟩) k n wr.heap.size k n rows (greedyL rows k) wr (hpt.ri hk) (greedy_lt rows (by omega)) (by omega) (by omega)
        have hub : usedN rows k (greedyL rows k) k < 65536 := usedN_lt rows k (greedyL rows k) 16 (greedy_lt rows (by omega)) k
        obtain ⟨U, hU⟩ : ∃ U, usedN rows k (greedyL rows k) k = U := ⟨_, rfl⟩
        rw [hU] at hus hub
        have hbits : ∀ s, U.testBit s = usedB rows (greedyL rows k) k s := fun s => by
          have h1 := usedN_bit rows k (greedyL rows k) s k
          rw [hU] at h1
          rw [Bool.eq_iff_iff, h1, usedB_iff, greedy_len]
        obtain ⟨f1, f2, f3⟩ := freeS_spec rows (greedyL rows k) k
        rw [greedy_len] at f1
        have hcz := ctz_not hub (t := freeS rows (greedyL rows k) k) (by omega) (by rw [hbits]; exact f2) (fun v hv => by rw [hbits]; exact f3 v hv)
        have htz := tz (18446744073709551615 - U) (by omega) (by omega) wr (TabW.below HT.out HBW.out HT.out.lt)
        rw [hcz] at htz
        have hpt2 := hpt.snoc hlt (freeS rows (greedyL rows k) k)
        rw [← greedy_take] at hpt2
        obtain ⟨S, hS⟩ : ∃ S, freeS rows (greedyL rows k) k = S := ⟨_, rfl⟩
        rw [hS] at hpt2 htz
        have hpt3 := Part.more (w' := (wr.setCell ⟨p, k, none⟩ (.int .i64 (S : Int))).alloc (.cells #[.int .i64 (S : Int)] 3)) hpt2 (Below.heap_alloc _ _ p (by obtain ⟨cs, hb, _⟩ := hpt2; exact hb.lt))
        have hon3 := (hon.setCell (p := ⟨p, k, none⟩) (Nat.le_refl _) (Nat.lt_succ_self _) (.int .i64 (S : Int))).alloc (.cells #[.int .i64 (S : Int)] 3)
        have HU := hid hus
        have HTZ := hid htz
        have HP3 := hid (And.intro hon3 hpt3)
        have hk0 : (0 : Int) ≤ (k : Int) := by omega
        have hkn : (k : Int) < (n : Int) := by omega
        clear hon hpt hgr hus hU hbits f1 f2 f3 hcz htz hpt2 hpt3 hon3 hS
        go_wp2_with fail
        refine HU.out.mono ?_
        rintro e w_ ⟨rfl, rfl⟩
        go_wp2_with fail
        rw [xor_max U hub]
        refine HTZ.out.mono ?_
        rintro e w_ ⟨rfl, rfl⟩
        go_wp2_with (at_builtin; refine wpList_room1 rfl _ _ _ rfl 3 i0 Tryd.underlying25 hi0 hz1 p k n _ _ rfl rfl (by omega) hplr hce hfz rfl ?_)
        go_roundw
        case rel => exact ⟨k + 1, by omega, rfl, by go_num, HP3.out.1, HP3.out.2⟩
        case measure => simp [intOf]; omega
      · have hkn : k = n := by omega
        subst hkn
        have HF := hid (show RetI 3 w (.returned (.slice (some ⟨p, 0, none⟩) k k)) wr (castL (greedyL rows k)) from ⟨_, _, _, rfl, hpt.whole (by rw [HH.out.2.2.1]; omega) (by unfold maxLen; omega), HBW.out⟩)
        clear hon hpt
        go_wp2
        go_ret
        exact HF.out
  · rw [confB_no hco] at hcv
    rw [greedyI_no hco]
    have HF := hid (retI_nil 3 w)
    have HCV := hid hcv
    clear hcv hco h hT
    go_enter Tryd.func11, Tryd.ntmps11
    go_wp2_with fail
    refine HCV.out.mono ?_
    rintro e w1 ⟨rfl, rfl⟩
    go_wp2
    go_ret
    exact HF.out
end Go.Proofs.YtgccpjhkgkhllaaDoor
