/-
  SlotSuccess, the program's (a Go map counts the senders of a slot) and the reference's, walked.
-/
import Derived.Test.YtnebmfdjcikegaaProg
import Derived.Test.YtnebmfdjcikegaaBase
import Derived.Maps.OwnOps
import Derived.Maps.Views
import Derived.WalkKit
namespace Go.Proofs.Ytnebmfdjcikegaa
open Go.RowKit Go.Maps
set_option linter.unusedVariables false

/-- How many of the first k have the slot x. -/
def cntN (ss : List Int) (x : Int) : Nat → Nat
  | 0 => 0
  | k + 1 => cntN ss x k + (if ss.getD k 0 = x then 1 else 0)
theorem cntN_le (ss : List Int) (x : Int) : ∀ k, cntN ss x k ≤ k
  | 0 => Nat.le_refl _
  | k + 1 => by rw [cntN]; have := cntN_le ss x k; split <;> omega
def SlotIn (x : Int) : Prop := 0 ≤ x ∧ x ≤ 399
def ChoicesOk (ss : List Int) : Prop := ss.length ≤ 8 ∧ ∀ x ∈ ss, SlotIn x
def aloneL (ss : List Int) : Nat → List Int
  | 0 => []
  | k + 1 => if cntN ss (ss.getD k 0) ss.length = 1 then aloneL ss k ++ [(k : Int)] else aloneL ss k
open Classical in
noncomputable def aloneI (ss : List Int) : List Int := if ChoicesOk ss then aloneL ss ss.length else []
open Classical in
theorem aloneI_yes {ss : List Int} (h : ChoicesOk ss) : aloneI ss = aloneL ss ss.length := by unfold aloneI; exact if_pos h
open Classical in
theorem aloneI_no {ss : List Int} (h : ¬ ChoicesOk ss) : aloneI ss = [] := by unfold aloneI; exact if_neg h
theorem aloneL_len (ss : List Int) : ∀ k, (aloneL ss k).length ≤ k
  | 0 => Nat.le_refl _
  | k + 1 => by rw [aloneL]; have := aloneL_len ss k; split <;> simp <;> omega
theorem aloneI_len (ss : List Int) : (aloneI ss).length ≤ 8 := by
  by_cases h : ChoicesOk ss
  · rw [aloneI_yes h]; exact Nat.le_trans (aloneL_len ss _) h.1
  · rw [aloneI_no h]; simp
theorem getD_at {ss : List Int} {k : Nat} {x : Int} (h : ss[k]? = some x) : ss.getD k 0 = x := by rw [List.getD_eq_getElem?_getD, h]; rfl
/-- Nobody but k among the first j has k's slot. -/
def lone (ss : List Int) (k : Nat) : Nat → Bool
  | 0 => true
  | j + 1 => lone ss k j && (j == k || ss.getD j 0 != ss.getD k 0)
theorem lone_cnt (ss : List Int) (k : Nat) : ∀ j, lone ss k j = decide (cntN ss (ss.getD k 0) j = if k < j then 1 else 0)
  | 0 => by simp [lone, cntN]
  | j + 1 => by
    rw [lone, lone_cnt ss k j, cntN]
    by_cases hjk : j = k
    · subst hjk
      simp
    · by_cases he : ss.getD j 0 = ss.getD k 0
      · rw [if_pos he]
        have h1 : (j == k) = false := by simp [hjk]
        have h2 : (ss.getD j 0 != ss.getD k 0) = false := by rw [he]; simp
        rw [h1, h2]
        have h3 : cntN ss (ss.getD k 0) j ≥ (if k < j then 1 else 0) ∨ ¬ k < j := by
          by_cases hk : k < j
          · left; rw [if_pos hk]
            clear h1 h2 he hjk
            induction j with
            | zero => omega
            | succ m ih =>
              rw [cntN]
              by_cases hm : k = m
              · subst hm; rw [if_pos rfl]; omega
              · have := ih (by omega); omega
          · exact .inr hk
        simp only [Bool.or_self, Bool.and_false]
        symm
        rw [decide_eq_false_iff_not]
        by_cases hk : k < j
        · rw [if_pos hk] at h3
          rw [if_pos (by omega)]
          omega
        · rw [if_neg (by omega)]
          omega
      · have h2 : (ss.getD j 0 != ss.getD k 0) = true := by simpa using he
        rw [if_neg he, h2, Bool.or_true, Bool.and_true, Nat.add_zero]
        have h4 : (k < j + 1) ↔ (k < j) := by omega
        simp only [h4]
theorem lone_all {ss : List Int} {k : Nat} (hk : k < ss.length) : lone ss k ss.length = decide (cntN ss (ss.getD k 0) ss.length = 1) := by rw [lone_cnt, if_pos hk]
/-- The map behind k rounds. -/
def mapC (ss : List Int) : Nat → DataW Unit
  | 0 => .map []
  | k + 1 => (mapC ss k).put (.int .i64 (ss.getD k 0)) (.lit (.int .i64 (cntN ss (ss.getD k 0) (k + 1) : Nat)))
theorem mapC_is (ss : List Int) : ∀ k, IsMap (mapC ss k)
  | 0 => isMap_empty
  | k + 1 => by obtain ⟨es, e⟩ := mapC_is ss k; rw [mapC, e]; exact ⟨_, rfl⟩
theorem mapC_at (ss : List Int) (x : Int) : ∀ k, (mapC ss k).atKey (.int .i64 x) (.lit (.int .i64 0)) = .lit (.int .i64 (cntN ss x k : Nat))
  | 0 => rfl
  | k + 1 => by
    by_cases hx : ss.getD k 0 = x
    · rw [mapC, hx, atKey_put_same (mapC_is ss k) (show WideAt.IsKeyLit (.int .i64 x) from trivial), cntN, if_pos hx]
    · rw [mapC, atKey_put_other (by intro e; injection e with _ e; exact hx e.symm), mapC_at ss x k, cntN, if_neg hx]; rfl
theorem ownsMap_below {P : Program} {k : TypeId} {R : Value → Option (DataW Unit × List MemPlace)} {w w' : World} {b n B : Nat} {D : DataW Unit} (h : w.ownsMap P k R b n D) (hb : Below B w w') (hB : b < B) : w'.ownsMap P k R b n D := by
  obtain ⟨es, clock, h1, F, hs, hD⟩ := h
  exact ⟨es, clock, (hb.block b hB).trans h1, F, hs, hD⟩
theorem lawI : Keyed Try.prog 3 := int_keyed Try.underlying3
theorem zeroI (w : World) : (zeroValue 3).run Try.prog w = .ok (.int .i64 0) w := by kernel_rfl
theorem infoA : (Try.prog.info? 3).map (fun i => (i.zero, i.size, i.bytes)) = some (some (.int .i64 0), 1, 8) := by kernel_rfl
set_option maxRecDepth 100000 in
set_option maxHeartbeats 1600000 in
theorem slotSuccess_impl (A : Option Addr) (n c B : Nat) (ss : List Int) (w : World) (h : RI w B A n ss) (hB : B ≤ w.heap.size) (hn : n ≤ 1000000000) :
    Calls Try.prog 19 #[.slice A n c] w fun e w' => RetI 3 w e w' (aloneI ss) := by
  have HL := hid (RI.len h)
  have HR := hid h
  obtain ⟨i0, hi0, hz0, hz1, hz2⟩ := info_parts infoA
  have hmm := @run_makeMap Try.prog
  have HN0 := hid (retI_nil 3 w)
  by_cases h8 : n ≤ 8
  · go_enter Try.func19, Try.ntmps19
    go_wp2
    go_loopw [15] (fun i wr => ∃ k : Nat, k ≤ n ∧ i = .int .i64 k ∧ Hid (∀ j, j < k → SlotIn (ss.getD j 0)) ∧ wr.ownsMap Try.prog 3 (plainElem Try.prog 3) w.heap.size k (mapC ss k) ∧ Below w.heap.size w wr) (fun i _ => n - (intOf i).toNat)
    case atStart => exact ⟨0, Nat.zero_le _, rfl, hid (fun j hj => by omega), World.ownsMap_made _ _ _ _, (Below.refl _ _).alloc (Nat.le_refl _) _⟩
    case round =>
      obtain ⟨k, hk, rfl, HIN, hown, hbr⟩ := hrel
      by_cases hlt : k < n
      · obtain ⟨b, o, x, rfl, hb, hx, hcx⟩ := RI.at_ (RV.below HR.out (hbr.mono hB)) hlt
        have HX := hid (getD_at hx)
        have HM := hid (List.mem_of_getElem? hx)
        have HAT := hid (mapC_at ss x k)
        clear hx
        by_cases hx0 : 0 ≤ x
        · by_cases hx1 : x ≤ 399
          · have hkey : keyOf Try.prog 3 (.int .i64 x) = some (.int .i64 x) := keyOf_int_mk Try.underlying3 (WalkArith.wf_i64 (by omega))
            have HST := hid (And.intro hown hbr)
            clear hown hbr
            have hown := HST.out.1
            go_wp2_with (first
              | (at_lookup; refine wpList_lookup_own_int _ rfl _ _ 42 rfl 3 3 .i64 lawI Try.underlying42 Try.underlying3 (zeroI _) w.heap.size k _ rfl hown _ _ rfl hkey ?_; intro cz hat hwc)
              | (at_mapUpdate; refine wpList_mapUpdate_own _ rfl _ _ _ 42 rfl 3 3 lawI Try.underlying42 _ w.heap.size k _ rfl hown (by unfold maxLen; omega) _ _ _ rfl rfl hkey _ [] (plainElem_int Try.underlying3 (wrap64_wf _)) ?_; intro w1 hown1 hgrow1)
              | go_in)
            have hcz : cz = ((cntN ss x k : Nat) : Int) := by
              rw [HAT.out] at hat
              injection hat with hat
              injection hat with _ hat
              exact hat.symm
            subst hcz
            have hcl := cntN_le ss x k
            have H1 := hid (And.intro hown1 (HST.out.2.grown hgrow1 HST.out.2.size (fun j hj => by cases hj; exact Nat.le_refl _)))
            clear hown1 hgrow1 hat hown
            go_roundw
            case rel => exact ⟨k + 1, by omega, by go_num, hid (fun j hj => by
              by_cases hjk : j = k
              · subst hjk; rw [HX.out]; exact ⟨hx0, hx1⟩
              · exact HIN.out j (by omega)), by
                have := H1.out.1
                rw [mapC, HX.out, cntN, HX.out, if_pos rfl]
                rw [show wrap64 (((cntN ss x k : Nat) : Int) + 1) = ((cntN ss x k + 1 : Nat) : Int) by rw [IntWalk.wrap64_in _ ⟨by omega, by omega⟩]; push_cast; rfl] at this
                exact this, H1.out.2⟩
            case measure => simp [intOf]; omega
          · have HV := aloneI_no (ss := ss) (fun hh => hx1 (hh.2 x HM.out).2)
            have HF : Hid (RetI 3 w (.returned (.slice none 0 0)) wr (aloneI ss)) := hid (by rw [HV]; exact retI_of (World.ownsRow_nil _ _ _ _) hbr)
            clear hown hbr HV
            go_wp2
            go_ret
            exact HF.out
        · have HV := aloneI_no (ss := ss) (fun hh => hx0 (hh.2 x HM.out).1)
          have HF : Hid (RetI 3 w (.returned (.slice none 0 0)) wr (aloneI ss)) := hid (by rw [HV]; exact retI_of (World.ownsRow_nil _ _ _ _) hbr)
          clear hown hbr HV
          go_wp2
          go_ret
          exact HF.out
      · have hkn : k = n := by omega
        subst hkn
        have HOK : Hid (ChoicesOk ss) := hid ⟨by rw [HL.out]; exact h8, fun x hx => by
          obtain ⟨j, hj, e⟩ := List.mem_iff_getElem.1 hx
          have := HIN.out j (by rw [← HL.out]; exact hj)
          rw [getD_at (by rw [List.getElem?_eq_getElem hj])] at this
          rw [← e]; exact this⟩
        have HST := hid (And.intro hown hbr)
        have hsz := hbr.size
        have hsz2 := hown.lt
        have HA : Hid (aloneI ss = aloneL ss k) := hid (by rw [aloneI_yes HOK.out, HL.out])
        clear hown hbr HIN
        obtain ⟨wo, hwo⟩ : ∃ wo : World, wo = wr := ⟨_, rfl⟩
        rw [← hwo] at HST hsz hsz2
        subst hwo
        go_wp2
        go_loopw [6, 32] (fun v i wr => ∃ (m q cc : Nat) (AA : Option Addr), m ≤ k ∧ i = .int .i64 m ∧ v = .slice AA q cc ∧ q ≤ m ∧ Hid (wr.ownsRow (w.heap.size + 1) 3 1 (.slice AA q cc) q ((aloneL ss m).map (Value.int .i64)) ∧ Below (w.heap.size + 1) wo wr) ∧ wo.heap.size ≤ wr.heap.size) (fun _ i _ => k - (intOf i).toNat)
        case atStart => exact ⟨0, 0, 0, none, Nat.zero_le _, rfl, rfl, Nat.le_refl _, hid ⟨World.ownsRow_nil _ _ _ _, Below.refl _ _⟩, Nat.le_refl _⟩
        case round =>
          obtain ⟨m, q, cc, AA, hm, rfl, rfl, hqm, HW, hszr⟩ := hrel
          by_cases hmt : m < k
          · have hbw : Below w.heap.size w wr := HST.out.2.trans (HW.out.2.mono (by omega))
            obtain ⟨b, o, x, rfl, hb, hx, hcx⟩ := RI.at_ (RV.below HR.out (hbw.mono hB)) hmt
            have HX := hid (getD_at hx)
            have HAT := hid (mapC_at ss x k)
            have hxin : SlotIn x := HOK.out.2 x (List.mem_of_getElem? hx)
            have hkey : keyOf Try.prog 3 (.int .i64 x) = some (.int .i64 x) := keyOf_int_mk Try.underlying3 (WalkArith.wf_i64 (by unfold SlotIn at hxin; omega))
            have hownm := ownsMap_below HST.out.1 HW.out.2 (Nat.lt_succ_self _)
            have hcl := cntN_le ss x k
            have HQ := hid hx
            clear hx hbw hxin
            by_cases h1 : cntN ss x k = 1
            · have hown := HW.out.1
              go_wp2_with (first
                | (at_lookup; refine wpList_lookup_own_int _ rfl _ _ 42 rfl 3 3 .i64 lawI Try.underlying42 Try.underlying3 (zeroI _) w.heap.size k _ rfl hownm _ _ rfl hkey ?_; intro cz hat hwc; have hcz : cz = 1 := (by rw [HAT.out, h1] at hat; injection hat with hat; injection hat with _ hat; exact hat.symm); subst hcz; clear hat)
                | (at_builtin; refine wpList_push rfl _ _ _ rfl (w.heap.size + 1) 3 i0 _ 8 Try.underlying32 hi0 hz0 hz1 hz2 rfl (by omega) _ _ AA q cc _ rfl hown rfl rfl (by omega) (by omega) ?_; intro g' cap w5 hown5 hgrow5 hlies5 hlt5)
                | go_in)
              have hbel5 := below_push HW.out.2 hown (Nat.le_refl _) (by omega) hgrow5
              have H5 := hid (And.intro hown5 hbel5)
              have hz5 := hbel5.size
              clear hown hown5 hbel5 hgrow5 hownm
              go_roundw
              case rel => exact ⟨m + 1, q + 1, cap, _, by omega, by go_num, rfl, by omega, hid ⟨by rw [aloneL, HX.out, HL.out, if_pos h1, List.map_append]; exact H5.out.1, H5.out.2⟩, hz5⟩
              case measure => simp [intOf]; omega
            · go_wp2_with (first
                | (at_lookup; refine wpList_lookup_own_int _ rfl _ _ 42 rfl 3 3 .i64 lawI Try.underlying42 Try.underlying3 (zeroI _) w.heap.size k _ rfl hownm _ _ rfl hkey ?_; intro cz hat hwc; have hcz : cz = ((cntN ss x k : Nat) : Int) := (by rw [HAT.out] at hat; injection hat with hat; injection hat with _ hat; exact hat.symm); subst hcz; clear hat; have hne1 : (((cntN ss x k : Nat) : Int) == 1) = false := (by simp; omega))
                | go_in)
              clear hownm
              go_roundw
              case rel => exact ⟨m + 1, q, cc, _, by omega, by go_num, rfl, by omega, hid ⟨by rw [aloneL, HX.out, HL.out, if_neg h1]; exact HW.out.1, HW.out.2⟩, hszr⟩
              case measure => simp [intOf]; omega
          · have hmk : m = k := by omega
            subst hmk
            have HF := hid (retI_of (own_base HW.out.1 (Nat.le_succ _)) (HST.out.2.trans (HW.out.2.mono (by omega))))
            rw [← HA.out] at HF
            go_wp2
            go_ret
            exact HF.out
  · have HV := hid (aloneI_no (ss := ss) (fun hh => by have := hh.1; have := HL.out; omega))
    rw [HV.out]
    go_enter Try.func19, Try.ntmps19
    go_wp2
    go_ret
    exact HN0.out
end Go.Proofs.Ytnebmfdjcikegaa
