/-
  AccessRun, the reference's, walked.
-/
import Derived.Test.YtnebmfdjcikegaaAccQ
import Derived.Test.YtnebmfdjcikegaaAccI
import Derived.Test.YtnebmfdjcikegaaTab
import Derived.StillTailTactics
namespace Go.Proofs.Ytnebmfdjcikegaa
open Go.RowKit
set_option linter.unusedVariables false

theorem in_spec47 (x : Int) (w : World) : Calls Try.prog 27 #[.int .i64 x, .int .i64 0, .int .i64 2047] w fun e w' => e = .returned (.bool (decide (0 ≤ x) && decide (x ≤ 2047))) ∧ w = w' := by
  by_cases h0 : 0 ≤ x
  · by_cases h1 : x ≤ 2047
    · go_enter Try.func27, Try.ntmps27
      go_wp2
      go_ret
      exact ⟨by first | rfl | (simp; done) | (simp; omega), rfl⟩
    · go_enter Try.func27, Try.ntmps27
      go_wp2
      go_ret
      exact ⟨by first | (simp; done) | (simp; omega), rfl⟩
  · go_enter Try.func27, Try.ntmps27
    go_wp2
    go_ret
    exact ⟨by first | (simp; done) | (simp; omega), rfl⟩

/-- The reference's four lists, each in blocks of its own. -/
structure MS (w : World) (z p5 p6 p7 q n c4 c7 : Nat) (A4 A7 : Option Addr) (σ : SdF) : Prop where
  now : OwnI w 3 z p5 A4 n c4 (seeds n σ)
  when : OwnI w 3 p5 p6 (some ⟨p5, 0, none⟩) n n (whs n σ)
  fal : OwnI w 3 p6 p7 (some ⟨p6, 0, none⟩) n n (fls n σ)
  out : OwnI w 3 p7 q A7 n c7 (outs n σ)
section
variable {w w' : World} {z p5 p6 p7 q n c4 c7 : Nat} {A4 A7 : Option Addr} {σ : SdF}
theorem MS.keep (h : MS w z p5 p6 p7 q n c4 c7 A4 A7 σ) (e5 : z ≤ p5) (e6 : p5 ≤ p6) (e7 : p6 ≤ p7) (eq : p7 ≤ q) (hz : w.heap.size ≤ w'.heap.size) (hk : ∀ k, k < q → k < w.heap.size → w'.heap[k]? = w.heap[k]?) : MS w' z p5 p6 p7 q n c4 c7 A4 A7 σ :=
  ⟨OwnV.keep h.now hz fun k _ h2 h3 => hk k (by omega) h3, OwnV.keep h.when hz fun k _ h2 h3 => hk k (by omega) h3, OwnV.keep h.fal hz fun k _ h2 h3 => hk k (by omega) h3, OwnV.keep h.out hz fun k _ h2 h3 => hk k (by omega) h3⟩
end
theorem part_list {n i kk : Nat} {l : List Nat} {t : Int} {σ : SdF} (hl : l.Nodup) (h : l[i]? = some kk) (hk : kk < n) (F : Sd → Int) :
    ((List.range n).map fun j => F (partS l t σ (i + 1) j)) = ((List.range n).map fun j => F (partS l t σ i j)).set kk (F (updD l.length t (σ kk))) := by
  rw [map_range_set hk, (partS_next hl h).2]
  apply List.map_congr_left
  intro j _
  by_cases hj : j = kk
  · simp only [if_pos hj]
  · simp only [if_neg hj]
theorem part_same {n i kk : Nat} {l : List Nat} {t : Int} {σ : SdF} (hl : l.Nodup) (h : l[i]? = some kk) (F : Sd → Int) (hF : F (updD l.length t (σ kk)) = F (σ kk)) :
    ((List.range n).map fun j => F (partS l t σ (i + 1) j)) = ((List.range n).map fun j => F (partS l t σ i j)) := by
  obtain ⟨h1, h2⟩ := partS_next (t := t) (σ := σ) hl h
  rw [h2]
  apply List.map_congr_left
  intro j _
  by_cases hj : j = kk
  · simp only [if_pos hj, hF]; rw [hj, h1]
  · simp only [if_neg hj]
theorem grown_bel {w w' : World} {lo t n c : Nat} {A : Option Addr} {us : List Value} (hm : w.ownsRow lo t 1 (.slice A n c) n us) (hg : w.grownBy w' (Value.ownBlock (.slice A n c))) (hz : lo ≤ w.heap.size) : Below lo w w' :=
  below_of_grown hg hz (fun k hk => (World.ownsRow.lt hm k hk).1)
theorem own_set {w : World} {t : TypeId} {lo hi n c g k : Nat} {xs : List Int} (h : OwnI w t lo hi (some ⟨g, 0, none⟩) n c xs) (hk : k < n) (x : Int) : OwnI (w.setCell ⟨g, k, none⟩ (.int .i64 x)) t lo hi (some ⟨g, 0, none⟩) n c (xs.set k x) := by
  obtain ⟨g', y, e, _, _, _, _, _, _, hst⟩ := OwnI.stored h hk x
  injection e with e
  injection e with e _ _
  subst e
  exact hst
theorem own_keepV {w : World} {t : TypeId} {lo hi n c : Nat} {A : Option Addr} {xs : List Int} (h : OwnI w t lo hi A n c xs) {p : Addr} (hp : ¬ (lo ≤ p.block ∧ p.block < hi) ∨ (∀ a, A = some a → a.block ≠ p.block)) (v : Value) : OwnI (w.setCell p v) t lo hi A n c xs := by
  obtain ⟨h1, h2, h3, h4⟩ := h
  refine ⟨h1, h2, h3, ?_⟩
  rcases h4 with h4 | ⟨g, cs, e, a, b, d, hb, r⟩
  · exact .inl h4
  · refine .inr ⟨g, cs, e, a, b, by simpa [World.setCell] using d, hb.far (p := p) (fun e' => ?_) v, r⟩
    rcases hp with hp | hp
    · exact hp (by omega)
    · exact hp _ e e'
theorem cell_far (w : World) (p a : Addr) (v : Value) (h : p.block ≠ a.block) : (w.setCell p v).cell? a = w.cell? a := World.cell?_setCell_other w p a v (fun e => h (by rw [e]))
theorem own_drew {w : World} {t : TypeId} {lo hi n c : Nat} {A : Option Addr} {xs : List Int} (h : OwnI w t lo hi A n c xs) : OwnI w.drew t lo hi A n c xs := h
/-- Who is due, as numbers. -/
def lst (k : Nat) (t : Int) (σ : SdF) : List Int := (listP k t σ).map fun (j : Nat) => (j : Int)
theorem lst_yes {k : Nat} {t : Int} {σ : SdF} (h : pend t (σ k) = true) : lst (k + 1) t σ = lst k t σ ++ [(k : Int)] := by
  unfold lst listP
  rw [List.range_succ, List.filter_append, List.map_append]
  simp [h]
theorem lst_no {k : Nat} {t : Int} {σ : SdF} (h : pend t (σ k) = false) : lst (k + 1) t σ = lst k t σ := by
  unfold lst listP
  rw [List.range_succ, List.filter_append, List.map_append]
  simp [h]
theorem lst_get {n i : Nat} {t : Int} {σ : SdF} {x : Int} (h : (lst n t σ)[i]? = some x) : ∃ kk : Nat, x = (kk : Int) ∧ (listP n t σ)[i]? = some kk ∧ kk < n ∧ pend t (σ kk) = true := by
  unfold lst at h
  rw [List.getElem?_map] at h
  cases hx : (listP n t σ)[i]? with
  | none => rw [hx] at h; simp at h
  | some kk =>
    rw [hx] at h
    simp at h
    have := mem_listP.1 (List.mem_of_getElem? hx)
    exact ⟨kk, h.symm, rfl, this.1, this.2⟩
set_option maxRecDepth 100000 in
set_option maxHeartbeats 6400000 in
theorem accessRun_spec (A : Option Addr) (n c B : Nat) (xs : List Int) (w : World) (h : RI w B A n xs) (hB : B ≤ w.heap.size) (hn : n ≤ 1000000000) :
    Calls Try.prog 25 #[.slice A n c] w fun e w' => RetI 3 w e w' (runI xs) := by
  have HL := hid (RI.len h)
  have HR := hid h
  by_cases h8 : n ≤ 8
  · obtain ⟨D, hD, hmi⟩ := make_i n h8
    obtain ⟨i0, hi0, hz0, hz1, hz2⟩ := info_parts infoI3
    have HD := hid hD
    have h8' : (n : Int) ≤ 8 := by omega
    have hown0 : (w.alloc (.cells #[] 3)).ownsRow w.heap.size 3 1 (.slice (some ⟨w.heap.size, 0, none⟩) 0 0) 0 [] := own_lit0 _ (Nat.le_refl _)
    clear h hD
    go_enter Try.func25, Try.ntmps25
    go_wp2
    go_loopw [3] (fun v3 wr => ∃ k : Nat, k ≤ n ∧ v3 = .int .i64 k ∧ Hid (∀ j, j < k → 0 ≤ xs.getD j 0 ∧ xs.getD j 0 ≤ 2047) ∧ w = wr) (fun v3 _ => n - (intOf v3).toNat)
    case atStart => exact ⟨0, Nat.zero_le _, rfl, hid (fun j hj => absurd hj (Nat.not_lt_zero _)), rfl⟩
    case round =>
      obtain ⟨k, hk, rfl, HI, rfl⟩ := hrel
      by_cases hlt : k < n
      · have hkn : (k : Int) < (n : Int) := by omega
        obtain ⟨b, o, x, rfl, hbb, hx, hcx⟩ := RI.at_ HR.out hlt
        have HX := hid (show xs.getD k 0 = x by rw [List.getD_eq_getElem?_getD, hx]; rfl)
        have HMX := hid (List.mem_of_getElem? hx)
        have hsv := in_spec47 x w
        clear hx hown0
        by_cases hx0 : 0 ≤ x ∧ x ≤ 2047
        · rw [decide_eq_true hx0.1, decide_eq_true hx0.2] at hsv
          have HSV := hid hsv
          have HX0 := hid hx0
          clear hsv hx0
          go_wp2_with fail
          refine HSV.out.mono ?_
          rintro e w_ ⟨rfl, rfl⟩
          go_wp2
          go_roundw
          case rel => exact ⟨k + 1, by omega, by go_num, hid (fun j hj => by
            by_cases hjk : j = k
            · rw [hjk, HX.out]; exact HX0.out
            · exact HI.out j (by omega)), trivial⟩
          case measure => simp [intOf]; omega
        · have HN := hid (runI_no (xs := xs) (fun hh => hx0 (hh.2 x HMX.out)))
          have hsvf : (decide (0 ≤ x) && decide (x ≤ 2047)) = false := by
            rcases Classical.not_and_iff_not_or_not.1 hx0 with h1 | h1
            · rw [decide_eq_false h1]; rfl
            · rw [decide_eq_false h1]; simp
          rw [hsvf] at hsv
          have HSV := hid hsv
          clear hsv hsvf hx0
          go_wp2_with fail
          refine HSV.out.mono ?_
          rintro e w_ ⟨rfl, rfl⟩
          go_wp2
          go_ret
          rw [HN.out]
          exact retI_lit0 _ _
      · have hkn : k = n := by omega
        subst hkn
        have HOK : Hid (SeedsOk xs) := hid ⟨by rw [HL.out]; exact h8, fun x hx => by
          obtain ⟨j, hj⟩ := List.getElem?_of_mem hx
          have hjl : j < k := by
            rcases Nat.lt_or_ge j xs.length with h1 | h1
            · rw [← HL.out]; exact h1
            · rw [List.getElem?_eq_none h1] at hj; cases hj
          have := HI.out j hjl
          rw [List.getD_eq_getElem?_getD, hj] at this
          exact this⟩
        have HG : Hid (∀ t, GoodD k t (itS k (initS xs) t)) := hid (fun t => by have := good_it (good_init HOK.out) t; rw [HL.out] at this; exact this)
        have HRUN : Hid (runI xs = outs k (itS k (initS xs) 400)) := hid (by rw [runI_yes HOK.out, HL.out])
        clear HI
        go_wp2_with (at_builtin; refine wpList_all rfl _ _ _ rfl w.heap.size 3 i0 _ 8 Try.underlying32 hi0 hz0 hz1 hz2 rfl (by omega) _ 0 0 [] rfl hown0 B A k c (xs.map (Value.int .i64)) rfl (RV.alloc HR.out hB _) (by intro u hu; obtain ⟨x, _, rfl⟩ := List.mem_map.1 hu; rfl) (by omega) (by omega) (by simp) ?_; intro A4 c4 w4 hown4 hgrow4; simp only [Nat.zero_add, List.nil_append] at hown4; have hb4 := below_push ((Below.refl w.heap.size w).alloc (Nat.le_refl _) _) hown0 (Nat.le_refl _) (by simp) hgrow4; have H4 := hid (And.intro hown4 hb4); have hz4 := hb4.size; obtain ⟨p5, hp5⟩ : ∃ p, w4.heap.size = p := ⟨_, rfl⟩; obtain ⟨p6, hp6⟩ : ∃ p, p5 + 1 = p := ⟨_, rfl⟩; obtain ⟨p7, hp7⟩ : ∃ p, p6 + 1 = p := ⟨_, rfl⟩; clear hown4 hgrow4 hb4 hown0)
        have HW0 := hid (show OwnI (((w4.alloc (.cells D 3)).alloc (.cells D 3)).alloc (.cells #[] 3)) 3 w.heap.size p5 A4 k c4 (seeds k (initS xs)) ∧ OwnI (((w4.alloc (.cells D 3)).alloc (.cells D 3)).alloc (.cells #[] 3)) 3 p5 p6 (some ⟨p5, 0, none⟩) k k (whs k (initS xs)) ∧ OwnI (((w4.alloc (.cells D 3)).alloc (.cells D 3)).alloc (.cells #[] 3)) 3 p6 p7 (some ⟨p6, 0, none⟩) k k (fls k (initS xs)) ∧ Below w.heap.size w (((w4.alloc (.cells D 3)).alloc (.cells D 3)).alloc (.cells #[] 3)) from by
          have hdd := HD.out
          have ew : whs k (initS xs) = List.replicate k 0 := by unfold whs initS; apply List.ext_getElem?; intro j; by_cases hj : j < k <;> simp [hj]
          have ef : fls k (initS xs) = List.replicate k 0 := by unfold fls initS; apply List.ext_getElem?; intro j; by_cases hj : j < k <;> simp [hj]
          have s5 : (w4.alloc (.cells D 3)).heap.size = p6 := by simp; omega
          have s6 : ((w4.alloc (.cells D 3)).alloc (.cells D 3)).heap.size = p7 := by simp; omega
          have k5 := Blk.new w4 3 D
          rw [hp5] at k5
          have k6 := Blk.new (w4.alloc (.cells D 3)) 3 D
          rw [s5] at k6
          have es : seeds k (initS xs) = xs := by have := seeds_init xs; rw [HL.out] at this; exact this
          rw [es, ew, ef]
          have k5' := (k5.alloc (.cells D 3)).alloc (.cells #[] 3)
          have k6' := k6.alloc (.cells #[] 3)
          rw [hdd] at k5' k6'
          refine ⟨?_, ?_, ?_, ?_⟩
          · have := ownV_of1 H4.out.1
            rw [hp5] at this
            exact ((OwnV.alloc this _).alloc _).alloc _
          · rw [hdd]; exact ownV_blk k5' (Nat.le_refl _) (by omega) (by simp) (by unfold maxLen; omega)
          · rw [hdd]; exact ownV_blk k6' (Nat.le_refl _) (by omega) (by simp) (by unfold maxLen; omega)
          · exact ((H4.out.2.alloc (by omega) _).alloc (by simp; omega) _).alloc (by simp; omega) _)
        have HOW := hid (show (((w4.alloc (.cells D 3)).alloc (.cells D 3)).alloc (.cells #[] 3)).ownsRow p7 3 1 (.slice (some ⟨p7, 0, none⟩) 0 0) 0 [] from by
          have s6 : ((w4.alloc (.cells D 3)).alloc (.cells D 3)).heap.size = p7 := by simp; omega
          have := own_lit0 (w := (w4.alloc (.cells D 3)).alloc (.cells D 3)) 3 (Nat.le_refl _)
          rw [s6] at this
          exact this)
        have HZ0 := hid (show p7 < (((w4.alloc (.cells D 3)).alloc (.cells D 3)).alloc (.cells #[] 3)).heap.size from by simp; omega)
        obtain ⟨W0, hW0⟩ : ∃ W : World, W = (((w4.alloc (.cells D 3)).alloc (.cells D 3)).alloc (.cells #[] 3)) := ⟨_, rfl⟩
        rw [← hW0] at HW0 HOW HZ0
        rw [← hW0]
        clear hW0
        obtain ⟨z, hz⟩ : ∃ z, w.heap.size = z := ⟨_, rfl⟩
        have ez : z ≤ p5 := by omega
        rw [hz] at HW0
        have HZZ := hid hz
        clear H4 hz4 hp5 hz
        go_loopw [7, 8] (fun v7 v8 wr => ∃ (i c7 : Nat) (A7 : Option Addr), i ≤ k ∧ v7 = .slice A7 i c7 ∧ v8 = .int .i64 i ∧ Hid (wr.ownsRow p7 3 1 (.slice A7 i c7) i ((List.replicate i (-1 : Int)).map (Value.int .i64))) ∧ Hid (Below p7 W0 wr)) (fun _ v8 _ => k - (intOf v8).toNat)
        case atStart => exact ⟨0, 0, _, Nat.zero_le _, rfl, rfl, hid (by simpa using HOW.out), hid (Below.refl _ _)⟩
        case round =>
          obtain ⟨i, c7, A7, hi, rfl, rfl, OW, BW⟩ := hrel
          have hszw := BW.out.size
          have hz00 := HZ0.out
          by_cases hik : i < k
          · have hik' : (i : Int) < (k : Int) := by omega
            have hownW := OW.out
            go_wp2_with (at_builtin; refine wpList_pushZ rfl _ _ _ rfl p7 3 i0 _ 8 Try.underlying32 hi0 hz0 hz1 hz2 rfl (by omega) _ _ A7 i c7 _ rfl hownW wr.heap.size rfl rfl rfl (by omega) (by omega) ?_; intro g7 cap7 w7 hown7 hgrow7 hlies7 hlt7; have H7 := hid (And.intro hown7 (BW.out.trans (grown_bel hownW hgrow7 (by omega)))); clear hown7 hgrow7 hlies7)
            go_roundw
            case rel => exact ⟨i + 1, cap7, _, by omega, rfl, by go_num, hid (by rw [List.replicate_succ', List.map_append]; exact H7.out.1), hid H7.out.2⟩
            case measure => simp [intOf]; omega
          · have hik2 : i = k := by omega
            subst hik2
            obtain ⟨q, hq⟩ : ∃ q, wr.heap.size = q := ⟨_, rfl⟩
            have hq7 : p7 ≤ q := by omega
            have HMS : Hid (MS wr z p5 p6 p7 q i c4 c7 A4 A7 (itS i (initS xs) 0)) := hid (by
              have eo : outs i (initS xs) = List.replicate i (-1) := by unfold outs initS; apply List.ext_getElem?; intro j; by_cases hj : j < i <;> simp [hj]
              refine ⟨OwnV.below HW0.out.1 BW.out (by omega), OwnV.below HW0.out.2.1 BW.out (by omega), OwnV.below HW0.out.2.2.1 BW.out (Nat.le_refl _), ?_⟩
              show OwnI wr 3 p7 q A7 i c7 (outs i (initS xs))
              rw [eo]
              have := ownV_of1 OW.out
              rw [hq] at this
              exact this)
            have HBZ := hid (show Below z w wr from HW0.out.2.2.2.trans (BW.out.mono (by omega)))
            have HQQ := hid (Nat.le_of_eq hq.symm)
            obtain ⟨σ, hσ⟩ : ∃ σ, initS xs = σ := ⟨_, rfl⟩
            rw [hσ] at HG HRUN HMS
            obtain ⟨w5, rfl⟩ : ∃ w5 : World, w5 = wr := ⟨_, rfl⟩
            clear hσ OW BW HW0 HOW hq hszw hz00
            go_wp2
            go_loopw [9] (fun v9 wr => ∃ t : Nat, t ≤ 400 ∧ v9 = .int .i64 t ∧ Hid (q ≤ wr.heap.size) ∧ Hid (MS wr z p5 p6 p7 q i c4 c7 A4 A7 (itS i σ t)) ∧ Hid (Below z w wr)) (fun v9 _ => 400 - (intOf v9).toNat)
            case atStart => exact ⟨0, by omega, rfl, HQQ, HMS, HBZ⟩
            case round =>
              obtain ⟨t, ht, rfl, SZ, M, BB⟩ := hrel
              by_cases ht4 : t < 400
              · have ht4' : (t : Int) < 400 := by omega
                have HGT := hid (HG.out t)
                obtain ⟨τ, hτ⟩ : ∃ τ, itS i σ t = τ := ⟨_, rfl⟩
                have HST : Hid (itS i σ (t + 1) = stepS i (t : Int) τ) := hid (by rw [← hτ]; rfl)
                rw [hτ] at M HGT
                have hl0 := own_lit0 (w := wr) 3 SZ.out
                have HL0 := hid (show (wr.alloc (.cells #[] 3)).ownsRow q 3 1 (.slice (some ⟨wr.heap.size, 0, none⟩) 0 0) 0 [] ∧ MS (wr.alloc (.cells #[] 3)) z p5 p6 p7 q i c4 c7 A4 A7 τ ∧ Below z w (wr.alloc (.cells #[] 3)) ∧ q ≤ (wr.alloc (.cells #[] 3)).heap.size from ⟨hl0, M.out.keep ez (by omega) (by omega) hq7 (by simp) (fun j _ hj => Below.heap_alloc wr _ j hj), BB.out.alloc (by have := SZ.out; omega) _, by have := SZ.out; simp; omega⟩)
                obtain ⟨w6, rfl⟩ : ∃ w6 : World, w6 = wr := ⟨_, rfl⟩
                clear hτ M BB hl0
                go_wp2
                go_loopw [10, 11] (fun v10 v11 wr => ∃ (j m c10 : Nat) (A10 : Option Addr), j ≤ i ∧ m ≤ j ∧ v10 = .slice A10 m c10 ∧ v11 = .int .i64 j ∧ Hid (q ≤ wr.heap.size) ∧ Hid (wr.ownsRow q 3 1 (.slice A10 m c10) m ((lst j (t : Int) τ).map (Value.int .i64))) ∧ Hid (MS wr z p5 p6 p7 q i c4 c7 A4 A7 τ) ∧ Hid (Below z w wr)) (fun _ v11 _ => i - (intOf v11).toNat)
                case atStart => exact ⟨0, 0, 0, _, Nat.zero_le _, Nat.le_refl _, rfl, rfl, hid HL0.out.2.2.2, hid (by simpa [lst, listP] using HL0.out.1), hid HL0.out.2.1, hid HL0.out.2.2.1⟩
                case round =>
                  obtain ⟨j, m, c10, A10, hj, hmj, rfl, rfl, SZ1, OL, M, BB⟩ := hrel
                  have hszl := SZ1.out
                  by_cases hji : j < i
                  · have hji' : (j : Int) < (i : Int) := by omega
                    obtain ⟨b7, o7, x7, rfl, hb7, hx7, hc7⟩ := RI.at_ (OwnI.ri M.out.out) hji
                    obtain ⟨e7, _⟩ := map_range_get hx7
                    obtain ⟨b5, o5, x5, e5', hb5, hx5, hc5⟩ := RI.at_ (OwnI.ri M.out.when) hji
                    obtain ⟨e5, _⟩ := map_range_get hx5
                    injection e5' with e5'
                    injection e5' with e51 e52 _
                    subst e51 e52
                    simp only [Nat.zero_add] at hc5
                    have hownL := OL.out
                    have HX := hid (And.intro e7 e5)
                    clear hx7 hx5 e7 e5
                    by_cases hp : x7 < 0 ∧ x5 = (t : Int)
                    · obtain ⟨hp7, rfl⟩ := hp
                      have hpe : pend (t : Int) (τ j) = true := pend_iff.2 ⟨by rw [← HX.out.1]; exact hp7, HX.out.2.symm⟩
                      have HPE := hid hpe
                      clear hpe
                      go_wp2_with (at_builtin; refine wpList_pushZ rfl _ _ _ rfl q 3 i0 _ 8 Try.underlying32 hi0 hz0 hz1 hz2 rfl (by omega) _ _ A10 m c10 _ rfl hownL wr.heap.size rfl rfl rfl (by omega) (by omega) ?_; intro g9 cap9 w9 hown9 hgrow9 hlies9 hlt9; have hb9 := grown_bel hownL hgrow9 (by omega); have H9 := hid (And.intro hown9 hb9); have hz9 := hgrow9.size; clear hown9 hgrow9 hlies9 hb9)
                      go_roundw
                      case rel => exact ⟨j + 1, m + 1, cap9, _, by omega, by omega, rfl, by go_num, hid (by omega), hid (by rw [lst_yes HPE.out, List.map_append]; exact H9.out.1), hid (M.out.keep ez (by omega) (by omega) hq7 (by omega) (fun j' h1 _ => H9.out.2.block j' h1)), hid (BB.out.trans (H9.out.2.mono (by omega)))⟩
                      case measure => simp [intOf]; omega
                    · have hpe : pend (t : Int) (τ j) = false := by
                        cases hq9 : pend (t : Int) (τ j) with
                        | false => rfl
                        | true =>
                          obtain ⟨h1, h2⟩ := pend_iff.1 hq9
                          exact absurd ⟨by rw [HX.out.1]; exact h1, by rw [HX.out.2]; exact h2⟩ hp
                      have HPE := hid hpe
                      clear hpe
                      by_cases hp7 : x7 < 0
                      · have hp5 : (x5 == (t : Int)) = false := by
                          have : x5 ≠ (t : Int) := fun e => hp ⟨hp7, e⟩
                          simp [this]
                        clear hp
                        go_wp2
                        go_roundw
                        case rel => exact ⟨j + 1, m, c10, A10, by omega, by omega, rfl, by go_num, SZ1, hid (by rw [lst_no HPE.out]; exact OL.out), M, BB⟩
                        case measure => simp [intOf]; omega
                      · clear hp
                        go_wp2
                        go_roundw
                        case rel => exact ⟨j + 1, m, c10, A10, by omega, by omega, rfl, by go_num, SZ1, hid (by rw [lst_no HPE.out]; exact OL.out), M, BB⟩
                        case measure => simp [intOf]; omega
                  · have hji2 : j = i := by omega
                    subst hji2
                    have HLN : Hid ((listP j (t : Int) τ).length = m) := hid (by have := OL.out.1; simpa [lst] using this)
                    have HND := hid (listP_nodup j (t : Int) τ)
                    have HM0 : Hid (MS wr z p5 p6 p7 q j c4 c7 A4 A7 (partS (listP j (t : Int) τ) (t : Int) τ 0)) := hid (by
                      have e : partS (listP j (t : Int) τ) (t : Int) τ 0 = τ := by funext k'; unfold partS; simp
                      rw [e]; exact M.out)
                    obtain ⟨w7, rfl⟩ : ∃ w7 : World, w7 = wr := ⟨_, rfl⟩
                    clear M
                    go_wp2
                    go_loopw [12] (fun v12 wr => ∃ u : Nat, u ≤ m ∧ v12 = .int .i64 u ∧ Hid (q ≤ wr.heap.size) ∧ Hid (wr.ownsRow q 3 1 (.slice A10 m c10) m ((lst j (t : Int) τ).map (Value.int .i64))) ∧ Hid (MS wr z p5 p6 p7 q j c4 c7 A4 A7 (partS (listP j (t : Int) τ) (t : Int) τ u)) ∧ Hid (Below z w wr)) (fun v12 _ => m - (intOf v12).toNat)
                    case atStart => exact ⟨0, Nat.zero_le _, rfl, SZ1, OL, HM0, BB⟩
                    case round =>
                      obtain ⟨u, hu, rfl, SZ2, OL2, M, BB2⟩ := hrel
                      have hszu := SZ2.out
                      by_cases hum : u < m
                      · have hum' : (u : Int) < (m : Int) := by omega
                        obtain ⟨b8, o8, x8, rfl, hb8, hx8, hc8⟩ := RI.at_ (show RI wr wr.heap.size A10 m (lst j (t : Int) τ) from OwnV.rv (ownV_of1 OL2.out)) hum
                        obtain ⟨kk, rfl, hlk, hkj, hpk⟩ := lst_get hx8
                        have hkj' : (kk : Int) < (j : Int) := by omega
                        have HLK := hid hlk
                        have HPS := hid ((partS_next (t := (t : Int)) (σ := τ) HND.out hlk).1)
                        have HPK := hid hpk
                        clear hx8 hlk hpk
                        by_cases hm1 : m = 1
                        · subst hm1
                          obtain ⟨g9, y9, rfl, hlo9, hhi9, hlt9, hy9, hcd, hfd, hst⟩ := OwnI.stored M.out.out hkj (t : Int)
                          have HNX : Hid (MS (wr.setCell ⟨g9, kk, none⟩ (.int .i64 (t : Int))) z p5 p6 p7 q j c4 c7 A4 (some ⟨g9, 0, none⟩) (partS (listP j (t : Int) τ) (t : Int) τ (u + 1))) := hid (by
                            have hu1 : ∀ s : Sd, updD (listP j (t : Int) τ).length (t : Int) s = winD (t : Int) s := fun s => by rw [HLN.out]; rfl
                            refine ⟨?_, ?_, ?_, ?_⟩
                            · have := part_same (n := j) (t := (t : Int)) (σ := τ) HND.out HLK.out (fun s => s.seed) (by rw [hu1]; rfl)
                              unfold seeds; rw [this]
                              exact OwnV.keep M.out.now (by simp [World.setCell]) (fun k' _ h2 _ => Below.heap_setCell _ _ _ _ (by simp only; omega))
                            · have := part_same (n := j) (t := (t : Int)) (σ := τ) HND.out HLK.out (fun s => s.wh) (by rw [hu1]; rfl)
                              unfold whs; rw [this]
                              exact OwnV.keep M.out.when (by simp [World.setCell]) (fun k' _ h2 _ => Below.heap_setCell _ _ _ _ (by simp only; omega))
                            · have := part_same (n := j) (t := (t : Int)) (σ := τ) HND.out HLK.out (fun s => s.f) (by rw [hu1]; rfl)
                              unfold fls; rw [this]
                              exact OwnV.keep M.out.fal (by simp [World.setCell]) (fun k' _ h2 _ => Below.heap_setCell _ _ _ _ (by simp only; omega))
                            · have := part_list (n := j) (t := (t : Int)) (σ := τ) HND.out HLK.out hkj (fun s => s.out)
                              unfold outs; rw [this, hu1]
                              exact hst)
                          have HOL3 : Hid ((wr.setCell ⟨g9, kk, none⟩ (.int .i64 (t : Int))).ownsRow q 3 1 (.slice (some ⟨b8, o8, none⟩) 1 c10) 1 ((lst j (t : Int) τ).map (Value.int .i64))) := hid (own_only OL2.out ((Only.refl g9 (g9 + 1) wr).setCell (p := ⟨g9, kk, none⟩) (Nat.le_refl _) (Nat.lt_succ_self _) _) (.inl (by omega)))
                          have HBB3 := hid (BB2.out.setCell (p := ⟨g9, kk, none⟩) (by simp only; omega) (.int .i64 (t : Int)))
                          clear hst hy9
                          go_wp2
                          go_roundw
                          case rel => exact ⟨u + 1, by omega, by go_num, hid (by simpa [World.setCell] using SZ2.out), hid HOL3.out, hid HNX.out, hid HBB3.out⟩
                          case measure => simp [intOf]; omega
                        · have hm1' : ((m : Int) == 1) = false := by simp; omega
                          have hgk := HGT.out kk hkj
                          have hkP := HPS.out
                          have ho0 := (pend_iff.1 HPK.out).1
                          obtain ⟨F, hF⟩ : ∃ F, (τ kk).f = F := ⟨_, rfl⟩
                          obtain ⟨SD, hSD⟩ : ∃ S, (τ kk).seed = S := ⟨_, rfl⟩
                          rw [hF, hSD] at hgk
                          obtain ⟨⟨gs0, gs1⟩, ⟨gf0, gf1⟩, _⟩ := hgk
                          obtain ⟨Y, hY⟩ : ∃ Y, nextSeed SD = Y := ⟨_, rfl⟩
                          have HNS := hid (nextSeed_spec SD)
                          have hyy := nextSeed_in gs0 gs1
                          rw [hY] at HNS hyy
                          obtain ⟨y0, y1⟩ := hyy
                          obtain ⟨M1, hM1⟩ : ∃ M, min (F + 1) 100 = M := ⟨_, rfl⟩
                          have hM1a : 1 ≤ M1 := by omega
                          have hM1b : M1 ≤ 100 := by omega
                          have HB := hid (backoff_spec Y M1)
                          have hbb := backoff_in y0 y1 hM1a hM1b
                          obtain ⟨Bk, hBk⟩ : ∃ B, backoff Y M1 = B := ⟨_, rfl⟩
                          rw [hBk] at HB hbb
                          obtain ⟨bb0, bb1⟩ := hbb
                          have hmi2 : (if 100 < F + 1 then (100 : Int) else F + 1) = M1 := by split <;> omega
                          have hup : updD (listP j (t : Int) τ).length (t : Int) (τ kk) = ⟨(t : Int) + 1 + Bk, Y, F + 1, (τ kk).out⟩ := by
                            unfold updD
                            rw [if_neg (by rw [HLN.out]; exact hm1)]
                            unfold failD
                            rw [hSD, hF, hY, hM1, hBk]
                          obtain ⟨g6, f0, eg6, _, _, hl6, hf0, hcd6, hfd6, _⟩ := OwnI.stored M.out.fal hkj (F + 1)
                          injection eg6 with eg6
                          injection eg6 with eg6 _ _
                          subst eg6
                          obtain ⟨g4, sd0, rfl, hlo4, hhi4, hl4, hs0, hcd4, hfd4, _⟩ := OwnI.stored M.out.now hkj Y
                          obtain ⟨g5, wh0, eg5, _, _, hl5, hw0, hcd5, hfd5, _⟩ := OwnI.stored M.out.when hkj ((t : Int) + 1 + Bk)
                          injection eg5 with eg5
                          injection eg5 with eg5 _ _
                          subst eg5
                          have ef0 : f0 = F := by have := (map_range_get hf0).1; rw [this, hkP]; exact hF
                          have es0 : sd0 = SD := by have := (map_range_get hs0).1; rw [this, hkP]; exact hSD
                          subst ef0 es0
                          have n46 : ¬ g4 = p6 := by omega
                          have n64 : ¬ p6 = g4 := by omega
                          have n45 : ¬ g4 = p5 := by omega
                          have n54 : ¬ p5 = g4 := by omega
                          have n56 : ¬ p5 = p6 := by omega
                          have n65 : ¬ p6 = p5 := by omega
                          have c4w : ((wr.setCell ⟨p6, kk, none⟩ (.int .i64 (f0 + 1))).setCell ⟨g4, kk, none⟩ (.int .i64 Y)).cell? ⟨g4, kk, none⟩ = some (.int .i64 Y) :=
                            World.cell?_setCell_same' _ _ _ (by rw [cell_far _ _ _ _ (by simp only; omega), hcd4]; rfl)
                          have c6w : ((wr.setCell ⟨p6, kk, none⟩ (.int .i64 (f0 + 1))).setCell ⟨g4, kk, none⟩ (.int .i64 Y)).cell? ⟨p6, kk, none⟩ = some (.int .i64 (f0 + 1)) := by
                            rw [cell_far _ _ _ _ (by simp only; omega)]
                            exact World.cell?_setCell_same' _ _ _ (by rw [hcd6]; rfl)
                          have c5w : ((wr.setCell ⟨p6, kk, none⟩ (.int .i64 (f0 + 1))).setCell ⟨g4, kk, none⟩ (.int .i64 Y)).cell? ⟨p5, kk, none⟩ = some (.int .i64 wh0) := by
                            rw [cell_far _ _ _ _ (by simp only; omega), cell_far _ _ _ _ (by simp only; omega)]
                            exact hcd5
                          have f5w : ((wr.setCell ⟨p6, kk, none⟩ (.int .i64 (f0 + 1))).setCell ⟨g4, kk, none⟩ (.int .i64 Y)).frozen? ⟨p5, kk, none⟩ = false := by
                            rw [World.frozen?_setCell, World.frozen?_setCell]; exact hfd5
                          have OO : Only z q wr (((wr.setCell ⟨p6, kk, none⟩ (.int .i64 (f0 + 1))).setCell ⟨g4, kk, none⟩ (.int .i64 Y)).drew.setCell ⟨p5, kk, none⟩ (.int .i64 ((t : Int) + 1 + Bk))) :=
                            ((((Only.refl z q wr).setCell (p := ⟨p6, kk, none⟩) (by simp only; omega) (by simp only; omega) _).setCell (p := ⟨g4, kk, none⟩) (by simp only; omega) (by simp only; omega) _).drew).setCell (p := ⟨p5, kk, none⟩) (by simp only; omega) (by simp only; omega) _
                          have HNX : Hid (MS (((wr.setCell ⟨p6, kk, none⟩ (.int .i64 (f0 + 1))).setCell ⟨g4, kk, none⟩ (.int .i64 Y)).drew.setCell ⟨p5, kk, none⟩ (.int .i64 ((t : Int) + 1 + Bk))) z p5 p6 p7 q j c4 c7 (some ⟨g4, 0, none⟩) A7 (partS (listP j (t : Int) τ) (t : Int) τ (u + 1))) := hid (by
                            have k1 : ∀ (w9 : World) (p : Addr) (v : Value) (k' : Nat), p.block ≠ k' → (w9.setCell p v).heap[k']? = w9.heap[k']? := fun w9 p v k' h => Below.heap_setCell _ _ _ _ (Ne.symm h)
                            have s1 : ∀ (w9 : World) (p : Addr) (v : Value), (w9.setCell p v).heap.size = w9.heap.size := fun w9 p v => by simp [World.setCell]
                            refine ⟨?_, ?_, ?_, ?_⟩
                            · have e := part_list (n := j) (t := (t : Int)) (σ := τ) HND.out HLK.out hkj (fun s => s.seed)
                              rw [hup] at e
                              unfold seeds; rw [e]
                              have o1 := own_set (own_keepV M.out.now (p := ⟨p6, kk, none⟩) (.inl (by simp only; omega)) (.int .i64 (f0 + 1))) hkj Y
                              exact own_keepV (own_drew o1) (p := ⟨p5, kk, none⟩) (.inl (by simp only; omega)) _
                            · have e := part_list (n := j) (t := (t : Int)) (σ := τ) HND.out HLK.out hkj (fun s => s.wh)
                              rw [hup] at e
                              unfold whs; rw [e]
                              exact own_set (own_drew (own_keepV (own_keepV M.out.when (p := ⟨p6, kk, none⟩) (.inl (by simp only; omega)) (.int .i64 (f0 + 1))) (p := ⟨g4, kk, none⟩) (.inl (by simp only; omega)) (.int .i64 Y))) hkj ((t : Int) + 1 + Bk)
                            · have e := part_list (n := j) (t := (t : Int)) (σ := τ) HND.out HLK.out hkj (fun s => s.f)
                              rw [hup] at e
                              unfold fls; rw [e]
                              exact own_keepV (own_drew (own_keepV (own_set M.out.fal hkj (f0 + 1)) (p := ⟨g4, kk, none⟩) (.inl (by simp only; omega)) (.int .i64 Y))) (p := ⟨p5, kk, none⟩) (.inl (by simp only; omega)) _
                            · have e := part_same (n := j) (t := (t : Int)) (σ := τ) HND.out HLK.out (fun s => s.out) (by rw [hup])
                              unfold outs; rw [e]
                              exact own_keepV (own_drew (own_keepV (own_keepV M.out.out (p := ⟨p6, kk, none⟩) (.inl (by simp only; omega)) (.int .i64 (f0 + 1))) (p := ⟨g4, kk, none⟩) (.inl (by simp only; omega)) (.int .i64 Y))) (p := ⟨p5, kk, none⟩) (.inl (by simp only; omega)) _)
                          have HOL3 := hid (own_only OL2.out OO (.inl (Nat.le_refl _)))
                          have HBB3 := hid (show Below z w (((wr.setCell ⟨p6, kk, none⟩ (.int .i64 (f0 + 1))).setCell ⟨g4, kk, none⟩ (.int .i64 Y)).drew.setCell ⟨p5, kk, none⟩ (.int .i64 ((t : Int) + 1 + Bk))) from BB2.out.trans (OO.below (Nat.le_refl _) (by omega)))
                          have HSZ3 := hid (Nat.le_trans SZ2.out OO.size)
                          have HCW := hid (And.intro c4w (And.intro c6w (And.intro c5w f5w)))
                          clear hF hSD hY hM1 hBk hup hf0 hs0 hw0 OO hkP ho0 c4w c6w c5w f5w
                          go_wp2_with fail
                          refine (HNS.out _).mono ?_
                          rintro e w_ ⟨rfl, rfl⟩
                          go_wp2_with fail
                          clear hcd6 hfd6 hcd4 hfd4 hcd5 hfd5 hc8 HNS
                          generalize (wr.setCell ⟨p6, kk, none⟩ (.int .i64 (f0 + 1))).setCell ⟨g4, kk, none⟩ (.int .i64 Y) = W at *
                          obtain ⟨c4w, c6w, c5w, f5w⟩ := HCW.out
                          go_still_tail 15, (by kernel_rfl)
                          still_call ((HB.out _).mono fun _ _ ⟨a, b⟩ => ⟨a, b.symm⟩)
                          repeat still_step
                          refine wpStill_nil ?_
                          change wpList _ _ _ _ _ W.drew
                          have c5' : W.drew.cell? ⟨p5, kk, none⟩ = some (.int .i64 wh0) := c5w
                          have f5' : W.drew.frozen? ⟨p5, kk, none⟩ = false := f5w
                          go_wp2
                          go_roundw
                          case rel => exact ⟨u + 1, by omega, by go_num, hid HSZ3.out, hid HOL3.out, hid HNX.out, hid HBB3.out⟩
                          case measure => simp [intOf]; omega
                      · have hum2 : u = m := by omega
                        subst hum2
                        have hum3 : ¬ (u : Int) < (u : Int) := by omega
                        have HFIN := hid (show MS wr z p5 p6 p7 q j c4 c7 A4 A7 (itS j σ (t + 1)) from by rw [HST.out, stepS, HLN.out]; exact M.out)
                        go_wp2
                        go_roundw
                        case rel => exact ⟨t + 1, by omega, by go_num, SZ2, hid HFIN.out, BB2⟩
                        case measure => simp [intOf]; omega
              · have ht2 : t = 400 := by omega
                subst ht2
                have HF : Hid (RetI 3 w (.returned (.slice A7 i c7)) wr (runI xs)) := hid (by
                  rw [HRUN.out]
                  exact ⟨_, _, _, rfl, OwnV.more M.out.out (by have := HZZ.out; omega) SZ.out, by rw [HZZ.out]; exact BB.out⟩)
                go_wp2
                go_ret
                exact HF.out
  · have HX := hid (runI_no (xs := xs) (fun hh => h8 (by rw [← HL.out]; exact hh.1)))
    have h8' : (8 : Int) < (n : Int) := by omega
    clear h
    go_enter Try.func25, Try.ntmps25
    go_wp2
    go_ret
    rw [HX.out]
    exact retI_lit0 _ _
end Go.Proofs.Ytnebmfdjcikegaa
