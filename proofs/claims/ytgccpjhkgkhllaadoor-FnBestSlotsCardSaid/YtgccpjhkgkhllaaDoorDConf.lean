/-
  The draw of a table of conflicts, walked: l20Conflicts.
-/
import Derived.Test.YtgccpjhkgkhllaaDoorDTab
import Derived.Test.YtgccpjhkgkhllaaDoorReg
import Derived.Test.YtgccpjhkgkhllaaDoorApp
import Derived.OpenShut
namespace Go.Proofs.YtgccpjhkgkhllaaDoor
open Go.RowKit
set_option linter.unusedVariables false

theorem infoRowT : (Tryd.prog.info? 26).map (fun i => (i.zero, i.size, i.bytes)) = some (some (.slice none 0 0), 1, 24) := by kernel_rfl
theorem infoBo : (Tryd.prog.info? 4).map (fun i => (i.zero, i.size, i.bytes)) = some (some (.bool false), 1, 1) := by kernel_rfl
/-- Of a table: all rows have n bools. -/
def SqT (n : Nat) (rows : List (List Bool)) : Prop := ∀ r ∈ rows, r.length = n
theorem SqT.at_ {n k : Nat} {rows : List (List Bool)} (h : SqT n rows) : ∀ vs, (rows.map fun r => r.map Value.bool)[k]? = some vs → vs.length = n := by
  intro vs hv
  rw [List.getElem?_map] at hv
  cases hx : rows[k]? with
  | none => rw [hx] at hv; simp at hv
  | some r => rw [hx] at hv; simp at hv; subst hv; rw [List.length_map]; exact h r (List.mem_of_getElem? hx)
theorem SqT.set {n : Nat} {rows : List (List Bool)} (h : SqT n rows) (k : Nat) {r : List Bool} (hr : r.length = n) : SqT n (rows.set k r) := by
  intro x hx
  rcases List.mem_or_eq_of_mem_set hx with h1 | h1
  · exact h x h1
  · rw [h1]; exact hr
theorem setTT (rows : List (List Bool)) (k : Nat) (r : List Bool) : (rows.map fun r => r.map Value.bool).set k (r.map Value.bool) = (rows.set k r).map fun r => r.map Value.bool := by rw [List.map_set]
theorem OwnTT.cellset {w : World} {t2 t : TypeId} {lo hi n c k j m : Nat} {A : Option Addr} {rows : List (List Bool)} (h : OwnTT w t2 t lo hi A n c rows) (hk : k < n) (hq : SqT m rows) (hj : j < m) (x : Bool) :
    ∃ g b c' y, A = some ⟨g, 0, none⟩ ∧ g ≠ b ∧ w.cell? ⟨g, k, none⟩ = some (.slice (some ⟨b, 0, none⟩) m c') ∧ m ≤ c' ∧ c' ≤ maxLen ∧ lo ≤ g ∧ lo ≤ b ∧ b < hi ∧ b < w.heap.size ∧ w.cell? ⟨b, j, none⟩ = some (.bool y) ∧ w.frozen? ⟨b, j, none⟩ = false ∧
      ∃ rows', OwnTT (w.setCell ⟨b, j, none⟩ (.bool x)) t2 t lo hi A n c rows' ∧ SqT m rows' := by
  obtain ⟨g, b, n', c', vs, y, e, hne, hvs, hc, hn', h1, h2, h3, h4, h5, h6, hy, hcy, hf, ho⟩ := OwnVV.cellset h hk (fun vs hv => by rw [hq.at_ vs hv]; exact hj) (.bool x)
  rw [List.getElem?_map] at hvs
  cases hx : rows[k]? with
  | none => rw [hx] at hvs; simp at hvs
  | some r =>
    rw [hx] at hvs
    simp at hvs
    subst hvs
    rw [List.getElem?_map] at hy
    cases hyy : r[j]? with
    | none => rw [hyy] at hy; simp at hy
    | some y' =>
      rw [hyy] at hy
      simp at hy
      subst hy
      rw [List.length_map] at hn'
      have hrm : r.length = m := hq r (List.mem_of_getElem? hx)
      subst hn'
      rw [hrm] at hc h1
      refine ⟨g, b, c', y', e, hne, hc, h1, h2, h3, h4, h5, h6, hcy, hf, rows.set k (r.set j x), ?_, hq.set k (by rw [List.length_set]; exact hrm)⟩
      rw [show (r.map Value.bool).set j (.bool x) = (r.set j x).map Value.bool from by rw [List.map_set], setTT] at ho
      exact ho
theorem givesTT_of {w w' : World} {t2 t : TypeId} {g q q' hi k cc : Nat} {AA : Option Addr} {rows : List (List Bool)} (tab : OwnVV w' t2 t w.heap.size hi AA k cc (rows.map fun r => r.map Value.bool)) (hhi : hi ≤ w'.heap.size) (d : DS w w' g q') (h1 : q ≤ q') (h2 : q' ≤ q + 1000) (hk : k ≤ 10) (hg : g < w.heap.size) : GivesTT 1000 g q w (.returned (.slice AA k cc)) w' :=
  ⟨AA, k, cc, rows, rfl, fun w2 ho => RVV.more (OwnVV.rvv (OwnVV.only tab ho (.inr (by omega)))) hhi, tab.cap, tab.capm, hk, ⟨q', h1, h2, d.rd⟩, d.only⟩
/-- A row is replaced by its rest. -/
theorem OwnVV.retail {w : World} {t2 t : TypeId} {lo hi n c k : Nat} {A : Option Addr} {vss : List (List Value)} (h : OwnVV w t2 t lo hi A n c vss) (hk : k < n) (h2 : ∀ vs, vss[k]? = some vs → 2 ≤ vs.length) :
    ∃ g b n' c' vs, A = some ⟨g, 0, none⟩ ∧ vss[k]? = some vs ∧ vs.length = n' ∧ lo ≤ g ∧ w.cell? ⟨g, k, none⟩ = some (.slice (some ⟨b, 0, none⟩) n' c') ∧ n' ≤ c' ∧ w.frozen? ⟨g, k, none⟩ = false ∧
      ∀ w2, w.heap.size ≤ w2.heap.size → (∀ j, lo ≤ j → j < hi → j < w.heap.size → w2.heap[j]? = (w.setCell ⟨g, k, none⟩ (.slice (some ⟨b, 1, none⟩) (n' - 1) (c' - 1))).heap[j]?) → RVV w2 hi A n (vss.set k (vs.drop 1)) := by
  obtain ⟨g, A', n', c', vs, rfl, g1, g2, hvs, hc, ho, hne, _⟩ := h.row hk
  obtain ⟨ds, k1, k2, k3, k4, k5⟩ := h
  have hl : ds.length = n := by simpa using k1.len
  have hd : ds[k]? = some (ds[k]'(by omega)) := List.getElem?_eq_getElem (by omega)
  have h2v := h2 vs hvs
  have hvl := ho.len
  obtain ⟨b, cs, rfl, b1, b2, hblk, hcs, hnc, hcm, htk⟩ := ho.blk (by omega)
  obtain ⟨g8, e8, _, _, _, hc8, hf8, hst⟩ := OwnV.stored k1 hk (.slice (some ⟨b, 1, none⟩) (n' - 1) (c' - 1))
  injection e8 with e8
  injection e8 with e8 _
  subst e8
  have hzs : (w.setCell ⟨g, k, none⟩ (.slice (some ⟨b, 1, none⟩) (n' - 1) (c' - 1))).heap.size = w.heap.size := by simp [World.setCell]
  refine ⟨g, b, n', c', vs, rfl, hvs, hvl, g1, hc, hnc, hf8, fun w2 hz2 hs2 => ?_⟩
  have kp : ∀ {t0 : TypeId} {A0 : Option Addr} {n0 c0 : Nat} {us : List Value}, OwnV (w.setCell ⟨g, k, none⟩ (.slice (some ⟨b, 1, none⟩) (n' - 1) (c' - 1))) t0 lo hi A0 n0 c0 us → OwnV w2 t0 lo hi A0 n0 c0 us :=
    fun h => OwnV.keep h (by rw [hzs]; exact hz2) (fun j h1 h2 h3 => hs2 j h1 h2 (by rw [hzs] at h3; exact h3))
  refine ⟨ds.set k (some ⟨b, 1, none⟩, n' - 1, c' - 1), ?_, by rw [List.length_set]; exact k2, ?_⟩
  · rw [List.map_set]; exact (kp hst).rv
  · intro j d vs' hdj hvj
    by_cases hjk : j = k
    · subst hjk
      rw [List.getElem?_set_self (by omega)] at hdj
      rw [List.getElem?_set_self (by have := (List.getElem?_eq_some_iff.1 hvs).1; exact this)] at hvj
      injection hdj with hdj; injection hvj with hvj
      subst hdj hvj
      refine ⟨?_, by show n' - 1 ≤ c' - 1; omega, by show c' - 1 ≤ maxLen; omega⟩
      have hrv := (kp (OwnV.far (p := ⟨g, j, none⟩) ho (fun a ha => hne a ha) _)).rv
      refine ⟨by rw [List.length_drop]; show vs.length - 1 = n' - 1; omega, fun hn => ⟨b, 1, rfl, b2, fun j u hu => ?_⟩⟩
      obtain ⟨b9, o9, e9, _, hc9⟩ := hrv.2 (by omega)
      injection e9 with e9
      injection e9 with e91 e92
      subst e91 e92
      rw [List.getElem?_drop] at hu
      have := hc9 (1 + j) u hu
      rw [Nat.zero_add] at this
      exact this
    · rw [List.getElem?_set_ne (by omega)] at hdj hvj
      have := k3 j d vs' hdj hvj
      exact ⟨(kp (OwnV.far (p := ⟨g, k, none⟩) this (fun a ha => k5 j d a ⟨g, 0, none⟩ hdj ha rfl) _)).rv, this.2.1, this.2.2.1⟩
set_option maxRecDepth 100000 in
set_option maxHeartbeats 3200000 in
theorem l20Conflicts_any (g q most : Nat) (bad : Int) (w : World) (h : Rd w g q) (hq : q ≤ 10000000) (hbad : bad ≤ 1000000000) (hmost : most ≤ 9) :
    Calls Tryd.prog 28 #[.pointer (some ⟨g, 0, none⟩), .int .i64 (most : Int), .int .i64 bad] w fun e w' => GivesTT 1000 g q w e w' := by
  obtain ⟨i1, hj0, hj1, hj2, hj3⟩ := info_parts infoRowT
  have hg := h.lt
  have ds0 := DS.start h
  have rmm : IntKind.i64.wrap ((most : Int) + 1) = (most : Int) + 1 := IntWalk.i64_in _ (by omega)
  clear h
  go_enter Tryd.func28, Tryd.ntmps28
  go_wp2_with fail
  refine (ds_pick ((most : Int) + 1) (ds0) (by omega)).mono ?_
  rintro e wx1 ⟨nn, rfl, hk_, dwx1, ho_, hs_⟩
  obtain ⟨nn0, nn1⟩ := hk_ (by omega)
  have zdwx1 := dwx1.size
  have ydwx1 := ho_.size
  clear hk_ ho_ hs_ ds0
  obtain ⟨N, rfl⟩ := Int.eq_ofNat_of_zero_le nn0
  have hN : N ≤ 9 := by omega
  have hmk := run_make_row' (P := Tryd.prog) 26 4 (.bool false) 1 Tryd.underlying26 infoBo rfl .i64 .i64 N (by omega) (by omega)
  clear rmm
  go_wp2_with fail
  refine (ds_pick 4 (dwx1) (by omega)).mono ?_
  rintro e wx2 ⟨dens, rfl, hk_, dwx2, ho_, hs_⟩
  obtain ⟨dens0, dens1⟩ := hk_ (by omega)
  have zdwx2 := dwx2.size
  have ydwx2 := ho_.size
  clear hk_ ho_ hs_ dwx1
  have tab : OwnTT (wx2.alloc (.cells #[] 26)) 26 4 w.heap.size (wx2.alloc (.cells #[] 26)).heap.size (some ⟨wx2.heap.size, 0, none⟩) 0 0 [] := ownVV_lit0 26 4 (by omega)
  have dsl := dwx2.alloc (.cells #[] 26)
  have HTD := hid (And.intro tab dsl)
  have HMK := hid hmk
  clear tab dsl hmk dwx2
  go_wp2_with fail
  go_loopw [9, 10] (fun v i wr => ∃ (k cc : Nat) (AA : Option Addr) (rows : List (List Bool)), k ≤ N ∧ i = .int .i64 k ∧ v = .slice AA k cc ∧ OwnTT wr 26 4 w.heap.size wr.heap.size AA k cc rows ∧ Hid (SqT N rows) ∧ DS w wr g (q + 1 + 1)) (fun _ i _ => N - (intOf i).toNat)
  case atStart => exact ⟨0, 0, _, [], Nat.zero_le _, rfl, rfl, HTD.out.1, hid (by intro r hr; simp at hr), HTD.out.2⟩
  case round =>
    clear HTD
    obtain ⟨k, cc, AA, rows, hk, rfl, rfl, tab, HSQ, ds1⟩ := hrel
    have zz1 := ds1.size
    have zg := ds1.lt
    by_cases hlt : k < N
    · obtain ⟨H, hH⟩ : ∃ H, wr.heap.size = H := ⟨_, rfl⟩
      have hmk := HMK.out
      have row : OwnT (wr.alloc (.cells (madeCells #[.bool false] N) 4)) 4 H (H + 1) (some ⟨wr.heap.size, 0, none⟩) N N (List.replicate N false) := ownV_blk (blk_made wr _ N false rfl) (by omega) (by omega) (by simp) (by unfold maxLen; omega)
      rw [hH] at tab row zz1 zg
      have hzm : (wr.alloc (.cells (madeCells #[.bool false] N) 4)).heap.size = H + 1 := by simp [hH]
      obtain ⟨us, hus, hpush⟩ := OwnVV.push (base := w.heap.size) (OwnVV.alloc tab (.cells (madeCells #[.bool false] N) 4)) row (Nat.le_refl _) (by omega) (Nat.le_of_eq hzm.symm) (Nat.le_refl _) (by omega)
      have HP := hid hpush
      have HSQ2 : Hid (SqT N (rows ++ [List.replicate N false])) := hid (by
        intro r hr
        rw [List.mem_append, List.mem_singleton] at hr
        rcases hr with hr | rfl
        · exact HSQ.out r hr
        · simp)
      have dsa := ds1.alloc (.cells (madeCells #[.bool false] N) 4)
      clear hpush tab row
      go_wp2_with (at_builtin; refine wpList_pushZ rfl _ _ _ rfl w.heap.size 26 i1 _ 24 Tryd.underlying23 hj0 hj1 hj2 hj3 rfl (by omega) _ _ AA k cc us rfl hus (H + 1) hzm.symm rfl rfl (by omega) (by omega) ?_; intro g_ cap_ w6 hown6 hgrow6 hlies6 hlt6)
      have d6 := dsa.grownG hus hgrow6 (by omega) (by omega) (by omega)
      have t6 := HP.out g_ cap_ w6 hown6 hgrow6 (by rcases hlies6 with h | h; exact .inl h; exact .inr (by omega)) hlt6
      have H6 := hid (And.intro t6 d6)
      clear t6 d6 hown6 hgrow6 hlies6 hus dsa ds1 hmk
      go_roundw
      case rel => exact ⟨k + 1, cap_, _, rows ++ [List.replicate N false], by omega, by go_num, rfl, by unfold OwnTT; rw [List.map_append]; exact H6.out.1, HSQ2, H6.out.2⟩
      case measure => simp [intOf]; omega
    · have hkn : k = N := by omega
      subst hkn
      obtain ⟨TH, hTH⟩ : ∃ TH, wr.heap.size = TH := ⟨_, rfl⟩
      rw [hTH] at tab zz1 zg
      have HTD := hid (And.intro tab (And.intro ds1 (Nat.le_of_eq hTH.symm)))
      clear tab ds1 hlt
      go_wp2_with fail
      go_loopw [11] (fun iv wr2 => ∃ (i q1 : Nat) (rows : List (List Bool)), i ≤ k ∧ iv = .int .i64 i ∧ OwnTT wr2 26 4 w.heap.size TH AA k cc rows ∧ Hid (SqT k rows) ∧ DS w wr2 g q1 ∧ q ≤ q1 ∧ q1 ≤ q + 2 + 10 * i ∧ TH ≤ wr2.heap.size) (fun iv _ => k - (intOf iv).toNat)
      case atStart => exact ⟨0, _, rows, Nat.zero_le _, rfl, HTD.out.1, HSQ, HTD.out.2.1, by omega, by omega, HTD.out.2.2⟩
      case round =>
        clear HTD HSQ
        obtain ⟨i, q1, rows, hi, rfl, tab, HSQ, ds2, hq1, hq2, hTz⟩ := hrel
        have zz2 := ds2.size
        obtain ⟨wo, hwo⟩ : ∃ wo : World, wo = wr := ⟨_, rfl⟩
        rw [← hwo] at tab ds2 hTz zz2
        subst hwo
        by_cases hilt : i < k
        · have HT2 := hid (And.intro tab ds2)
          clear tab ds2
          go_wp2_with fail
          go_loopw [12] (fun jv wr3 => ∃ (j q2 : Nat) (rows : List (List Bool)), j ≤ i ∧ jv = .int .i64 j ∧ OwnTT wr3 26 4 w.heap.size TH AA k cc rows ∧ Hid (SqT k rows) ∧ DS w wr3 g q2 ∧ q1 ≤ q2 ∧ q2 ≤ q1 + j ∧ TH ≤ wr3.heap.size) (fun jv _ => i - (intOf jv).toNat)
          case atStart => exact ⟨0, _, rows, Nat.zero_le _, rfl, HT2.out.1, HSQ, HT2.out.2, by omega, by omega, hTz⟩
          case round =>
            clear HT2 HSQ
            obtain ⟨j, q2, rows, hj, rfl, tab, HSQ, ds3, hq3, hq4, hTz3⟩ := hrel
            have zz3 := ds3.size
            by_cases hjlt : j < i
            · skip
              go_wp2_with fail
              refine (ds_pick 5 (ds3) (by omega)).mono ?_
              rintro e wx3 ⟨kp, rfl, hk_, dwx3, ho_, hs_⟩
              obtain ⟨kp0, kp1⟩ := hk_ (by omega)
              have ntab_ := OwnVV.only (tab) ho_ (.inr (by omega))
              clear tab; have tab := ntab_; clear ntab_
              have zdwx3 := dwx3.size
              have ydwx3 := ho_.size
              clear hk_ ho_ hs_ ds3
              obtain ⟨V, hV⟩ : ∃ V : Bool, decide (kp < 1 + dens) = V := ⟨_, rfl⟩
              obtain ⟨gt, b1, ca, y1, rfl, hne1, hcl1, a1, a2, a3, a4, a5, a6, hcy1, hf1, rows1, ho1, hsq1⟩ := OwnTT.cellset (k := i) (j := j) tab (by omega) HSQ.out (by omega) V
              have ds4 := dwx3.stored (b := b1) (k := j) (by omega) (by omega) (.bool V)
              obtain ⟨gt2, b2, cb, y2, egt, hne2, hcl2, e1, e2, e3, e4, e5, e6, hcy2, hf2, rows2, ho2, hsq2⟩ := OwnTT.cellset (k := j) (j := i) ho1 (by omega) hsq1 (by omega) V
              injection egt with egt
              injection egt with egt _
              subst egt
              have ds5 := ds4.stored (b := b2) (k := i) (by omega) (by omega) (.bool V)
              have H5 := hid (And.intro ho2 (And.intro ds5 hsq2))
              have hz9 : ((wx3.setCell ⟨b1, j, none⟩ (.bool V)).setCell ⟨b2, i, none⟩ (.bool V)).heap.size = wx3.heap.size := by simp [World.setCell]
              have hz10 : TH ≤ ((wx3.setCell ⟨b1, j, none⟩ (.bool V)).setCell ⟨b2, i, none⟩ (.bool V)).heap.size := by omega
              have hi0 : (0 : Int) ≤ (i : Int) := by omega
              have hj0' : (0 : Int) ≤ (j : Int) := by omega
              have hik : (i : Int) < (k : Int) := by omega
              have hjk : (j : Int) < (k : Int) := by omega
              clear tab ho1 ho2 ds4 ds5 hsq1 hsq2 hz9 dwx3
              go_wp2_with fail
              go_roundw
              case rel => exact ⟨j + 1, q2 + 1, rows2, by omega, by go_num, H5.out.1, hid H5.out.2.2, H5.out.2.1, by omega, by omega, hz10⟩
              case measure => simp [intOf]; omega
            · have hji : j = i := by omega
              subst hji
              have H5 := hid (And.intro tab ds3)
              clear tab ds3
              go_wp2
              go_roundw
              case rel => exact ⟨j + 1, q2, rows, by omega, by go_num, H5.out.1, HSQ, H5.out.2, by omega, by omega, hTz3⟩
              case measure => simp [intOf]; omega
        · have hik : i = k := by omega
          subst hik
          have hTz := hTz
          by_cases hn1 : 1 < i
          · skip
            go_wp2_with fail
            refine (ds_odd bad (ds2) (by omega) (by omega)).mono ?_
            rintro e wx4 ⟨bwx4, rfl, ⟨qwx4, qwx4l, qwx4u, dwx4⟩, ho_, hs_⟩
            have ntab_ := OwnVV.only (tab) ho_ (.inr (by omega))
            clear tab; have tab := ntab_; clear ntab_
            have zdwx4 := dwx4.size
            have ydwx4 := ho_.size
            clear ho_ hs_ ds2
            cases bwx4
            · skip
              have HF := hid (givesTT_of (q := q) tab (by omega) dwx4 (by omega) (by omega) (by omega) hg)
              clear tab dwx4 
              go_wp2
              go_ret
              exact HF.out
            · skip
              go_wp2_with fail
              refine (ds_pick 3 (dwx4) (by omega)).mono ?_
              rintro e wx5 ⟨kk, rfl, hk_, dwx5, ho_, hs_⟩
              obtain ⟨kk0, kk1⟩ := hk_ (by omega)
              have ntab_ := OwnVV.only (tab) ho_ (.inr (by omega))
              clear tab; have tab := ntab_; clear ntab_
              have zdwx5 := dwx5.size
              have ydwx5 := ho_.size
              clear hk_ ho_ hs_ dwx4
              rcases (show kk = 0 ∨ kk = 1 ∨ kk = 2 by omega) with rfl | rfl | rfl
              · skip
                obtain ⟨gt, b1, ca, y1, rfl, hne1, hcl1, a1, a2, a3, a4, a5, a6, hcy1, hf1, rows1, ho1, hsq1⟩ := OwnTT.cellset (k := 0) (j := 0) tab (by omega) HSQ.out (by omega) true
                have hn0 : 0 < i := by omega
                have ds4 := dwx5.stored (b := b1) (k := 0) (by omega) (by omega) (.bool true)
                clear tab dwx5
                have HF := hid (givesTT_of (q := q) ho1 (by simp [World.setCell]; omega) ds4 (by omega) (by omega) (by omega) hg)
                clear ho1 ds4 
                go_wp2
                go_ret
                exact HF.out
              · skip
                obtain ⟨gt, b1, ca, y1, rfl, hne1, hcl1, a1, a2, a3, a4, a5, a6, hcy1, hf1, rows1, ho1, hsq1⟩ := OwnTT.cellset (k := 0) (j := 1) tab (by omega) HSQ.out (by omega) true
                clear ho1 hsq1
                obtain ⟨_, _, _, y2, e9, _, hcl2, _, _, _, _, _, _, hcy2, _, rows2, ho2, _⟩ := OwnTT.cellset (k := 0) (j := 1) tab (by omega) HSQ.out (by omega) (!y1)
                injection e9 with e9
                injection e9 with e9 _
                subst e9
                rw [hcl1] at hcl2
                injection hcl2 with hcl2
                injection hcl2 with e1 e2 e3
                injection e1 with e1
                injection e1 with e1 _
                subst e1
                clear hcy2
                have hn0 : 0 < i := by omega
                have ds4 := dwx5.stored (b := b1) (k := 1) (by omega) (by omega) (.bool (!y1))
                clear tab dwx5
                have HF := hid (fun m => givesTT_of (q := q) (w' := (wx5.drewN m).setCell ⟨b1, 1, none⟩ (.bool (!y1))) ho2 (by simp [World.setCell]; omega) ⟨ds4.rd, ⟨ds4.only.os, ds4.only.tape, ds4.only.output, ds4.only.size, ds4.only.block⟩⟩ (by omega) (by omega) (by omega) hg)
                clear ho2 ds4
                go_wp2
                go_region
                all_goals
                  go_wp2
                  go_ret
                  exact HF.out _
              · skip
                obtain ⟨I1, hI1⟩ : ∃ I1, i = I1 + 1 := ⟨i - 1, by omega⟩
                obtain ⟨gt, b1, n', c', vs, rfl, hvs, hvl, a1, hcl, hnc', hfz, hrt⟩ := OwnVV.retail (k := I1) tab (by omega) (fun vs hv => by rw [HSQ.out.at_ vs hv]; omega)
                have hn' : n' = i := by rw [← hvl]; exact HSQ.out.at_ vs hvs
                obtain ⟨rows9, hrows9⟩ : ∃ rows9 : List (List Bool), (rows.map fun r => r.map Value.bool).set I1 (vs.drop 1) = rows9.map fun r => r.map Value.bool := by
                  rw [List.getElem?_map] at hvs
                  cases hx : rows[I1]? with
                  | none => rw [hx] at hvs; simp at hvs
                  | some r =>
                    rw [hx] at hvs
                    simp at hvs
                    subst hvs
                    exact ⟨rows.set I1 (r.drop 1), by rw [← List.map_drop, setTT]⟩
                rw [hrows9, hn'] at hrt
                rw [hn'] at hcl hnc'
                have hcap := tab.cap
                have hcapm := tab.capm
                have r1 : (i : Int) - 1 = (I1 : Int) := by omega
                have r2 : IntKind.i64.wrap (I1 : Int) = (I1 : Int) := IntWalk.i64_in _ (by omega)
                have r3 : (I1 : Int) < (i : Int) := by omega
                have r4 : (0 : Int) ≤ (I1 : Int) := by omega
                have r5 : (1 : Int) ≤ (i : Int) := by omega
                have hc1 : ¬ c' = 1 := by omega
                have ds4 := dwx5.stored (b := gt) (k := I1) (by omega) (by omega) (.slice (some ⟨b1, 1, none⟩) (i - 1) (c' - 1))
                have HF := hid (show GivesTT 1000 g q w (.returned (.slice (some ⟨gt, 0, none⟩) i cc)) (wx5.setCell ⟨gt, I1, none⟩ (.slice (some ⟨b1, 1, none⟩) (i - 1) (c' - 1))) from ⟨_, _, _, rows9, rfl, fun w2 ho => RVV.more (hrt w2 (by have := ho.size; simpa [World.setCell] using this) (fun j h1 h2 h3 => ho.block j (by simpa [World.setCell] using h3) (by omega))) (by simp [World.setCell]; omega), hcap, hcapm, by omega, ⟨_, by omega, by omega, ds4.rd⟩, ds4.only⟩)
                clear tab hrt ds4 dwx5 hI1 hvs hvl hn' hrows9
                go_wp2
                go_ret
                exact HF.out
          · skip
            have HF := hid (givesTT_of (q := q) tab (by omega) ds2 (by omega) (by omega) (by omega) hg)
            clear tab ds2 
            go_wp2
            go_ret
            exact HF.out
end Go.Proofs.YtgccpjhkgkhllaaDoor
