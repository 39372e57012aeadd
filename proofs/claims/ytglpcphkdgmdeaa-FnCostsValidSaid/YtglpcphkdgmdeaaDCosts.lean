/-
  The draw of a table of costs, walked: l20Costs.
-/
import Derived.Test.YtglpcphkdgmdeaaDTab
import Derived.Test.YtglpcphkdgmdeaaReg
import Derived.OpenShut
namespace Go.Proofs.Ytglpcphkdgmdeaa
open Go.RowKit
set_option linter.unusedVariables false

theorem infoRowD : (Try.prog.info? 30).map (fun i => (i.zero, i.size, i.bytes)) = some (some (.slice none 0 0), 1, 24) := by kernel_rfl
/-- Of a table: all rows have n ints. -/
def Sq (n : Nat) (rows : List (List Int)) : Prop := ∀ r ∈ rows, r.length = n
theorem Sq.at_ {n k : Nat} {rows : List (List Int)} (h : Sq n rows) : ∀ vs, (rows.map fun r => r.map (Value.int .i64))[k]? = some vs → vs.length = n := by
  intro vs hv
  rw [List.getElem?_map] at hv
  cases hx : rows[k]? with
  | none => rw [hx] at hv; simp at hv
  | some r => rw [hx] at hv; simp at hv; subst hv; rw [List.length_map]; exact h r (List.mem_of_getElem? hx)
theorem Sq.set {n : Nat} {rows : List (List Int)} (h : Sq n rows) (k : Nat) {r : List Int} (hr : r.length = n) : Sq n (rows.set k r) := by
  intro x hx
  rcases List.mem_or_eq_of_mem_set hx with h1 | h1
  · exact h x h1
  · rw [h1]; exact hr
theorem setII (rows : List (List Int)) (k : Nat) (r : List Int) : (rows.map fun r => r.map (Value.int .i64)).set k (r.map (Value.int .i64)) = (rows.set k r).map fun r => r.map (Value.int .i64) := by rw [List.map_set]
theorem OwnII.cellset {w : World} {t2 t : TypeId} {lo hi n c k j m : Nat} {A : Option Addr} {rows : List (List Int)} (h : OwnII w t2 t lo hi A n c rows) (hk : k < n) (hq : Sq m rows) (hj : j < m) (x : Int) :
    ∃ g b c' y, A = some ⟨g, 0, none⟩ ∧ g ≠ b ∧ w.cell? ⟨g, k, none⟩ = some (.slice (some ⟨b, 0, none⟩) m c') ∧ m ≤ c' ∧ c' ≤ maxLen ∧ lo ≤ g ∧ lo ≤ b ∧ b < hi ∧ b < w.heap.size ∧ w.cell? ⟨b, j, none⟩ = some (.int .i64 y) ∧ w.frozen? ⟨b, j, none⟩ = false ∧
      ∃ rows', OwnII (w.setCell ⟨b, j, none⟩ (.int .i64 x)) t2 t lo hi A n c rows' ∧ Sq m rows' := by
  obtain ⟨g, b, n', c', vs, y, e, hne, hvs, hc, hn', h1, h2, h3, h4, h5, h6, hy, hcy, hf, ho⟩ := OwnVV.cellset h hk (fun vs hv => by rw [hq.at_ vs hv]; exact hj) (.int .i64 x)
  rw [List.getElem?_map] at hvs
  cases hx : rows[k]? with
  | none => rw [hx] at hvs; simp at hvs
  | some r =>
    rw [hx] at hvs
    simp at hvs
    subst hvs
    rw [List.getElem?_map] at hy
    cases hyy : r[j]? with
    | none => rw [hyy] at hy; simp at hy
    | some y' =>
      rw [hyy] at hy
      simp at hy
      subst hy
      rw [List.length_map] at hn'
      have hrm : r.length = m := hq r (List.mem_of_getElem? hx)
      subst hn'
      rw [hrm] at hc h1
      refine ⟨g, b, c', y', e, hne, hc, h1, h2, h3, h4, h5, h6, hcy, hf, rows.set k (r.set j x), ?_, hq.set k (by rw [List.length_set]; exact hrm)⟩
      rw [show (r.map (Value.int .i64)).set j (.int .i64 x) = (r.set j x).map (Value.int .i64) from by rw [List.map_set], setII] at ho
      exact ho

theorem gives_of {w w' : World} {t2 t : TypeId} {g q q' hi k cc : Nat} {AA : Option Addr} {rows : List (List Int)} (tab : OwnVV w' t2 t w.heap.size hi AA k cc (rows.map fun r => r.map (Value.int .i64))) (hhi : hi ≤ w'.heap.size) (d : DS w w' g q') (h1 : q ≤ q') (h2 : q' ≤ q + 1000) (hk : k ≤ 10) : GivesII 1000 g q w (.returned (.slice AA k cc)) w' :=
  ⟨AA, k, cc, rows, rfl, RVV.more (OwnVV.rvv tab) hhi, tab.cap, tab.capm, hk, ⟨q', h1, h2, d.rd⟩, d.only⟩
theorem gives_ofV {w w' : World} {t2 t : TypeId} {g q q' hi k cc : Nat} {AA : Option Addr} {vss : List (List Value)} (tab : OwnVV w' t2 t w.heap.size hi AA k cc vss) (hhi : hi ≤ w'.heap.size) (d : DS w w' g q') (h1 : q ≤ q') (h2 : q' ≤ q + 1000) (hk : k ≤ 10) (hv : ∃ rows : List (List Int), vss = rows.map fun r => r.map (Value.int .i64)) : GivesII 1000 g q w (.returned (.slice AA k cc)) w' := by
  obtain ⟨rows, rfl⟩ := hv
  exact gives_of tab hhi d h1 h2 hk
theorem rowsI_set {vs : List Value} (rows : List (List Int)) (k : Nat) (y : Int) (hv : (rows.map fun r => r.map (Value.int .i64))[k]? = some vs) : ∃ rows' : List (List Int), (rows.map fun r => r.map (Value.int .i64)).set k (vs ++ [.int .i64 y]) = rows'.map fun r => r.map (Value.int .i64) := by
  rw [List.getElem?_map] at hv
  cases hx : rows[k]? with
  | none => rw [hx] at hv; simp at hv
  | some r =>
    rw [hx] at hv
    simp at hv
    subst hv
    exact ⟨rows.set k (r ++ [y]), by rw [List.map_set, List.map_append]; rfl⟩
/-- What is known while the last region of l20Costs is carried out. -/
def CostS (w : World) (t2 t : TypeId) (g q q0 TH H gt b k cc c' : Nat) (c : Nat) (W : World) : Prop :=
  ∃ qq rr, q ≤ qq ∧ qq ≤ q0 + c ∧ DS w W g qq ∧ OwnII W t2 t w.heap.size TH (some ⟨gt, 0, none⟩) k cc rr ∧ Sq k rr ∧ W.cell? ⟨gt, 0, none⟩ = some (.slice (some ⟨b, 0, none⟩) k c') ∧ H ≤ W.heap.size
section
variable {w W : World} {t2 t : TypeId} {g q q0 TH H gt b k cc c' c : Nat}
theorem CostS.step (h : CostS w t2 t g q q0 TH H gt b k cc c' c W) : CostS w t2 t g q q0 TH H gt b k cc c' (c + 1) W := by
  obtain ⟨qq, rr, h1, h2, h3⟩ := h
  exact ⟨qq, rr, h1, by omega, h3⟩
theorem CostS.drew (h : CostS w t2 t g q q0 TH H gt b k cc c' c W) : CostS w t2 t g q q0 TH H gt b k cc c' c W.drew := by
  obtain ⟨qq, rr, h1, h2, h3, h4⟩ := h
  exact ⟨qq, rr, h1, h2, h3.drew, h4⟩
theorem CostS.cell (h : CostS w t2 t g q q0 TH H gt b k cc c' c W) : W.cell? ⟨gt, 0, none⟩ = some (.slice (some ⟨b, 0, none⟩) k c') := by
  obtain ⟨qq, rr, h1, h2, h3, h4, h5, h6, _⟩ := h
  exact h6
theorem CostS.size (h : CostS w t2 t g q q0 TH H gt b k cc c' c W) : H ≤ W.heap.size := by
  obtain ⟨qq, rr, h1, h2, h3, h4, h5, h6, h7⟩ := h
  exact h7
theorem CostS.alloc (h : CostS w t2 t g q q0 TH H gt b k cc c' c W) (o : Obj) (hg : gt < W.heap.size) : CostS w t2 t g q q0 TH H gt b k cc c' (c + 1) (W.alloc o) := by
  obtain ⟨qq, rr, h1, h2, h3, h4, h5, h6, h7⟩ := h
  exact ⟨qq, rr, h1, by omega, h3.alloc o, OwnVV.alloc h4 o, h5, (World.cell?_alloc_lt W o _ hg).trans h6, by simp; omega⟩
end
set_option maxRecDepth 100000 in
set_option maxHeartbeats 3200000 in
theorem l20Costs_any (g q : Nat) (bad : Int) (w : World) (h : Rd w g q) (hq : q ≤ 10000000) (hbad : bad ≤ 1000000000) :
    Calls Try.prog 21 #[.pointer (some ⟨g, 0, none⟩), .int .i64 bad] w fun e w' => GivesII 1000 g q w e w' := by
  obtain ⟨i0, hi0, hz0, hz1, hz2⟩ := info_parts infoDr
  obtain ⟨i1, hj0, hj1, hj2, hj3⟩ := info_parts infoRowD
  have hg := h.lt
  have ds0 := DS.start h
  clear h
  go_enter Try.func21, Try.ntmps21
  go_wp2_with fail
  refine (ds_pick 7 (ds0) (by omega)).mono ?_
  rintro e wx1 ⟨many, rfl, hk_, dwx1, ho_, hs_⟩
  obtain ⟨many0, many1⟩ := hk_ (by omega)
  have zdwx1 := dwx1.size
  have ydwx1 := ho_.size
  clear hk_ ho_ hs_ ds0
  obtain ⟨N, hN⟩ : ∃ N : Nat, 1 + many = (N : Int) := ⟨(1 + many).toNat, by omega⟩
  have hN1 : 1 ≤ N := by omega
  have hN2 : N ≤ 7 := by omega
  have rm1 : IntKind.i64.wrap (N : Int) = (N : Int) := IntWalk.i64_in _ (by omega)
  go_wp2_with fail
  refine (ds_pick 4 (dwx1) (by omega)).mono ?_
  rintro e wx2 ⟨dens, rfl, hk_, dwx2, ho_, hs_⟩
  obtain ⟨dens0, dens1⟩ := hk_ (by omega)
  have zdwx2 := dwx2.size
  have ydwx2 := ho_.size
  clear hk_ ho_ hs_ dwx1
  have tab : OwnII (wx2.alloc (.cells #[] 30)) 30 3 w.heap.size (wx2.alloc (.cells #[] 30)).heap.size (some ⟨wx2.heap.size, 0, none⟩) 0 0 [] := ownVV_lit0 30 3 (by omega)
  have dsl := dwx2.alloc (.cells #[] 30)
  have HTD := hid (And.intro tab dsl)
  clear tab dsl hN many0 many1 dwx2
  go_wp2_with fail
  go_loopw [7, 8] (fun v i wr => ∃ (k cc q1 : Nat) (AA : Option Addr) (rows : List (List Int)), k ≤ N ∧ i = .int .i64 k ∧ v = .slice AA k cc ∧ OwnII wr 30 3 w.heap.size wr.heap.size AA k cc rows ∧ Hid (Sq (N) rows) ∧ DS w wr g q1 ∧ q ≤ q1 ∧ q1 ≤ q + 2 + 32 * k) (fun _ i _ => N - (intOf i).toNat)
  case atStart => exact ⟨0, 0, _, _, [], Nat.zero_le _, rfl, rfl, HTD.out.1, hid (by intro r hr; simp at hr), HTD.out.2, by omega, by omega⟩
  case round =>
    clear HTD
    obtain ⟨k, cc, q1, AA, rows, hk, rfl, rfl, tab, HSQ, ds1, hq1, hq2⟩ := hrel
    have zz1 := ds1.size
    have zg := ds1.lt
    by_cases hlt : k < N
    · obtain ⟨wo, hwo⟩ : ∃ wo : World, wo = wr := ⟨_, rfl⟩
      obtain ⟨H, hH⟩ : ∃ H, wo.heap.size = H := ⟨_, rfl⟩
      rw [← hwo] at tab ds1 zz1 zg
      rw [hH] at tab zz1 zg
      have row0 : Mine (wo.alloc (.cells #[] 3)) H (some ⟨wo.heap.size, 0, none⟩) 0 0 [] := mine_lit0 wo (by omega)
      rw [hH] at row0
      have HT0 := hid (And.intro row0 (And.intro (ds1.alloc (.cells #[] 3)) (OwnVV.alloc tab (.cells #[] 3))))
      have hH2 : H ≤ (wo.alloc (.cells #[] 3)).heap.size := by simp; omega
      clear row0 ds1 tab
      subst hwo
      go_wp2_with fail
      go_loopw [9, 10] (fun v j wr2 => ∃ (m c2 q2 : Nat) (A2 : Option Addr) (ys : List Int), m ≤ N ∧ j = .int .i64 m ∧ v = .slice A2 m c2 ∧ Mine wr2 H A2 m c2 ys ∧ OwnII wr2 30 3 w.heap.size H AA k cc rows ∧ DS w wr2 g q2 ∧ H ≤ wr2.heap.size ∧ q1 ≤ q2 ∧ q2 ≤ q1 + 2 * m) (fun _ j _ => N - (intOf j).toNat)
      case atStart => exact ⟨0, 0, _, _, [], Nat.zero_le _, rfl, rfl, HT0.out.1, HT0.out.2.2, HT0.out.2.1, hH2, by omega, by omega⟩
      case round =>
        clear HT0
        obtain ⟨m, c2, q2, A2, ys, hm, rfl, rfl, row, tab, ds2, hH3, hq3, hq4⟩ := hrel
        have zz2 := ds2.size
        by_cases hmt : m < N
        · by_cases hkm : k = m
          · subst hkm
            have he : ((k : Int) != (k : Int)) = false := by simp
            go_wp2_with (at_builtin; refine wpList_push rfl _ _ _ rfl H 3 i0 _ 8 Try.underlying30 hi0 hz0 hz1 hz2 rfl (by omega) _ _ A2 k c2 _ rfl row rfl rfl (by omega) (by omega) ?_; intro g_wx3 cap_wx3 wx3 hown_ hgrow_ hlies_ hlt_)
            have dwx3 := ds2.grownG row hgrow_ (by omega) (by omega) (by omega)
            have hb_ := grown_bel row hgrow_ (by omega)
            have ntab_ := OwnVV.below (tab) hb_ (Nat.le_refl _)
            clear tab; have tab := ntab_; clear ntab_
            have nrow_ : Mine wx3 H (some ⟨g_wx3, 0, none⟩) (k + 1) cap_wx3 (ys ++ [0]) := by unfold Mine; rw [List.map_append]; exact hown_
            clear row hown_ hgrow_ hlies_ hb_ ds2; have row := nrow_; clear nrow_
            have zdwx3 := dwx3.size
            have hHH : H ≤ wx3.heap.size := by have := (OwnV.addr (row.own) rfl); omega
            go_roundw
            case rel => exact ⟨k + 1, cap_wx3, _, _, ys ++ [0], by omega, by go_num, rfl, row, tab, dwx3, by omega, by omega, by omega⟩
            case measure => simp [intOf]; omega
          · have he : ((k : Int) != (m : Int)) = true := by simp; omega
            go_wp2_with fail
            refine (ds_pick 5 (ds2) (by omega)).mono ?_
            rintro e wx4 ⟨kp, rfl, hk_, dwx4, ho_, hs_⟩
            obtain ⟨kp0, kp1⟩ := hk_ (by omega)
            have nrow_ := Mine.only (row) ho_ (by omega)
            clear row; have row := nrow_; clear nrow_
            have ntab_ := OwnVV.only (tab) ho_ (.inr (by omega))
            clear tab; have tab := ntab_; clear ntab_
            have zdwx4 := dwx4.size
            have ydwx4 := ho_.size
            clear hk_ ho_ hs_ ds2
            by_cases hkd : kp < 1 + dens
            · skip
              go_wp2_with fail
              refine (ds_pick 20 (dwx4) (by omega)).mono ?_
              rintro e wx5 ⟨kv, rfl, hk_, dwx5, ho_, hs_⟩
              obtain ⟨kv0, kv1⟩ := hk_ (by omega)
              have nrow_ := Mine.only (row) ho_ (by omega)
              clear row; have row := nrow_; clear nrow_
              have ntab_ := OwnVV.only (tab) ho_ (.inr (by omega))
              clear tab; have tab := ntab_; clear ntab_
              have zdwx5 := dwx5.size
              have ydwx5 := ho_.size
              clear hk_ ho_ hs_ dwx4
              have rv : IntKind.i64.wrap (1 + kv) = 1 + kv := IntWalk.i64_in _ (by omega)
              go_wp2_with (at_builtin; refine wpList_push rfl _ _ _ rfl H 3 i0 _ 8 Try.underlying30 hi0 hz0 hz1 hz2 rfl (by omega) _ _ A2 m c2 _ rfl row rfl rfl (by omega) (by omega) ?_; intro g_wx6 cap_wx6 wx6 hown_ hgrow_ hlies_ hlt_)
              have dwx6 := dwx5.grownG row hgrow_ (by omega) (by omega) (by omega)
              have hb_ := grown_bel row hgrow_ (by omega)
              have ntab_ := OwnVV.below (tab) hb_ (Nat.le_refl _)
              clear tab; have tab := ntab_; clear ntab_
              have nrow_ : Mine wx6 H (some ⟨g_wx6, 0, none⟩) (m + 1) cap_wx6 (ys ++ [(1 + kv)]) := by unfold Mine; rw [List.map_append]; exact hown_
              clear row hown_ hgrow_ hlies_ hb_ dwx5; have row := nrow_; clear nrow_
              have zdwx6 := dwx6.size
              have hHH : H ≤ wx6.heap.size := by have := (OwnV.addr (row.own) rfl); omega
              go_roundw
              case rel => exact ⟨m + 1, cap_wx6, _, _, ys ++ [(1 + kv)], by omega, by go_num, rfl, row, tab, dwx6, by omega, by omega, by omega⟩
              case measure => simp [intOf]; omega
            · skip
              go_wp2_with (at_builtin; refine wpList_push rfl _ _ _ rfl H 3 i0 _ 8 Try.underlying30 hi0 hz0 hz1 hz2 rfl (by omega) _ _ A2 m c2 _ rfl row rfl rfl (by omega) (by omega) ?_; intro g_wx7 cap_wx7 wx7 hown_ hgrow_ hlies_ hlt_)
              have dwx7 := dwx4.grownG row hgrow_ (by omega) (by omega) (by omega)
              have hb_ := grown_bel row hgrow_ (by omega)
              have ntab_ := OwnVV.below (tab) hb_ (Nat.le_refl _)
              clear tab; have tab := ntab_; clear ntab_
              have nrow_ : Mine wx7 H (some ⟨g_wx7, 0, none⟩) (m + 1) cap_wx7 (ys ++ [0]) := by unfold Mine; rw [List.map_append]; exact hown_
              clear row hown_ hgrow_ hlies_ hb_ dwx4; have row := nrow_; clear nrow_
              have zdwx7 := dwx7.size
              have hHH : H ≤ wx7.heap.size := by have := (OwnV.addr (row.own) rfl); omega
              go_roundw
              case rel => exact ⟨m + 1, cap_wx7, _, _, ys ++ [0], by omega, by go_num, rfl, row, tab, dwx7, by omega, by omega, by omega⟩
              case measure => simp [intOf]; omega
        · have hmn : m = N := by omega
          subst hmn
          have hpl : ys.length = m := row.len
          obtain ⟨us, hus, hpush⟩ := OwnVV.push (base := w.heap.size) tab (row.own) (Nat.le_refl _) (by omega) (Nat.le_refl _) (Nat.le_refl _) hH3
          have HP := hid hpush
          have HSQ2 : Hid (Sq m (rows ++ [ys])) := hid (by
            intro r hr
            rw [List.mem_append, List.mem_singleton] at hr
            rcases hr with hr | rfl
            · exact HSQ.out r hr
            · exact hpl)
          clear hpush tab
          go_wp2_with (at_builtin; refine wpList_pushZ rfl _ _ _ rfl w.heap.size 30 i1 _ 24 Try.underlying22 hj0 hj1 hj2 hj3 rfl (by omega) _ _ AA k cc us rfl hus wr.heap.size rfl rfl rfl (by omega) (by omega) ?_; intro g_ cap_ w6 hown6 hgrow6 hlies6 hlt6)
          have d6 := ds2.grownG hus hgrow6 (by omega) (by omega) (by omega)
          have t6 := HP.out g_ cap_ w6 hown6 hgrow6 (by rcases hlies6 with h | h; exact .inl h; exact .inr (by omega)) hlt6
          have H6 := hid (And.intro t6 d6)
          clear t6 d6 hown6 hgrow6 hlies6 hus
          go_roundw
          case rel => exact ⟨k + 1, cap_, q2, _, rows ++ [ys], by omega, by go_num, rfl, by unfold OwnII; rw [List.map_append]; exact H6.out.1, HSQ2, H6.out.2, by omega, by omega⟩
          case measure => simp [intOf]; omega
    · have hkn : k = N := by omega
      subst hkn
      have hN0 : 0 < k := by omega
      go_wp2_with fail
      refine (ds_odd bad (ds1) (by omega) (by omega)).mono ?_
      rintro e wx8 ⟨bwx8, rfl, ⟨qwx8, qwx8l, qwx8u, dwx8⟩, ho_, hs_⟩
      have ntab_ := OwnVV.only (tab) ho_ (.inr (by omega))
      clear tab; have tab := ntab_; clear ntab_
      have zdwx8 := dwx8.size
      have ydwx8 := ho_.size
      clear ho_ hs_ ds1
      obtain ⟨TH, hTH⟩ : ∃ TH, wr.heap.size = TH := ⟨_, rfl⟩
      rw [hTH] at tab zz1 zg ydwx8
      cases bwx8
      · have HF := hid (gives_of (q := q) tab (by omega) dwx8 (by omega) (by omega) (by omega))
        clear tab dwx8
        go_wp2
        go_ret
        exact HF.out
      · skip
        go_wp2_with fail
        refine (ds_pick 3 (dwx8) (by omega)).mono ?_
        rintro e wx9 ⟨kk, rfl, hk_, dwx9, ho_, hs_⟩
        obtain ⟨kk0, kk1⟩ := hk_ (by omega)
        have ntab_ := OwnVV.only (tab) ho_ (.inr (by omega))
        clear tab; have tab := ntab_; clear ntab_
        have zdwx9 := dwx9.size
        have ydwx9 := ho_.size
        clear hk_ ho_ hs_ dwx8
        rcases (show kk = 0 ∨ kk = 1 ∨ kk = 2 by omega) with rfl | rfl | rfl
        · obtain ⟨gt, b, c', y, rfl, hne, hcl, h1, h2, h3, h4, h5, h6, hcy, hf, rows', ho', hsq'⟩ := OwnII.cellset (k := 0) (j := 0) tab (by omega) HSQ.out (by omega) 1
          have d' := dwx9.stored (b := b) (k := 0) (by omega) (by omega) (.int .i64 1)
          have HF := hid (gives_of (q := q) ho' (by simp [World.setCell]; omega) d' (by omega) (by omega) (by omega))
          clear tab dwx9 ho' d'
          go_wp2
          go_ret
          exact HF.out
        · obtain ⟨K1, hK1⟩ : ∃ K1, k = K1 + 1 := ⟨k - 1, by omega⟩
          obtain ⟨gt, A', n', c', vs, rfl, hvs, hvl, g1, g2, hcl, hc1, hc2, hA', hown, hback⟩ := OwnVV.regrow (k := K1) tab (by omega) (by omega)
          have hn' : n' = k := by rw [← hvl]; exact HSQ.out.at_ vs hvs
          rw [hn'] at hcl hc1 hown hback
          have r1 : (k : Int) - 1 = (K1 : Int) := by omega
          have r2 : IntKind.i64.wrap (K1 : Int) = (K1 : Int) := IntWalk.i64_in _ (by omega)
          have r3 : (K1 : Int) < (k : Int) := by omega
          have r4 : (0 : Int) ≤ (K1 : Int) := by omega
          have hgz : gt < wx9.heap.size := by omega
          have HRS := hid (rowsI_set rows K1 0 hvs)
          clear tab hvs hvl hK1 hn'
          go_wp2_with (at_builtin; go_loud (refine wpList_push rfl _ _ _ rfl w.heap.size 3 i0 _ 8 Try.underlying30 hi0 hz0 hz1 hz2 rfl (by omega) _ _ A' k c' _ rfl hown rfl rfl (by omega) (by omega) ?_; intro g' cap w7 hown7 hgrow7 hlies7 hlt7; obtain ⟨p1, p2, p3, p4⟩ := hback g' cap w7 _ hown7 hgrow7 (by rcases hlies7 with h | h; exact .inl h; exact .inr (by omega)) hlt7))
          have d7 := dwx9.grownG hown hgrow7 (by omega) (by omega) (by omega)
          have d8 := d7.stored (b := gt) (k := K1) (by omega) (by omega) (.slice (some ⟨g', 0, none⟩) (k + 1) cap)
          have HF := hid (gives_ofV (q := q) p4 (Nat.le_of_eq (by simp [World.setCell])) d8 (by omega) (by omega) (by omega) HRS.out)
          clear hback d7 d8 p4 dwx9 hown7 hgrow7 hlies7 hown
          go_wp2
          go_ret
          exact HF.out
        · skip
          obtain ⟨K1, hK1⟩ : ∃ K1, k = K1 + 1 := ⟨k - 1, by omega⟩
          obtain ⟨gt, b, c', y, rfl, hne, hcl, h1, h2, h3, h4, h5, h6, hcy, hf, _⟩ := OwnII.cellset (k := 0) (j := K1) tab (by omega) HSQ.out (by omega) 1
          have hgtz : gt < wx9.heap.size := by obtain ⟨_, hh, _⟩ := tab; have hlt : gt < TH := (OwnV.addr hh rfl).2.1; omega
          have r1 : (k : Int) - 1 = (K1 : Int) := by omega
          have r2 : IntKind.i64.wrap (K1 : Int) = (K1 : Int) := IntWalk.i64_in _ (by omega)
          have r3 : (K1 : Int) < (k : Int) := by omega
          have r4 : (0 : Int) ≤ (K1 : Int) := by omega
          have hS0 : Hid (CostS w 30 3 g q (qwx8 + 1) TH wx9.heap.size gt b k cc c' 0 wx9) := hid ⟨_, rows, by omega, by omega, dwx9, tab, HSQ.out, hcl, Nat.le_refl _⟩
          have hK2 : K1 < k := by omega
          clear tab dwx9 hcl hcy hf hK1
          go_wp2_with fail
          refine wp_region_g (by kernel_rfl) [[], [0], [1], [], [3], [], [], [6], [5, 7], [8], [2, 4], [9, 10]] (by kernel_rfl) 12 (by rfl) [some 55, some 56, some 57, some 58, some 59, some 60, some 61, some 62, some 63, some 64, some 65, none] (by rfl)
            [fun v x _ => v = .slice (some ⟨gt, 0, none⟩) k cc,
             fun v x _ => v = .pointer (some ⟨gt, 0, none⟩),
             fun v x _ => v = .slice (some ⟨b, 0, none⟩) k c',
             fun v x _ => v = .int .i64 (k : Int),
             fun v x _ => v = .int .i64 (K1 : Int),
             fun v x w' => ∃ bb : Nat, v = .slice (some ⟨bb, 0, none⟩) 2 2 ∧ wx9.heap.size ≤ bb ∧ Blk w' bb 3 #[.int .i64 (-1), .int .i64 101],
             fun v x _ => v = .pointer (some ⟨g, 0, none⟩),
             fun v x _ => ∃ kp : Int, v = .int .i64 kp ∧ 0 ≤ kp ∧ kp < 2,
             fun v x w' => ∃ (bb : Nat) (kp : Int), v = .pointer (some ⟨bb, kp.toNat, none⟩) ∧ wx9.heap.size ≤ bb ∧ Blk w' bb 3 #[.int .i64 (-1), .int .i64 101] ∧ 0 ≤ kp ∧ kp < 2,
             fun v x _ => ∃ z : Int, v = .int .i64 z,
             fun v x _ => v = .pointer (some ⟨b, K1, none⟩),
             fun v x _ => True]
            (fun c w' => CostS w 30 3 g q (qwx8 + 1) TH wx9.heap.size gt b k cc c' c w') (NewR wx9.heap.size) (fun _ => NewR.refl _ _) (hS0.out.drew) ?loc ?ob ?fin
          case loc =>
            refine ⟨⟨⟨⟨⟨⟨⟨⟨⟨⟨⟨⟨trivial, ?_⟩, ?_⟩, ?_⟩, ?_⟩, ?_⟩, ?_⟩, ?_⟩, ?_⟩, ?_⟩, ?_⟩, ?_⟩, ?_⟩
            · exact fun _ _ _ _ _ _ _ h => h
            · exact fun _ _ _ _ _ _ _ h => h
            · exact fun _ _ _ _ _ _ _ h => h
            · exact fun _ _ _ _ _ _ _ h => h
            · exact fun _ _ _ _ _ _ _ h => h
            · intro v x x' w w' hx hR h
              revert h
              show (fun v x w' => ∃ bb : Nat, v = .slice (some ⟨bb, 0, none⟩) 2 2 ∧ wx9.heap.size ≤ bb ∧ Blk w' bb 3 #[.int .i64 (-1), .int .i64 101]) v x w → (fun v x w' => ∃ bb : Nat, v = .slice (some ⟨bb, 0, none⟩) 2 2 ∧ wx9.heap.size ≤ bb ∧ Blk w' bb 3 #[.int .i64 (-1), .int .i64 101]) v x' w'
              intro h
              obtain ⟨bb, e, h1, h2⟩ := h; exact ⟨bb, e, h1, hR.blk h2 h1⟩
            · exact fun _ _ _ _ _ _ _ h => h
            · intro v x x' w w' hx hR h
              revert h
              show (fun v x _ => ∃ kp : Int, v = .int .i64 kp ∧ 0 ≤ kp ∧ kp < 2) v x w → (fun v x _ => ∃ kp : Int, v = .int .i64 kp ∧ 0 ≤ kp ∧ kp < 2) v x' w'
              intro h
              exact h
            · intro v x x' w w' hx hR h
              revert h
              show (fun v x w' => ∃ (bb : Nat) (kp : Int), v = .pointer (some ⟨bb, kp.toNat, none⟩) ∧ wx9.heap.size ≤ bb ∧ Blk w' bb 3 #[.int .i64 (-1), .int .i64 101] ∧ 0 ≤ kp ∧ kp < 2) v x w → (fun v x w' => ∃ (bb : Nat) (kp : Int), v = .pointer (some ⟨bb, kp.toNat, none⟩) ∧ wx9.heap.size ≤ bb ∧ Blk w' bb 3 #[.int .i64 (-1), .int .i64 101] ∧ 0 ≤ kp ∧ kp < 2) v x' w'
              intro h
              obtain ⟨bb, kp, e, h1, h2, h3⟩ := h; exact ⟨bb, kp, e, h1, hR.blk h2 h1, h3⟩
            · intro v x x' w w' hx hR h
              revert h
              show (fun v x _ => ∃ z : Int, v = .int .i64 z) v x w → (fun v x _ => ∃ z : Int, v = .int .i64 z) v x' w'
              intro h
              exact h
            · exact fun _ _ _ _ _ _ _ h => h
            · intro v x x' w w' hx hR h
              revert h
              show (fun v x _ => True) v x w → (fun v x _ => True) v x' w'
              intro h
              exact h
          case ob =>
            refine ⟨⟨⟨⟨⟨⟨⟨⟨⟨⟨⟨⟨trivial, ?_⟩, ?_⟩, ?_⟩, ?_⟩, ?_⟩, ?_⟩, ?_⟩, ?_⟩, ?_⟩, ?_⟩, ?_⟩, ?_⟩
            · intro c hc x W hS hd KO hK
              clear hd
              simp only [List.getD_cons_zero, fillL, Nat.reduceAdd, Act.put, List.setIfInBounds_toArray, List.set_cons_zero, List.set_cons_succ] at hK ⊢
              refine wpOp_plain rfl rfl ?_
              go_simp
              exact hK _ _ hS.step (NewR.refl _ _) rfl
            · intro c hc x W hS hd KO hK
              have h0 : (fun v x _ => v = .slice (some ⟨gt, 0, none⟩) k cc) (x 0) x W := hd 0 (by decide)
              have e0 : x 0 = .slice (some ⟨gt, 0, none⟩) k cc := h0
              clear h0
              clear hd
              simp only [List.getD_cons_zero, List.getD_cons_succ, fillL, Nat.reduceAdd, Act.put, List.setIfInBounds_toArray, List.set_cons_zero, List.set_cons_succ, e0] at hK ⊢
              refine wpOp_plain rfl rfl ?_
              go_simp
              exact hK _ _ hS.step (NewR.refl _ _) rfl
            · intro c hc x W hS hd KO hK
              have h1 : (fun v x _ => v = .pointer (some ⟨gt, 0, none⟩)) (x 1) x W := hd 1 (by decide)
              have e1 : x 1 = .pointer (some ⟨gt, 0, none⟩) := h1
              clear h1
              clear hd
              have hc9 := hS.cell
              simp only [List.getD_cons_zero, List.getD_cons_succ, fillL, Nat.reduceAdd, Act.put, List.setIfInBounds_toArray, List.set_cons_zero, List.set_cons_succ, e1] at hK ⊢
              refine wpOp_plain rfl rfl ?_
              go_simp
              exact hK _ _ hS.step (NewR.refl _ _) rfl
            · intro c hc x W hS hd KO hK
              clear hd
              simp only [List.getD_cons_zero, List.getD_cons_succ, fillL, Nat.reduceAdd, Act.put, List.setIfInBounds_toArray, List.set_cons_zero, List.set_cons_succ] at hK ⊢
              refine wpOp_plain rfl rfl ?_
              go_simp
              exact hK _ _ hS.step (NewR.refl _ _) rfl
            · intro c hc x W hS hd KO hK
              have h3 : (fun v x _ => v = .int .i64 (k : Int)) (x 3) x W := hd 3 (by decide)
              have e3 : x 3 = .int .i64 (k : Int) := h3
              clear h3
              clear hd
              simp only [List.getD_cons_zero, List.getD_cons_succ, fillL, Nat.reduceAdd, Act.put, List.setIfInBounds_toArray, List.set_cons_zero, List.set_cons_succ, e3] at hK ⊢
              refine wpOp_plain rfl rfl ?_
              go_simp
              exact hK _ _ hS.step (NewR.refl _ _) rfl
            · intro c hc x W hS hd KO hK
              clear hd
              simp only [List.getD_cons_zero, List.getD_cons_succ, fillL, Nat.reduceAdd, Act.put, List.setIfInBounds_toArray, List.set_cons_zero, List.set_cons_succ] at hK ⊢
              refine wpOp_plain rfl rfl ?_
              have hzW := hS.size
              go_simp
              exact hK _ _ (hS.alloc _ (by omega)) (NewR.alloc _ _ _) ⟨W.heap.size, rfl, hzW, Blk.new _ _ _⟩
            · intro c hc x W hS hd KO hK
              clear hd
              simp only [List.getD_cons_zero, List.getD_cons_succ, fillL, Nat.reduceAdd, Act.put, List.setIfInBounds_toArray, List.set_cons_zero, List.set_cons_succ] at hK ⊢
              refine wpOp_plain rfl rfl ?_
              go_simp
              exact hK _ _ hS.step (NewR.refl _ _) rfl
            · intro c hc x W hS hd KO hK
              have h6 : (fun v x _ => v = .pointer (some ⟨g, 0, none⟩)) (x 6) x W := hd 6 (by decide)
              have e6 : x 6 = .pointer (some ⟨g, 0, none⟩) := h6
              clear h6
              clear hd
              simp only [List.getD_cons_zero, List.getD_cons_succ, fillL, Nat.reduceAdd, Act.put, List.setIfInBounds_toArray, List.set_cons_zero, List.set_cons_succ, e6] at hK ⊢
              refine wpOp_plain rfl rfl ?_
              obtain ⟨qq, rr, hq1, hq2, hd1, ht1, hsq1, hc1, hz1⟩ := hS
              go_simp
              refine (ds_pick 2 hd1 (by omega)).mono ?_
              rintro e W1 ⟨kp, rfl, hkp, hd2, ho, hs⟩
              obtain ⟨k0, k1⟩ := hkp (by omega)
              go_wp2_with fail
              exact hK _ _ ⟨qq + 1, rr, by omega, by omega, hd2, OwnVV.only ht1 ho (.inr (by omega)), hsq1, (World.cell?_of_block (ho.block gt (by omega) (by omega))).trans hc1, by rw [hs]; exact hz1⟩ (NewR.only ho (by omega)) ⟨kp, rfl, k0, k1⟩
            · intro c hc x W hS hd KO hK
              have h5 : (fun v x w' => ∃ bb : Nat, v = .slice (some ⟨bb, 0, none⟩) 2 2 ∧ wx9.heap.size ≤ bb ∧ Blk w' bb 3 #[.int .i64 (-1), .int .i64 101]) (x 5) x W := hd 5 (by decide)
              have h7 : (fun v x _ => ∃ kp : Int, v = .int .i64 kp ∧ 0 ≤ kp ∧ kp < 2) (x 7) x W := hd 7 (by decide)
              clear hd
              obtain ⟨bb, eb, hb1, hb2⟩ := h5
              obtain ⟨kp, ek, k0, k1⟩ := h7
              simp only [List.getD_cons_zero, List.getD_cons_succ, fillL, Nat.reduceAdd, Act.put, List.setIfInBounds_toArray, List.set_cons_zero, List.set_cons_succ, eb, ek] at hK ⊢
              refine wpOp_plain rfl rfl ?_
              go_simp
              exact hK _ _ hS.step (NewR.refl _ _) ⟨bb, kp, rfl, hb1, hb2, k0, k1⟩
            · intro c hc x W hS hd KO hK
              have h8 : (fun v x w' => ∃ (bb : Nat) (kp : Int), v = .pointer (some ⟨bb, kp.toNat, none⟩) ∧ wx9.heap.size ≤ bb ∧ Blk w' bb 3 #[.int .i64 (-1), .int .i64 101] ∧ 0 ≤ kp ∧ kp < 2) (x 8) x W := hd 8 (by decide)
              clear hd
              obtain ⟨bb, kp, eb, hb1, hb2, k0, k1⟩ := h8
              obtain ⟨z, hz, _, _⟩ := tab_get (ys := [-1, 101]) hb2 rfl kp k0 (by simp; omega) (P := fun y => -1 ≤ y ∧ y ≤ 101) (by intro y hy; simp at hy; omega)
              simp only [List.getD_cons_zero, List.getD_cons_succ, fillL, Nat.reduceAdd, Act.put, List.setIfInBounds_toArray, List.set_cons_zero, List.set_cons_succ, eb] at hK ⊢
              refine wpOp_plain rfl rfl ?_
              go_simp
              exact hK _ _ hS.step (NewR.refl _ _) ⟨z, rfl⟩
            · intro c hc x W hS hd KO hK
              have h2 : (fun v x _ => v = .slice (some ⟨b, 0, none⟩) k c') (x 2) x W := hd 2 (by decide)
              have e2 : x 2 = .slice (some ⟨b, 0, none⟩) k c' := h2
              clear h2
              have h4 : (fun v x _ => v = .int .i64 (K1 : Int)) (x 4) x W := hd 4 (by decide)
              have e4 : x 4 = .int .i64 (K1 : Int) := h4
              clear h4
              clear hd
              simp only [List.getD_cons_zero, List.getD_cons_succ, fillL, Nat.reduceAdd, Act.put, List.setIfInBounds_toArray, List.set_cons_zero, List.set_cons_succ, e2, e4] at hK ⊢
              refine wpOp_plain rfl rfl ?_
              go_simp
              exact hK _ _ hS.step (NewR.refl _ _) rfl
            · intro c hc x W hS hd KO hK
              have h9 : (fun v x _ => ∃ z : Int, v = .int .i64 z) (x 9) x W := hd 9 (by decide)
              have h10 : (fun v x _ => v = .pointer (some ⟨b, K1, none⟩)) (x 10) x W := hd 10 (by decide)
              have e10 : x 10 = .pointer (some ⟨b, K1, none⟩) := h10
              clear h10
              clear hd
              obtain ⟨z, ez⟩ := h9
              obtain ⟨qq, rr, hq1, hq2, hd1, ht1, hsq1, hc1, hz1⟩ := hS
              obtain ⟨gq, bq, cq, y, eq9, hneq, hclq, z1, z2, z3, z4, z5, z6, hcyq, hfq, rowsq, hoq, hsqq⟩ := OwnII.cellset (k := 0) (j := K1) ht1 (by omega) hsq1 (by omega) z
              injection eq9 with eq9
              injection eq9 with eq9 _
              subst eq9
              rw [hc1] at hclq
              injection hclq with hclq
              injection hclq with a1 _ a2
              injection a1 with a1
              injection a1 with a1 _
              subst a1 a2
              have HQ := hid (And.intro hoq hsqq)
              clear hoq
              simp only [List.getD_cons_zero, List.getD_cons_succ, fillL, Nat.reduceAdd, Act.put, List.setIfInBounds_toArray, List.set_cons_zero, List.set_cons_succ, e10, ez] at hK ⊢
              refine wpOp_plain rfl rfl ?_
              go_simp
              exact hK undef _ ⟨qq, rowsq, hq1, by omega, hd1.stored (by omega) (by omega) _, HQ.out.1, hsqq, by rw [World.cell?_setCell_other _ _ _ _ (by intro e; injection e with e; exact hneq e.symm)]; exact hc1, by simpa [World.setCell] using hz1⟩ (NewR.setCell _ (by show b < _; omega) _) trivial
          case fin =>
            intro x W hS hd
            have h0 : (fun v x _ => v = .slice (some ⟨gt, 0, none⟩) k cc) (x 0) x W := hd 0 (by decide)
            have e0 : x 0 = .slice (some ⟨gt, 0, none⟩) k cc := h0
            clear h0
            have h1 : (fun v x _ => v = .pointer (some ⟨gt, 0, none⟩)) (x 1) x W := hd 1 (by decide)
            have e1 : x 1 = .pointer (some ⟨gt, 0, none⟩) := h1
            clear h1
            have h2 : (fun v x _ => v = .slice (some ⟨b, 0, none⟩) k c') (x 2) x W := hd 2 (by decide)
            have e2 : x 2 = .slice (some ⟨b, 0, none⟩) k c' := h2
            clear h2
            have h3 : (fun v x _ => v = .int .i64 (k : Int)) (x 3) x W := hd 3 (by decide)
            have e3 : x 3 = .int .i64 (k : Int) := h3
            clear h3
            have h4 : (fun v x _ => v = .int .i64 (K1 : Int)) (x 4) x W := hd 4 (by decide)
            have e4 : x 4 = .int .i64 (K1 : Int) := h4
            clear h4
            have h5 : (fun v x w' => ∃ bb : Nat, v = .slice (some ⟨bb, 0, none⟩) 2 2 ∧ wx9.heap.size ≤ bb ∧ Blk w' bb 3 #[.int .i64 (-1), .int .i64 101]) (x 5) x W := hd 5 (by decide)
            have h6 : (fun v x _ => v = .pointer (some ⟨g, 0, none⟩)) (x 6) x W := hd 6 (by decide)
            have e6 : x 6 = .pointer (some ⟨g, 0, none⟩) := h6
            clear h6
            have h7 : (fun v x _ => ∃ kp : Int, v = .int .i64 kp ∧ 0 ≤ kp ∧ kp < 2) (x 7) x W := hd 7 (by decide)
            have h8 : (fun v x w' => ∃ (bb : Nat) (kp : Int), v = .pointer (some ⟨bb, kp.toNat, none⟩) ∧ wx9.heap.size ≤ bb ∧ Blk w' bb 3 #[.int .i64 (-1), .int .i64 101] ∧ 0 ≤ kp ∧ kp < 2) (x 8) x W := hd 8 (by decide)
            have h9 : (fun v x _ => ∃ z : Int, v = .int .i64 z) (x 9) x W := hd 9 (by decide)
            have h10 : (fun v x _ => v = .pointer (some ⟨b, K1, none⟩)) (x 10) x W := hd 10 (by decide)
            have e10 : x 10 = .pointer (some ⟨b, K1, none⟩) := h10
            clear h10
            have h11 : (fun v x _ => True) (x 11) x W := hd 11 (by decide)
            clear hd
            simp only [fillL, Nat.reduceAdd, Act.put, List.setIfInBounds_toArray, List.set_cons_zero, List.set_cons_succ, e0, e1, e2, e3, e4, e6, e10]
            clear e0 e1 e2 e3 e4 e6 e10
            obtain ⟨qq, rr, hq1, hq2, hd1, ht1, hsq1, hc1, hz1⟩ := hS
            have HF := hid (gives_of (q := q) ht1 (by omega) hd1 (by omega) (by omega) (by omega))
            clear ht1 hd1 hc1 hS0
            go_wp2
            go_ret
            exact HF.out
end Go.Proofs.Ytglpcphkdgmdeaa
