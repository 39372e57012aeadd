/-
  The draw of links, walked: l20Links.
-/
import Derived.Test.YtajnpmnedghckaaDTab
import Derived.Test.YtajnpmnedghckaaRegL
import Derived.Test.YtajnpmnedghckaaLinks
import Derived.OpenShut
namespace Go.Proofs.Ytajnpmnedghckaa
open Go.RowKit
set_option linter.unusedVariables false

theorem infoRowD : (Try.prog.info? 34).map (fun i => (i.zero, i.size, i.bytes)) = some (some (.slice none 0 0), 1, 24) := by kernel_rfl
/-- Of a table: all rows have n ints. -/
def Sq (n : Nat) (rows : List (List Int)) : Prop := ∀ r ∈ rows, r.length = n
theorem Sq.at_ {n k : Nat} {rows : List (List Int)} (h : Sq n rows) : ∀ vs, (rows.map fun r => r.map (Value.int .i64))[k]? = some vs → vs.length = n := by
  intro vs hv
  rw [List.getElem?_map] at hv
  cases hx : rows[k]? with
  | none => rw [hx] at hv; simp at hv
  | some r => rw [hx] at hv; simp at hv; subst hv; rw [List.length_map]; exact h r (List.mem_of_getElem? hx)
theorem Sq.set {n : Nat} {rows : List (List Int)} (h : Sq n rows) (k : Nat) {r : List Int} (hr : r.length = n) : Sq n (rows.set k r) := by
  intro x hx
  rcases List.mem_or_eq_of_mem_set hx with h1 | h1
  · exact h x h1
  · rw [h1]; exact hr
theorem setII (rows : List (List Int)) (k : Nat) (r : List Int) : (rows.map fun r => r.map (Value.int .i64)).set k (r.map (Value.int .i64)) = (rows.set k r).map fun r => r.map (Value.int .i64) := by rw [List.map_set]
theorem OwnII.cellset {w : World} {t2 t : TypeId} {lo hi n c k j m : Nat} {A : Option Addr} {rows : List (List Int)} (h : OwnII w t2 t lo hi A n c rows) (hk : k < n) (hq : Sq m rows) (hj : j < m) (x : Int) :
    ∃ g b c' y, A = some ⟨g, 0, none⟩ ∧ g ≠ b ∧ w.cell? ⟨g, k, none⟩ = some (.slice (some ⟨b, 0, none⟩) m c') ∧ m ≤ c' ∧ c' ≤ maxLen ∧ lo ≤ g ∧ lo ≤ b ∧ b < hi ∧ b < w.heap.size ∧ w.cell? ⟨b, j, none⟩ = some (.int .i64 y) ∧ w.frozen? ⟨b, j, none⟩ = false ∧
      ∃ rows', OwnII (w.setCell ⟨b, j, none⟩ (.int .i64 x)) t2 t lo hi A n c rows' ∧ Sq m rows' := by
  obtain ⟨g, b, n', c', vs, y, e, hne, hvs, hc, hn', h1, h2, h3, h4, h5, h6, hy, hcy, hf, ho⟩ := OwnVV.cellset h hk (fun vs hv => by rw [hq.at_ vs hv]; exact hj) (.int .i64 x)
  rw [List.getElem?_map] at hvs
  cases hx : rows[k]? with
  | none => rw [hx] at hvs; simp at hvs
  | some r =>
    rw [hx] at hvs
    simp at hvs
    subst hvs
    rw [List.getElem?_map] at hy
    cases hyy : r[j]? with
    | none => rw [hyy] at hy; simp at hy
    | some y' =>
      rw [hyy] at hy
      simp at hy
      subst hy
      rw [List.length_map] at hn'
      have hrm : r.length = m := hq r (List.mem_of_getElem? hx)
      subst hn'
      rw [hrm] at hc h1
      refine ⟨g, b, c', y', e, hne, hc, h1, h2, h3, h4, h5, h6, hcy, hf, rows.set k (r.set j x), ?_, hq.set k (by rw [List.length_set]; exact hrm)⟩
      rw [show (r.map (Value.int .i64)).set j (.int .i64 x) = (r.set j x).map (Value.int .i64) from by rw [List.map_set], setII] at ho
      exact ho

theorem rowsI_set {vs : List Value} (rows : List (List Int)) (k : Nat) (y : Int) (hv : (rows.map fun r => r.map (Value.int .i64))[k]? = some vs) : ∃ rows' : List (List Int), (rows.map fun r => r.map (Value.int .i64)).set k (vs ++ [.int .i64 y]) = rows'.map fun r => r.map (Value.int .i64) := by
  rw [List.getElem?_map] at hv
  cases hx : rows[k]? with
  | none => rw [hx] at hv; simp at hv
  | some r =>
    rw [hx] at hv
    simp at hv
    subst hv
    exact ⟨rows.set k (r ++ [y]), by rw [List.map_set, List.map_append]; rfl⟩
/-- What a draw of links promises. -/
def GivesL (m g q : Nat) (w : World) (e : Ending) (w' : World) : Prop :=
  ∃ A n c rows N G, e = .returned (.agg #[.slice A n c, .int .i64 N, .int .i64 G]) ∧ OwnII w' 34 3 w.heap.size w'.heap.size A n c rows ∧ n ≤ 10 ∧ (∃ q', q ≤ q' ∧ q' ≤ q + m ∧ Rd w' g q') ∧ Only g (g + 1) w w'
theorem givesL_of {w w' : World} {g q q' lo hi k cc : Nat} {AA : Option Addr} {rows : List (List Int)} {N G : Int} (tab : OwnII w' 34 3 lo hi AA k cc rows) (hhi : hi ≤ w'.heap.size) (d : DS w w' g q') (h1 : q ≤ q') (h2 : q' ≤ q + 1000) (hk : k ≤ 10) (hlo : w.heap.size ≤ lo) : GivesL 1000 g q w (.returned (.agg #[.slice AA k cc, .int .i64 N, .int .i64 G])) w' :=
  ⟨AA, k, cc, rows, N, G, rfl, OwnVV.more tab hlo hhi, hk, ⟨q', h1, h2, d.rd⟩, d.only⟩
/-- Stores into the three cells of a block of the draw's own. -/
theorem DS.set3 {w0 w : World} {g q b : Nat} (h : DS w0 w g q) (hb : g < b) (hw : w0.heap.size ≤ b) (u0 u1 u2 : Value) : DS w0 (((w.setCell ⟨b, 0, none⟩ u0).setCell ⟨b, 1, none⟩ u1).setCell ⟨b, 2, none⟩ u2) g q :=
  ((h.stored hb hw u0).stored hb hw u1).stored hb hw u2
theorem OwnVV.setFar {w : World} {t2 t : TypeId} {lo hi n c b k : Nat} {A : Option Addr} {vss : List (List Value)} (h : OwnVV w t2 t lo hi A n c vss) (hb : b < lo) (u : Value) : OwnVV (w.setCell ⟨b, k, none⟩ u) t2 t lo hi A n c vss :=
  OwnVV.only h (Only.setCell (p := ⟨b, k, none⟩) (Only.refl b (b + 1) w) (Nat.le_refl _) (Nat.lt_succ_self _) u) (.inr (by omega))
theorem OwnVV.set3 {w : World} {t2 t : TypeId} {lo hi n c b : Nat} {A : Option Addr} {vss : List (List Value)} (h : OwnVV w t2 t lo hi A n c vss) (hb : b < lo) (u0 u1 u2 : Value) : OwnVV (((w.setCell ⟨b, 0, none⟩ u0).setCell ⟨b, 1, none⟩ u1).setCell ⟨b, 2, none⟩ u2) t2 t lo hi A n c vss :=
  ((h.setFar hb u0).setFar hb u1).setFar hb u2

/-- What is known while the first drawn region of l20Links is carried out. -/
def LinkS (w : World) (t2 t t3 : TypeId) (cX cR : Array Value) (g q q0 X TH H gt b k cc c' : Nat) (c : Nat) (W : World) : Prop :=
  ∃ qq rr, q ≤ qq ∧ qq ≤ q0 + c ∧ DS w W g qq ∧ OwnII W t2 t (X + 1) TH (some ⟨gt, 0, none⟩) k cc rr ∧ Sq k rr ∧ W.cell? ⟨gt, 0, none⟩ = some (.slice (some ⟨b, 0, none⟩) k c') ∧ H ≤ W.heap.size ∧ Blk W X t3 cX ∧ Blk W w.heap.size t3 cR
section
variable {w W : World} {t2 t t3 : TypeId} {cX cR : Array Value} {g q q0 X TH H gt b k cc c' c : Nat}
theorem LinkS.step (h : LinkS w t2 t t3 cX cR g q q0 X TH H gt b k cc c' c W) : LinkS w t2 t t3 cX cR g q q0 X TH H gt b k cc c' (c + 1) W := by
  obtain ⟨qq, rr, h1, h2, h3⟩ := h
  exact ⟨qq, rr, h1, by omega, h3⟩
theorem LinkS.drew (h : LinkS w t2 t t3 cX cR g q q0 X TH H gt b k cc c' c W) : LinkS w t2 t t3 cX cR g q q0 X TH H gt b k cc c' c W.drew := by
  obtain ⟨qq, rr, h1, h2, h3, h4⟩ := h
  exact ⟨qq, rr, h1, h2, h3.drew, h4⟩
theorem LinkS.cell (h : LinkS w t2 t t3 cX cR g q q0 X TH H gt b k cc c' c W) : W.cell? ⟨gt, 0, none⟩ = some (.slice (some ⟨b, 0, none⟩) k c') := by
  obtain ⟨qq, rr, h1, h2, h3, h4, h5, h6, _⟩ := h
  exact h6
theorem LinkS.size (h : LinkS w t2 t t3 cX cR g q q0 X TH H gt b k cc c' c W) : H ≤ W.heap.size := by
  obtain ⟨qq, rr, h1, h2, h3, h4, h5, h6, h7, _⟩ := h
  exact h7
theorem LinkS.box (h : LinkS w t2 t t3 cX cR g q q0 X TH H gt b k cc c' c W) : Blk W X t3 cX := by
  obtain ⟨qq, rr, h1, h2, h3, h4, h5, h6, h7, h8, _⟩ := h
  exact h8
theorem LinkS.alloc (h : LinkS w t2 t t3 cX cR g q q0 X TH H gt b k cc c' c W) (o : Obj) (hg : gt < W.heap.size) : LinkS w t2 t t3 cX cR g q q0 X TH H gt b k cc c' (c + 1) (W.alloc o) := by
  obtain ⟨qq, rr, h1, h2, h3, h4, h5, h6, h7, h8, h9⟩ := h
  exact ⟨qq, rr, h1, by omega, h3.alloc o, OwnVV.alloc h4 o, h5, (World.cell?_alloc_lt W o _ hg).trans h6, by simp; omega, Blk.alloc h8 o, Blk.alloc h9 o⟩
end
/-- What is known while its second drawn region is carried out: b7: the append has come up, v7: what it gave; b9: the store has. -/
def LinkL (w : World) (t2 t t3 : TypeId) (cX cR : Array Value) (g q0 X TH H gt : Nat) (A' : Option Addr) (k cc c' : Nat) (rows : List (List Int)) (b7 b9 : Bool) (v7 : Value) (W : World) : Prop :=
  DS w W g q0 ∧ H ≤ W.heap.size ∧ Blk W X t3 cX ∧ Blk W w.heap.size t3 cR ∧ (b9 = false → W.cell? ⟨gt, 0, none⟩ = some (.slice A' k c')) ∧
  (b7 = false → OwnII W t2 t (X + 1) TH (some ⟨gt, 0, none⟩) k cc rows) ∧
  (b7 = true → b9 = false → ∃ (g' cap : Nat) (rows' : List (List Int)), v7 = .slice (some ⟨g', 0, none⟩) (k + 1) cap ∧ W.frozen? ⟨gt, 0, none⟩ = false ∧ OwnII (W.setCell ⟨gt, 0, none⟩ (.slice (some ⟨g', 0, none⟩) (k + 1) cap)) t2 t (X + 1) W.heap.size (some ⟨gt, 0, none⟩) k cc rows') ∧
  (b9 = true → ∃ rows' : List (List Int), OwnII W t2 t (X + 1) W.heap.size (some ⟨gt, 0, none⟩) k cc rows')
theorem ownVV_nil (w : World) (t2 t : TypeId) (lo hi : Nat) : OwnVV w t2 t lo hi none 0 0 [] :=
  ⟨[], OwnV.nil_ _ _ _ _, rfl, fun j d vs hd => by simp at hd, fun i j di dj a b _ hdi => by simp at hdi, fun j d a b hd => by simp at hd⟩
set_option maxRecDepth 100000 in
set_option maxHeartbeats 3200000 in
theorem l20Links_any (g q : Nat) (bad : Int) (w : World) (h : Rd w g q) (hq : q ≤ 10000000) (hbad : bad ≤ 1000000000) :
    Calls Try.prog 38 #[.pointer (some ⟨g, 0, none⟩), .int .i64 bad] w fun e w' => GivesL 1000 g q w e w' := by
  obtain ⟨i0, hi0, hz0, hz1, hz2⟩ := info_parts infoDr
  obtain ⟨i1, hj0, hj1, hj2, hj3⟩ := info_parts infoRowD
  have hg := h.lt
  have ds0 := (DS.start h).alloc (.cells #[.slice none 0 0, .int .i64 0, .int .i64 0] 27)
  have kR := Blk.new w 27 #[.slice none 0 0, .int .i64 0, .int .i64 0]
  clear h
  go_enter Try.func38, Try.ntmps38
  go_wp2_with fail
  refine (ds_pick 4 (ds0) (by omega)).mono ?_
  rintro e wx1 ⟨many, rfl, hk_, dwx1, ho_, hs_⟩
  obtain ⟨many0, many1⟩ := hk_ (by omega)
  have nkR_ := Blk.only (kR) ho_ (by omega)
  clear kR; have kR := nkR_; clear nkR_
  have zdwx1 := dwx1.size
  have ydwx1 := ho_.size
  clear hk_ ho_ hs_ ds0
  obtain ⟨N, hN⟩ : ∃ N : Nat, 1 + many = (N : Int) := ⟨(1 + many).toNat, by omega⟩
  have hN1 : 1 ≤ N := by omega
  have hN2 : N ≤ 4 := by omega
  have rm1 : IntKind.i64.wrap (N : Int) = (N : Int) := IntWalk.i64_in _ (by omega)
  go_wp2_with fail
  refine (ds_pick 50 (dwx1) (by omega)).mono ?_
  rintro e wx2 ⟨nn, rfl, hk_, dwx2, ho_, hs_⟩
  obtain ⟨nn0, nn1⟩ := hk_ (by omega)
  have nkR_ := Blk.only (kR) ho_ (by omega)
  clear kR; have kR := nkR_; clear nkR_
  have zdwx2 := dwx2.size
  have ydwx2 := ho_.size
  clear hk_ ho_ hs_ dwx1
  go_wp2_with fail
  refine (ds_pick 40 (dwx2) (by omega)).mono ?_
  rintro e wx3 ⟨tt, rfl, hk_, dwx3, ho_, hs_⟩
  obtain ⟨tt0, tt1⟩ := hk_ (by omega)
  have nkR_ := Blk.only (kR) ho_ (by omega)
  clear kR; have kR := nkR_; clear nkR_
  have zdwx3 := dwx3.size
  have ydwx3 := ho_.size
  clear hk_ ho_ hs_ dwx2
  have kX : Blk (wx3.alloc (.cells #[.slice none 0 0, .int .i64 (1 + nn), .int .i64 (1 + tt)] 27)) wx3.heap.size 27 #[.slice none 0 0, .int .i64 (1 + nn), .int .i64 (1 + tt)] := Blk.new _ _ _
  have kR2 := Blk.alloc kR (.cells #[.slice none 0 0, .int .i64 (1 + nn), .int .i64 (1 + tt)] 27)
  obtain ⟨X, hX⟩ : ∃ X, wx3.heap.size = X := ⟨_, rfl⟩
  rw [hX] at kX
  have hXw : w.heap.size < X := by have := kR.lt; omega
  have tab : OwnII (wx3.alloc (.cells #[.slice none 0 0, .int .i64 (1 + nn), .int .i64 (1 + tt)] 27)) 34 3 (X + 1) (wx3.alloc (.cells #[.slice none 0 0, .int .i64 (1 + nn), .int .i64 (1 + tt)] 27)).heap.size none 0 0 [] := ownVV_nil _ _ _ _ _
  have dsl := dwx3.alloc (.cells #[.slice none 0 0, .int .i64 (1 + nn), .int .i64 (1 + tt)] 27)
  have HTD := hid (And.intro kX (And.intro kR2 (And.intro tab dsl)))
  clear tab dsl kX kR kR2 hN many0 many1 dwx3
  go_wp2_with fail
  go_loopw [7] (fun i wr => ∃ (k cc q1 : Nat) (AA : Option Addr) (rows : List (List Int)) (NN TT : Int), k ≤ N ∧ i = .int .i64 k ∧ Blk wr X 27 #[.slice AA k cc, .int .i64 NN, .int .i64 TT] ∧ Blk wr w.heap.size 27 #[.slice none 0 0, .int .i64 0, .int .i64 0] ∧ OwnII wr 34 3 (X + 1) wr.heap.size AA k cc rows ∧ Hid (Sq N rows) ∧ DS w wr g q1 ∧ q ≤ q1 ∧ q1 ≤ q + 3 + 32 * k) (fun i _ => N - (intOf i).toNat)
  case atStart => exact ⟨0, 0, _, _, [], _, _, Nat.zero_le _, rfl, HTD.out.1, HTD.out.2.1, HTD.out.2.2.1, hid (by intro r hr; simp at hr), HTD.out.2.2.2, by omega, by omega⟩
  case round =>
    clear HTD
    obtain ⟨k, cc, q1, AA, rows, NN, TT, hk, rfl, kX, kR, tab, HSQ, ds1, hq1, hq2⟩ := hrel
    have zz1 := ds1.size
    have zg := ds1.lt
    have hXl := kX.lt
    by_cases hlt : k < N
    · obtain ⟨wo, hwo⟩ : ∃ wo : World, wo = wr := ⟨_, rfl⟩
      obtain ⟨H, hH⟩ : ∃ H, wo.heap.size = H := ⟨_, rfl⟩
      rw [← hwo] at tab ds1 zz1 zg kX kR hXl
      rw [hH] at tab zz1 zg hXl
      have row0 : Mine (wo.alloc (.cells #[] 3)) H (some ⟨wo.heap.size, 0, none⟩) 0 0 [] := mine_lit0 wo (by omega)
      rw [hH] at row0
      have HT0 := hid (And.intro row0 (And.intro (ds1.alloc (.cells #[] 3)) (And.intro (OwnVV.alloc tab (.cells #[] 3)) (And.intro (Blk.alloc kX (.cells #[] 3)) (Blk.alloc kR (.cells #[] 3))))))
      have hH2 : H ≤ (wo.alloc (.cells #[] 3)).heap.size := by simp; omega
      clear row0 ds1 tab kX kR
      subst hwo
      go_wp2_with fail
      go_loopw [8, 9] (fun v j wr2 => ∃ (m c2 q2 : Nat) (A2 : Option Addr) (ys : List Int), m ≤ N ∧ j = .int .i64 m ∧ v = .slice A2 m c2 ∧ Mine wr2 H A2 m c2 ys ∧ OwnII wr2 34 3 (X + 1) H AA k cc rows ∧ DS w wr2 g q2 ∧ Blk wr2 X 27 #[.slice AA k cc, .int .i64 NN, .int .i64 TT] ∧ Blk wr2 w.heap.size 27 #[.slice none 0 0, .int .i64 0, .int .i64 0] ∧ H ≤ wr2.heap.size ∧ q1 ≤ q2 ∧ q2 ≤ q1 + 2 * m) (fun _ j _ => N - (intOf j).toNat)
      case atStart => exact ⟨0, 0, _, _, [], Nat.zero_le _, rfl, rfl, HT0.out.1, HT0.out.2.2.1, HT0.out.2.1, HT0.out.2.2.2.1, HT0.out.2.2.2.2, hH2, by omega, by omega⟩
      case round =>
        clear HT0
        obtain ⟨m, c2, q2, A2, ys, hm, rfl, rfl, row, tab, ds2, kX, kR, hH3, hq3, hq4⟩ := hrel
        have zz2 := ds2.size
        by_cases hmt : m < N
        · skip
          go_wp2_with fail
          refine (ds_pick 20 (ds2) (by omega)).mono ?_
          rintro e wx4 ⟨kp, rfl, hk_, dwx4, ho_, hs_⟩
          obtain ⟨kp0, kp1⟩ := hk_ (by omega)
          have nrow_ := Mine.only (row) ho_ (by omega)
          clear row; have row := nrow_; clear nrow_
          have ntab_ := OwnVV.only (tab) ho_ (.inr (by omega))
          clear tab; have tab := ntab_; clear ntab_
          have nkX_ := Blk.only (kX) ho_ (by omega)
          clear kX; have kX := nkX_; clear nkX_
          have nkR_ := Blk.only (kR) ho_ (by omega)
          clear kR; have kR := nkR_; clear nkR_
          have zdwx4 := dwx4.size
          have ydwx4 := ho_.size
          clear hk_ ho_ hs_ ds2
          by_cases hkm : k = m
          · skip
            subst hkm
            have he : ((k : Int) == (k : Int)) = true := by simp
            go_wp2_with fail
            refine (ds_pick 256 (dwx4) (by omega)).mono ?_
            rintro e wx5 ⟨kv, rfl, hk_, dwx5, ho_, hs_⟩
            obtain ⟨kv0, kv1⟩ := hk_ (by omega)
            have nrow_ := Mine.only (row) ho_ (by omega)
            clear row; have row := nrow_; clear nrow_
            have ntab_ := OwnVV.only (tab) ho_ (.inr (by omega))
            clear tab; have tab := ntab_; clear ntab_
            have nkX_ := Blk.only (kX) ho_ (by omega)
            clear kX; have kX := nkX_; clear nkX_
            have nkR_ := Blk.only (kR) ho_ (by omega)
            clear kR; have kR := nkR_; clear nkR_
            have zdwx5 := dwx5.size
            have ydwx5 := ho_.size
            clear hk_ ho_ hs_ dwx4
            have rv : IntKind.i64.wrap (20 + kv) = 20 + kv := IntWalk.i64_in _ (by omega)
            go_wp2_with (at_builtin; refine wpList_push rfl _ _ _ rfl H 3 i0 _ 8 Try.underlying34 hi0 hz0 hz1 hz2 rfl (by omega) _ _ A2 k c2 _ rfl row rfl rfl (by omega) (by omega) ?_; intro g_wx6 cap_wx6 wx6 hown_ hgrow_ hlies_ hlt_)
            have dwx6 := dwx5.grownG row hgrow_ (by omega) (by omega) (by omega)
            have hb_ := grown_bel row hgrow_ (by omega)
            have ntab_ := OwnVV.below (tab) hb_ (Nat.le_refl _)
            clear tab; have tab := ntab_; clear ntab_
            have nkX_ := Blk.below (kX) hb_ (by omega)
            clear kX; have kX := nkX_; clear nkX_
            have nkR_ := Blk.below (kR) hb_ (by omega)
            clear kR; have kR := nkR_; clear nkR_
            have nrow_ : Mine wx6 H (some ⟨g_wx6, 0, none⟩) (k + 1) cap_wx6 (ys ++ [(20 + kv)]) := by unfold Mine; rw [List.map_append]; exact hown_
            clear row hown_ hgrow_ hlies_ hb_ dwx5; have row := nrow_; clear nrow_
            have zdwx6 := dwx6.size
            have hHH : H ≤ wx6.heap.size := by have := (OwnV.addr (row.own) rfl); omega
            go_roundw
            case rel => exact ⟨k + 1, cap_wx6, _, _, ys ++ [(20 + kv)], by omega, by go_num, rfl, row, tab, dwx6, kX, kR, by omega, by omega, by omega⟩
            case measure => simp [intOf]; omega
          · skip
            have he : ((k : Int) == (m : Int)) = false := by simp; omega
            go_wp2_with (at_builtin; refine wpList_push rfl _ _ _ rfl H 3 i0 _ 8 Try.underlying34 hi0 hz0 hz1 hz2 rfl (by omega) _ _ A2 m c2 _ rfl row rfl rfl (by omega) (by omega) ?_; intro g_wx7 cap_wx7 wx7 hown_ hgrow_ hlies_ hlt_)
            have dwx7 := dwx4.grownG row hgrow_ (by omega) (by omega) (by omega)
            have hb_ := grown_bel row hgrow_ (by omega)
            have ntab_ := OwnVV.below (tab) hb_ (Nat.le_refl _)
            clear tab; have tab := ntab_; clear ntab_
            have nkX_ := Blk.below (kX) hb_ (by omega)
            clear kX; have kX := nkX_; clear nkX_
            have nkR_ := Blk.below (kR) hb_ (by omega)
            clear kR; have kR := nkR_; clear nkR_
            have nrow_ : Mine wx7 H (some ⟨g_wx7, 0, none⟩) (m + 1) cap_wx7 (ys ++ [kp]) := by unfold Mine; rw [List.map_append]; exact hown_
            clear row hown_ hgrow_ hlies_ hb_ dwx4; have row := nrow_; clear nrow_
            have zdwx7 := dwx7.size
            have hHH : H ≤ wx7.heap.size := by have := (OwnV.addr (row.own) rfl); omega
            go_roundw
            case rel => exact ⟨m + 1, cap_wx7, _, _, ys ++ [kp], by omega, by go_num, rfl, row, tab, dwx7, kX, kR, by omega, by omega, by omega⟩
            case measure => simp [intOf]; omega
        · have hmn : m = N := by omega
          subst hmn
          have hpl : ys.length = m := row.len
          obtain ⟨us, hus, hpush⟩ := OwnVV.push (base := X + 1) tab (row.own) (Nat.le_refl _) (by omega) (Nat.le_refl _) (Nat.le_refl _) hH3
          obtain ⟨d0, d1, d2⟩ := blk3 kX
          have HP := hid hpush
          have HSQ2 : Hid (Sq m (rows ++ [ys])) := hid (by
            intro r hr
            rw [List.mem_append, List.mem_singleton] at hr
            rcases hr with hr | rfl
            · exact HSQ.out r hr
            · exact hpl)
          clear hpush tab
          go_wp2_with (at_builtin; refine wpList_pushZ rfl _ _ _ rfl (X + 1) 34 i1 _ 24 Try.underlying22 hj0 hj1 hj2 hj3 rfl (by omega) _ _ AA k cc us rfl hus wr.heap.size rfl rfl rfl (by omega) (by omega) ?_; intro g_ cap_ w6 hown6 hgrow6 hlies6 hlt6; have kX6 := Blk.below kX (grown_bel hus hgrow6 (by omega)) (Nat.lt_succ_self _); obtain ⟨e0, e1, e2⟩ := blk3 kX6; have f0 := kX6.frozen 0)
          have d6 := ds2.grownG hus hgrow6 (by omega) (by omega) (by omega)
          have t6 := HP.out g_ cap_ w6 hown6 hgrow6 (by rcases hlies6 with h | h; exact .inl h; exact .inr (by omega)) hlt6
          have kR6 := Blk.below kR (grown_bel hus hgrow6 (by omega)) (by omega)
          have d7 := d6.stored (b := X) (k := 0) (by omega) (by omega) (.slice (some ⟨g_, 0, none⟩) (k + 1) cap_)
          have t7 := OwnVV.more (OwnVV.setFar (b := X) (k := 0) t6 (by omega) (.slice (some ⟨g_, 0, none⟩) (k + 1) cap_)) (Nat.le_refl _) (show w6.heap.size ≤ (w6.setCell ⟨X, 0, none⟩ (.slice (some ⟨g_, 0, none⟩) (k + 1) cap_)).heap.size by simp [World.setCell])
          have kX7 := Blk.set_ kX6 0 (.slice (some ⟨g_, 0, none⟩) (k + 1) cap_)
          have kR7 := Blk.far kR6 (p := ⟨X, 0, none⟩) (by show w.heap.size ≠ X; omega) (.slice (some ⟨g_, 0, none⟩) (k + 1) cap_)
          have H6 := hid (And.intro t7 (And.intro d7 (And.intro kX7 kR7)))
          clear t6 d6 t7 d7 kX6 kX7 kR6 kR7 hown6 hgrow6 hlies6 hus kX kR ds2
          go_roundw
          case rel => exact ⟨k + 1, cap_, q2, _, rows ++ [ys], NN, TT, by omega, by go_num, H6.out.2.2.1, H6.out.2.2.2, by unfold OwnII; rw [List.map_append]; exact H6.out.1, HSQ2, H6.out.2.1, by omega, by omega⟩
          case measure => simp [intOf]; omega
    · have hkn : k = N := by omega
      subst hkn
      have hN0 : 0 < k := by omega
      go_wp2_with fail
      refine (ds_odd bad (ds1) (by omega) (by omega)).mono ?_
      rintro e wx8 ⟨bwx8, rfl, ⟨qwx8, qwx8l, qwx8u, dwx8⟩, ho_, hs_⟩
      have ntab_ := OwnVV.only (tab) ho_ (.inr (by omega))
      clear tab; have tab := ntab_; clear ntab_
      have nkX_ := Blk.only (kX) ho_ (by omega)
      clear kX; have kX := nkX_; clear nkX_
      have nkR_ := Blk.only (kR) ho_ (by omega)
      clear kR; have kR := nkR_; clear nkR_
      have zdwx8 := dwx8.size
      have ydwx8 := ho_.size
      clear ho_ hs_ ds1
      obtain ⟨TH, hTH⟩ : ∃ TH, wr.heap.size = TH := ⟨_, rfl⟩
      rw [hTH] at tab zz1 zg hXl ydwx8
      have hXR : w.heap.size ≠ X := by omega
      have hXR2 : ¬ X = w.heap.size := by omega
      cases bwx8
      · skip
        have HF := hid (givesL_of (q := q) (N := NN) (G := TT) (OwnVV.set3 (b := w.heap.size) tab (by omega) (.slice AA k cc) (.int .i64 (NN)) (.int .i64 (TT))) (by simp [World.setCell]; omega) (DS.set3 (b := w.heap.size) dwx8 (by omega) (Nat.le_refl _) (.slice AA k cc) (.int .i64 (NN)) (.int .i64 (TT))) (by omega) (by omega) (by omega) (by omega))
        obtain ⟨x0, x1, x2⟩ := blk3 kX
        obtain ⟨y0, y1, y2⟩ := blk3 kR
        have f0 := Blk.frozen kR 0
        have f1 := Blk.frozen kR 1
        have f2 := Blk.frozen kR 2
        have HKR := hid (show Blk _ w.heap.size 27 #[.slice AA k cc, .int .i64 (NN), .int .i64 (TT)] from Blk.set_ (Blk.set_ (Blk.set_ kR 0 (.slice AA k cc)) 1 (.int .i64 (NN))) 2 (.int .i64 (TT)))
        clear tab kX kR dwx8
        go_wp2
        refine bodyPost_ret (v := .agg #[.slice AA k cc, .int .i64 (NN), .int .i64 (TT)]) (results_cell_row rfl _ _ w.heap.size _ _ _ _ rfl HKR.out Try.underlying27 rfl (by kernel_rfl)) rfl HF.out
      · skip
        go_wp2_with fail
        refine (ds_pick 5 (dwx8) (by omega)).mono ?_
        rintro e wx9 ⟨kk, rfl, hk_, dwx9, ho_, hs_⟩
        obtain ⟨kk0, kk1⟩ := hk_ (by omega)
        have ntab_ := OwnVV.only (tab) ho_ (.inr (by omega))
        clear tab; have tab := ntab_; clear ntab_
        have nkX_ := Blk.only (kX) ho_ (by omega)
        clear kX; have kX := nkX_; clear nkX_
        have nkR_ := Blk.only (kR) ho_ (by omega)
        clear kR; have kR := nkR_; clear nkR_
        have zdwx9 := dwx9.size
        have ydwx9 := ho_.size
        clear hk_ ho_ hs_ dwx8
        rcases (show kk = 0 ∨ kk = 1 ∨ kk = 2 ∨ kk = 3 ∨ kk = 4 by omega) with rfl | rfl | rfl | rfl | rfl
        · skip
          have lit := Blk.new wx9 3 #[.int .i64 0, .int .i64 1001]
          have hlz := dwx9.lt
          have hal : wx9.heap.size ≤ (wx9.alloc (.cells #[.int .i64 0, .int .i64 1001] 3)).heap.size := by simp
          have ntab_ := OwnVV.alloc tab (.cells #[.int .i64 0, .int .i64 1001] 3)
          clear tab; have tab := ntab_; clear ntab_
          have nkX_ := Blk.alloc kX (.cells #[.int .i64 0, .int .i64 1001] 3)
          clear kX; have kX := nkX_; clear nkX_
          have nkR_ := Blk.alloc kR (.cells #[.int .i64 0, .int .i64 1001] 3)
          clear kR; have kR := nkR_; clear nkR_
          have dl := dwx9.alloc (.cells #[.int .i64 0, .int .i64 1001] 3)
          clear dwx9
          go_wp2_with fail
          refine (ds_pick 2 (dl) (by omega)).mono ?_
          rintro e wx10 ⟨pz, rfl, hk_, dwx10, ho_, hs_⟩
          obtain ⟨pz0, pz1⟩ := hk_ (by omega)
          have ntab_ := OwnVV.only (tab) ho_ (.inr (by omega))
          clear tab; have tab := ntab_; clear ntab_
          have nkX_ := Blk.only (kX) ho_ (by omega)
          clear kX; have kX := nkX_; clear nkX_
          have nkR_ := Blk.only (kR) ho_ (by omega)
          clear kR; have kR := nkR_; clear nkR_
          have nlit_ := Blk.only (lit) ho_ (by omega)
          clear lit; have lit := nlit_; clear nlit_
          have zdwx10 := dwx10.size
          have ydwx10 := ho_.size
          clear hk_ ho_ hs_ dl
          rcases (show pz = 0 ∨ pz = 1 by omega) with rfl | rfl
          · skip
            have l0 : wx10.cell? ⟨wx9.heap.size, 0, none⟩ = some (.int .i64 0) := (lit.cell 0).trans rfl
            have l1 : wx10.cell? ⟨wx9.heap.size, 1, none⟩ = some (.int .i64 1001) := (lit.cell 1).trans rfl
            obtain ⟨v0, v1, v2⟩ := blk3 kX
            have g0 := kX.frozen 1
            have kX2 := Blk.set_ kX 1 (.int .i64 0)
            have kR2 := Blk.far kR (p := ⟨X, 1, none⟩) hXR (.int .i64 0)
            have tab2 := OwnVV.setFar (b := X) (k := 1) tab (by omega) (.int .i64 0)
            have d2 := dwx10.stored (b := X) (k := 1) (by omega) (by omega) (.int .i64 0)
            have HF := hid (givesL_of (q := q) (N := 0) (G := TT) (OwnVV.set3 (b := w.heap.size) tab2 (by omega) (.slice AA k cc) (.int .i64 (0)) (.int .i64 (TT))) (by simp [World.setCell]; omega) (DS.set3 (b := w.heap.size) d2 (by omega) (Nat.le_refl _) (.slice AA k cc) (.int .i64 (0)) (.int .i64 (TT))) (by omega) (by omega) (by omega) (by omega))
            obtain ⟨x0, x1, x2⟩ := blk3 kX2
            obtain ⟨y0, y1, y2⟩ := blk3 kR2
            have f0 := Blk.frozen kR2 0
            have f1 := Blk.frozen kR2 1
            have f2 := Blk.frozen kR2 2
            have HKR := hid (show Blk _ w.heap.size 27 #[.slice AA k cc, .int .i64 (0), .int .i64 (TT)] from Blk.set_ (Blk.set_ (Blk.set_ kR2 0 (.slice AA k cc)) 1 (.int .i64 (0))) 2 (.int .i64 (TT)))
            clear tab kX kR tab2 kX2 kR2 d2 lit dwx10
            go_wp2
            refine bodyPost_ret (v := .agg #[.slice AA k cc, .int .i64 (0), .int .i64 (TT)]) (results_cell_row rfl _ _ w.heap.size _ _ _ _ rfl HKR.out Try.underlying27 rfl (by kernel_rfl)) rfl HF.out
          · skip
            have l0 : wx10.cell? ⟨wx9.heap.size, 0, none⟩ = some (.int .i64 0) := (lit.cell 0).trans rfl
            have l1 : wx10.cell? ⟨wx9.heap.size, 1, none⟩ = some (.int .i64 1001) := (lit.cell 1).trans rfl
            obtain ⟨v0, v1, v2⟩ := blk3 kX
            have g0 := kX.frozen 1
            have kX2 := Blk.set_ kX 1 (.int .i64 1001)
            have kR2 := Blk.far kR (p := ⟨X, 1, none⟩) hXR (.int .i64 1001)
            have tab2 := OwnVV.setFar (b := X) (k := 1) tab (by omega) (.int .i64 1001)
            have d2 := dwx10.stored (b := X) (k := 1) (by omega) (by omega) (.int .i64 1001)
            have HF := hid (givesL_of (q := q) (N := 1001) (G := TT) (OwnVV.set3 (b := w.heap.size) tab2 (by omega) (.slice AA k cc) (.int .i64 (1001)) (.int .i64 (TT))) (by simp [World.setCell]; omega) (DS.set3 (b := w.heap.size) d2 (by omega) (Nat.le_refl _) (.slice AA k cc) (.int .i64 (1001)) (.int .i64 (TT))) (by omega) (by omega) (by omega) (by omega))
            obtain ⟨x0, x1, x2⟩ := blk3 kX2
            obtain ⟨y0, y1, y2⟩ := blk3 kR2
            have f0 := Blk.frozen kR2 0
            have f1 := Blk.frozen kR2 1
            have f2 := Blk.frozen kR2 2
            have HKR := hid (show Blk _ w.heap.size 27 #[.slice AA k cc, .int .i64 (1001), .int .i64 (TT)] from Blk.set_ (Blk.set_ (Blk.set_ kR2 0 (.slice AA k cc)) 1 (.int .i64 (1001))) 2 (.int .i64 (TT)))
            clear tab kX kR tab2 kX2 kR2 d2 lit dwx10
            go_wp2
            refine bodyPost_ret (v := .agg #[.slice AA k cc, .int .i64 (1001), .int .i64 (TT)]) (results_cell_row rfl _ _ w.heap.size _ _ _ _ rfl HKR.out Try.underlying27 rfl (by kernel_rfl)) rfl HF.out
        · skip
          have lit := Blk.new wx9 3 #[.int .i64 0, .int .i64 101]
          have hlz := dwx9.lt
          have hal : wx9.heap.size ≤ (wx9.alloc (.cells #[.int .i64 0, .int .i64 101] 3)).heap.size := by simp
          have ntab_ := OwnVV.alloc tab (.cells #[.int .i64 0, .int .i64 101] 3)
          clear tab; have tab := ntab_; clear ntab_
          have nkX_ := Blk.alloc kX (.cells #[.int .i64 0, .int .i64 101] 3)
          clear kX; have kX := nkX_; clear nkX_
          have nkR_ := Blk.alloc kR (.cells #[.int .i64 0, .int .i64 101] 3)
          clear kR; have kR := nkR_; clear nkR_
          have dl := dwx9.alloc (.cells #[.int .i64 0, .int .i64 101] 3)
          clear dwx9
          go_wp2_with fail
          refine (ds_pick 2 (dl) (by omega)).mono ?_
          rintro e wx11 ⟨pz, rfl, hk_, dwx11, ho_, hs_⟩
          obtain ⟨pz0, pz1⟩ := hk_ (by omega)
          have ntab_ := OwnVV.only (tab) ho_ (.inr (by omega))
          clear tab; have tab := ntab_; clear ntab_
          have nkX_ := Blk.only (kX) ho_ (by omega)
          clear kX; have kX := nkX_; clear nkX_
          have nkR_ := Blk.only (kR) ho_ (by omega)
          clear kR; have kR := nkR_; clear nkR_
          have nlit_ := Blk.only (lit) ho_ (by omega)
          clear lit; have lit := nlit_; clear nlit_
          have zdwx11 := dwx11.size
          have ydwx11 := ho_.size
          clear hk_ ho_ hs_ dl
          rcases (show pz = 0 ∨ pz = 1 by omega) with rfl | rfl
          · skip
            have l0 : wx11.cell? ⟨wx9.heap.size, 0, none⟩ = some (.int .i64 0) := (lit.cell 0).trans rfl
            have l1 : wx11.cell? ⟨wx9.heap.size, 1, none⟩ = some (.int .i64 101) := (lit.cell 1).trans rfl
            obtain ⟨v0, v1, v2⟩ := blk3 kX
            have g0 := kX.frozen 2
            have kX2 := Blk.set_ kX 2 (.int .i64 0)
            have kR2 := Blk.far kR (p := ⟨X, 2, none⟩) hXR (.int .i64 0)
            have tab2 := OwnVV.setFar (b := X) (k := 2) tab (by omega) (.int .i64 0)
            have d2 := dwx11.stored (b := X) (k := 2) (by omega) (by omega) (.int .i64 0)
            have HF := hid (givesL_of (q := q) (N := NN) (G := 0) (OwnVV.set3 (b := w.heap.size) tab2 (by omega) (.slice AA k cc) (.int .i64 (NN)) (.int .i64 (0))) (by simp [World.setCell]; omega) (DS.set3 (b := w.heap.size) d2 (by omega) (Nat.le_refl _) (.slice AA k cc) (.int .i64 (NN)) (.int .i64 (0))) (by omega) (by omega) (by omega) (by omega))
            obtain ⟨x0, x1, x2⟩ := blk3 kX2
            obtain ⟨y0, y1, y2⟩ := blk3 kR2
            have f0 := Blk.frozen kR2 0
            have f1 := Blk.frozen kR2 1
            have f2 := Blk.frozen kR2 2
            have HKR := hid (show Blk _ w.heap.size 27 #[.slice AA k cc, .int .i64 (NN), .int .i64 (0)] from Blk.set_ (Blk.set_ (Blk.set_ kR2 0 (.slice AA k cc)) 1 (.int .i64 (NN))) 2 (.int .i64 (0)))
            clear tab kX kR tab2 kX2 kR2 d2 lit dwx11
            go_wp2
            refine bodyPost_ret (v := .agg #[.slice AA k cc, .int .i64 (NN), .int .i64 (0)]) (results_cell_row rfl _ _ w.heap.size _ _ _ _ rfl HKR.out Try.underlying27 rfl (by kernel_rfl)) rfl HF.out
          · skip
            have l0 : wx11.cell? ⟨wx9.heap.size, 0, none⟩ = some (.int .i64 0) := (lit.cell 0).trans rfl
            have l1 : wx11.cell? ⟨wx9.heap.size, 1, none⟩ = some (.int .i64 101) := (lit.cell 1).trans rfl
            obtain ⟨v0, v1, v2⟩ := blk3 kX
            have g0 := kX.frozen 2
            have kX2 := Blk.set_ kX 2 (.int .i64 101)
            have kR2 := Blk.far kR (p := ⟨X, 2, none⟩) hXR (.int .i64 101)
            have tab2 := OwnVV.setFar (b := X) (k := 2) tab (by omega) (.int .i64 101)
            have d2 := dwx11.stored (b := X) (k := 2) (by omega) (by omega) (.int .i64 101)
            have HF := hid (givesL_of (q := q) (N := NN) (G := 101) (OwnVV.set3 (b := w.heap.size) tab2 (by omega) (.slice AA k cc) (.int .i64 (NN)) (.int .i64 (101))) (by simp [World.setCell]; omega) (DS.set3 (b := w.heap.size) d2 (by omega) (Nat.le_refl _) (.slice AA k cc) (.int .i64 (NN)) (.int .i64 (101))) (by omega) (by omega) (by omega) (by omega))
            obtain ⟨x0, x1, x2⟩ := blk3 kX2
            obtain ⟨y0, y1, y2⟩ := blk3 kR2
            have f0 := Blk.frozen kR2 0
            have f1 := Blk.frozen kR2 1
            have f2 := Blk.frozen kR2 2
            have HKR := hid (show Blk _ w.heap.size 27 #[.slice AA k cc, .int .i64 (NN), .int .i64 (101)] from Blk.set_ (Blk.set_ (Blk.set_ kR2 0 (.slice AA k cc)) 1 (.int .i64 (NN))) 2 (.int .i64 (101)))
            clear tab kX kR tab2 kX2 kR2 d2 lit dwx11
            go_wp2
            refine bodyPost_ret (v := .agg #[.slice AA k cc, .int .i64 (NN), .int .i64 (101)]) (results_cell_row rfl _ _ w.heap.size _ _ _ _ rfl HKR.out Try.underlying27 rfl (by kernel_rfl)) rfl HF.out
        · skip
          obtain ⟨gt, b, c', y, rfl, hne, hcl, h1, h2, h3, h4, h5, h6, hcy, hf, _⟩ := OwnII.cellset (k := 0) (j := 0) tab (by omega) HSQ.out (by omega) 1
          have hgtz : gt < wx9.heap.size := by obtain ⟨_, hh, _⟩ := tab; have hlt : gt < TH := (OwnV.addr hh rfl).2.1; omega
          have hS0 : Hid (LinkS w 34 3 27 #[.slice (some ⟨gt, 0, none⟩) k cc, .int .i64 NN, .int .i64 TT] #[.slice none 0 0, .int .i64 0, .int .i64 0] g q (qwx8 + 1) X TH wx9.heap.size gt b k cc c' 0 wx9) := hid ⟨_, rows, by omega, by omega, dwx9, tab, HSQ.out, hcl, Nat.le_refl _, kX, kR⟩
          clear tab dwx9 hcl hcy hf kX kR
          go_wp2_with fail
          refine wp_region_g (by kernel_rfl) [[], [0], [1], [2], [], [], [5], [4, 6], [7], [3], [8, 9]] (by kernel_rfl) 11 (by rfl) [some 75, some 76, some 77, some 78, some 79, some 80, some 81, some 82, some 83, some 84, none] (by rfl)
            [fun v x _ => v = .pointer (some ⟨X, 0, none⟩),
             fun v x _ => v = .slice (some ⟨gt, 0, none⟩) k cc,
             fun v x _ => v = .pointer (some ⟨gt, 0, none⟩),
             fun v x _ => v = .slice (some ⟨b, 0, none⟩) k c',
             fun v x w' => ∃ bb : Nat, v = .slice (some ⟨bb, 0, none⟩) 2 2 ∧ wx9.heap.size ≤ bb ∧ Blk w' bb 3 #[.int .i64 0, .int .i64 1001],
             fun v x _ => v = .pointer (some ⟨g, 0, none⟩),
             fun v x _ => ∃ kp : Int, v = .int .i64 kp ∧ 0 ≤ kp ∧ kp < 2,
             fun v x w' => ∃ (bb : Nat) (kp : Int), v = .pointer (some ⟨bb, kp.toNat, none⟩) ∧ wx9.heap.size ≤ bb ∧ Blk w' bb 3 #[.int .i64 0, .int .i64 1001] ∧ 0 ≤ kp ∧ kp < 2,
             fun v x _ => ∃ z : Int, v = .int .i64 z,
             fun v x _ => v = .pointer (some ⟨b, 0, none⟩),
             fun v x _ => True]
            (fun c w' => LinkS w 34 3 27 #[.slice (some ⟨gt, 0, none⟩) k cc, .int .i64 NN, .int .i64 TT] #[.slice none 0 0, .int .i64 0, .int .i64 0] g q (qwx8 + 1) X TH wx9.heap.size gt b k cc c' c w') (NewR wx9.heap.size) (fun _ => NewR.refl _ _) (hS0.out.drew) ?loc ?ob ?fin
          case loc =>
            refine ⟨⟨⟨⟨⟨⟨⟨⟨⟨⟨⟨trivial, ?_⟩, ?_⟩, ?_⟩, ?_⟩, ?_⟩, ?_⟩, ?_⟩, ?_⟩, ?_⟩, ?_⟩, ?_⟩
            · exact fun _ _ _ _ _ _ _ h => h
            · exact fun _ _ _ _ _ _ _ h => h
            · exact fun _ _ _ _ _ _ _ h => h
            · exact fun _ _ _ _ _ _ _ h => h
            · intro v x x' w w' hx hR h
              revert h
              show (fun v x w' => ∃ bb : Nat, v = .slice (some ⟨bb, 0, none⟩) 2 2 ∧ wx9.heap.size ≤ bb ∧ Blk w' bb 3 #[.int .i64 0, .int .i64 1001]) v x w → (fun v x w' => ∃ bb : Nat, v = .slice (some ⟨bb, 0, none⟩) 2 2 ∧ wx9.heap.size ≤ bb ∧ Blk w' bb 3 #[.int .i64 0, .int .i64 1001]) v x' w'
              intro h
              obtain ⟨bb, e, h1, h2⟩ := h; exact ⟨bb, e, h1, hR.blk h2 h1⟩
            · exact fun _ _ _ _ _ _ _ h => h
            · intro v x x' w w' hx hR h
              revert h
              show (fun v x _ => ∃ kp : Int, v = .int .i64 kp ∧ 0 ≤ kp ∧ kp < 2) v x w → (fun v x _ => ∃ kp : Int, v = .int .i64 kp ∧ 0 ≤ kp ∧ kp < 2) v x' w'
              intro h
              exact h
            · intro v x x' w w' hx hR h
              revert h
              show (fun v x w' => ∃ (bb : Nat) (kp : Int), v = .pointer (some ⟨bb, kp.toNat, none⟩) ∧ wx9.heap.size ≤ bb ∧ Blk w' bb 3 #[.int .i64 0, .int .i64 1001] ∧ 0 ≤ kp ∧ kp < 2) v x w → (fun v x w' => ∃ (bb : Nat) (kp : Int), v = .pointer (some ⟨bb, kp.toNat, none⟩) ∧ wx9.heap.size ≤ bb ∧ Blk w' bb 3 #[.int .i64 0, .int .i64 1001] ∧ 0 ≤ kp ∧ kp < 2) v x' w'
              intro h
              obtain ⟨bb, kp, e, h1, h2, h3⟩ := h; exact ⟨bb, kp, e, h1, hR.blk h2 h1, h3⟩
            · intro v x x' w w' hx hR h
              revert h
              show (fun v x _ => ∃ z : Int, v = .int .i64 z) v x w → (fun v x _ => ∃ z : Int, v = .int .i64 z) v x' w'
              intro h
              exact h
            · exact fun _ _ _ _ _ _ _ h => h
            · intro v x x' w w' hx hR h
              revert h
              show (fun v x _ => True) v x w → (fun v x _ => True) v x' w'
              intro h
              exact h
          case ob =>
            refine ⟨⟨⟨⟨⟨⟨⟨⟨⟨⟨⟨trivial, ?_⟩, ?_⟩, ?_⟩, ?_⟩, ?_⟩, ?_⟩, ?_⟩, ?_⟩, ?_⟩, ?_⟩, ?_⟩
            · intro c hc x W hS hd KO hK
              clear hd
              simp only [List.getD_cons_zero, fillL, Nat.reduceAdd, Act.put, List.setIfInBounds_toArray, List.set_cons_zero, List.set_cons_succ] at hK ⊢
              refine wpOp_plain rfl rfl ?_
              go_simp
              exact hK _ _ hS.step (NewR.refl _ _) rfl
            · intro c hc x W hS hd KO hK
              have h0 : (fun v x _ => v = .pointer (some ⟨X, 0, none⟩)) (x 0) x W := hd 0 (by decide)
              have e0 : x 0 = .pointer (some ⟨X, 0, none⟩) := h0
              clear h0
              clear hd
              obtain ⟨v0, v1, v2⟩ := blk3 hS.box
              simp only [List.getD_cons_zero, List.getD_cons_succ, fillL, Nat.reduceAdd, Act.put, List.setIfInBounds_toArray, List.set_cons_zero, List.set_cons_succ, e0] at hK ⊢
              refine wpOp_plain rfl rfl ?_
              go_simp
              exact hK _ _ hS.step (NewR.refl _ _) rfl
            · intro c hc x W hS hd KO hK
              have h1 : (fun v x _ => v = .slice (some ⟨gt, 0, none⟩) k cc) (x 1) x W := hd 1 (by decide)
              have e1 : x 1 = .slice (some ⟨gt, 0, none⟩) k cc := h1
              clear h1
              clear hd
              simp only [List.getD_cons_zero, List.getD_cons_succ, fillL, Nat.reduceAdd, Act.put, List.setIfInBounds_toArray, List.set_cons_zero, List.set_cons_succ, e1] at hK ⊢
              refine wpOp_plain rfl rfl ?_
              go_simp
              exact hK _ _ hS.step (NewR.refl _ _) rfl
            · intro c hc x W hS hd KO hK
              have h2 : (fun v x _ => v = .pointer (some ⟨gt, 0, none⟩)) (x 2) x W := hd 2 (by decide)
              have e2 : x 2 = .pointer (some ⟨gt, 0, none⟩) := h2
              clear h2
              clear hd
              have hc9 := hS.cell
              simp only [List.getD_cons_zero, List.getD_cons_succ, fillL, Nat.reduceAdd, Act.put, List.setIfInBounds_toArray, List.set_cons_zero, List.set_cons_succ, e2] at hK ⊢
              refine wpOp_plain rfl rfl ?_
              go_simp
              exact hK _ _ hS.step (NewR.refl _ _) rfl
            · intro c hc x W hS hd KO hK
              clear hd
              simp only [List.getD_cons_zero, List.getD_cons_succ, fillL, Nat.reduceAdd, Act.put, List.setIfInBounds_toArray, List.set_cons_zero, List.set_cons_succ] at hK ⊢
              refine wpOp_plain rfl rfl ?_
              have hzW := hS.size
              go_simp
              exact hK _ _ (hS.alloc _ (by omega)) (NewR.alloc _ _ _) ⟨W.heap.size, rfl, hzW, Blk.new _ _ _⟩
            · intro c hc x W hS hd KO hK
              clear hd
              simp only [List.getD_cons_zero, List.getD_cons_succ, fillL, Nat.reduceAdd, Act.put, List.setIfInBounds_toArray, List.set_cons_zero, List.set_cons_succ] at hK ⊢
              refine wpOp_plain rfl rfl ?_
              go_simp
              exact hK _ _ hS.step (NewR.refl _ _) rfl
            · intro c hc x W hS hd KO hK
              have h5 : (fun v x _ => v = .pointer (some ⟨g, 0, none⟩)) (x 5) x W := hd 5 (by decide)
              have e5 : x 5 = .pointer (some ⟨g, 0, none⟩) := h5
              clear h5
              clear hd
              simp only [List.getD_cons_zero, List.getD_cons_succ, fillL, Nat.reduceAdd, Act.put, List.setIfInBounds_toArray, List.set_cons_zero, List.set_cons_succ, e5] at hK ⊢
              refine wpOp_plain rfl rfl ?_
              obtain ⟨qq, rr, hq1, hq2, hd1, ht1, hsq1, hc1, hz1, kx1, kr1⟩ := hS
              go_simp
              refine (ds_pick 2 hd1 (by omega)).mono ?_
              rintro e W1 ⟨kp, rfl, hkp, hd2, ho, hs⟩
              obtain ⟨k0, k1⟩ := hkp (by omega)
              go_wp2_with fail
              exact hK _ _ ⟨qq + 1, rr, by omega, by omega, hd2, OwnVV.only ht1 ho (.inr (by omega)), hsq1, (World.cell?_of_block (ho.block gt (by omega) (by omega))).trans hc1, by rw [hs]; exact hz1, Blk.only kx1 ho (by omega), Blk.only kr1 ho (by omega)⟩ (NewR.only ho (by omega)) ⟨kp, rfl, k0, k1⟩
            · intro c hc x W hS hd KO hK
              have h4 : (fun v x w' => ∃ bb : Nat, v = .slice (some ⟨bb, 0, none⟩) 2 2 ∧ wx9.heap.size ≤ bb ∧ Blk w' bb 3 #[.int .i64 0, .int .i64 1001]) (x 4) x W := hd 4 (by decide)
              have h6 : (fun v x _ => ∃ kp : Int, v = .int .i64 kp ∧ 0 ≤ kp ∧ kp < 2) (x 6) x W := hd 6 (by decide)
              clear hd
              obtain ⟨bb, eb, hb1, hb2⟩ := h4
              obtain ⟨kp, ek, k0, k1⟩ := h6
              simp only [List.getD_cons_zero, List.getD_cons_succ, fillL, Nat.reduceAdd, Act.put, List.setIfInBounds_toArray, List.set_cons_zero, List.set_cons_succ, eb, ek] at hK ⊢
              refine wpOp_plain rfl rfl ?_
              go_simp
              exact hK _ _ hS.step (NewR.refl _ _) ⟨bb, kp, rfl, hb1, hb2, k0, k1⟩
            · intro c hc x W hS hd KO hK
              have h7 : (fun v x w' => ∃ (bb : Nat) (kp : Int), v = .pointer (some ⟨bb, kp.toNat, none⟩) ∧ wx9.heap.size ≤ bb ∧ Blk w' bb 3 #[.int .i64 0, .int .i64 1001] ∧ 0 ≤ kp ∧ kp < 2) (x 7) x W := hd 7 (by decide)
              clear hd
              obtain ⟨bb, kp, eb, hb1, hb2, k0, k1⟩ := h7
              obtain ⟨z, hz, _, _⟩ := tab_get (ys := [0, 1001]) hb2 rfl kp k0 (by simp; omega) (P := fun y => 0 ≤ y ∧ y ≤ 1001) (by intro y hy; simp at hy; omega)
              simp only [List.getD_cons_zero, List.getD_cons_succ, fillL, Nat.reduceAdd, Act.put, List.setIfInBounds_toArray, List.set_cons_zero, List.set_cons_succ, eb] at hK ⊢
              refine wpOp_plain rfl rfl ?_
              go_simp
              exact hK _ _ hS.step (NewR.refl _ _) ⟨z, rfl⟩
            · intro c hc x W hS hd KO hK
              have h3 : (fun v x _ => v = .slice (some ⟨b, 0, none⟩) k c') (x 3) x W := hd 3 (by decide)
              have e3 : x 3 = .slice (some ⟨b, 0, none⟩) k c' := h3
              clear h3
              clear hd
              simp only [List.getD_cons_zero, List.getD_cons_succ, fillL, Nat.reduceAdd, Act.put, List.setIfInBounds_toArray, List.set_cons_zero, List.set_cons_succ, e3] at hK ⊢
              refine wpOp_plain rfl rfl ?_
              go_simp
              exact hK _ _ hS.step (NewR.refl _ _) rfl
            · intro c hc x W hS hd KO hK
              have h8 : (fun v x _ => ∃ z : Int, v = .int .i64 z) (x 8) x W := hd 8 (by decide)
              have h9 : (fun v x _ => v = .pointer (some ⟨b, 0, none⟩)) (x 9) x W := hd 9 (by decide)
              have e9 : x 9 = .pointer (some ⟨b, 0, none⟩) := h9
              clear h9
              clear hd
              obtain ⟨z, ez⟩ := h8
              obtain ⟨qq, rr, hq1, hq2, hd1, ht1, hsq1, hc1, hz1, kx1, kr1⟩ := hS
              obtain ⟨gq, bq, cq, y, eq9, hneq, hclq, z1, z2, z3, z4, z5, z6, hcyq, hfq, rowsq, hoq, hsqq⟩ := OwnII.cellset (k := 0) (j := 0) ht1 (by omega) hsq1 (by omega) z
              injection eq9 with eq9
              injection eq9 with eq9 _
              subst eq9
              rw [hc1] at hclq
              injection hclq with hclq
              injection hclq with a1 _ a2
              injection a1 with a1
              injection a1 with a1 _
              subst a1 a2
              have HQ := hid (And.intro hoq hsqq)
              clear hoq
              simp only [List.getD_cons_zero, List.getD_cons_succ, fillL, Nat.reduceAdd, Act.put, List.setIfInBounds_toArray, List.set_cons_zero, List.set_cons_succ, e9, ez] at hK ⊢
              refine wpOp_plain rfl rfl ?_
              go_simp
              exact hK undef _ ⟨qq, rowsq, hq1, by omega, hd1.stored (by omega) (by omega) _, HQ.out.1, hsqq, by rw [World.cell?_setCell_other _ _ _ _ (by intro e; injection e with e; exact hneq e.symm)]; exact hc1, by simpa [World.setCell] using hz1, Blk.far kx1 (by show X ≠ b; omega) _, Blk.far kr1 (by show w.heap.size ≠ b; omega) _⟩ (NewR.setCell _ (by show b < _; omega) _) trivial
          case fin =>
            intro x W hS hd
            have h0 : (fun v x _ => v = .pointer (some ⟨X, 0, none⟩)) (x 0) x W := hd 0 (by decide)
            have e0 : x 0 = .pointer (some ⟨X, 0, none⟩) := h0
            clear h0
            have h1 : (fun v x _ => v = .slice (some ⟨gt, 0, none⟩) k cc) (x 1) x W := hd 1 (by decide)
            have e1 : x 1 = .slice (some ⟨gt, 0, none⟩) k cc := h1
            clear h1
            have h2 : (fun v x _ => v = .pointer (some ⟨gt, 0, none⟩)) (x 2) x W := hd 2 (by decide)
            have e2 : x 2 = .pointer (some ⟨gt, 0, none⟩) := h2
            clear h2
            have h3 : (fun v x _ => v = .slice (some ⟨b, 0, none⟩) k c') (x 3) x W := hd 3 (by decide)
            have e3 : x 3 = .slice (some ⟨b, 0, none⟩) k c' := h3
            clear h3
            have h4 : (fun v x w' => ∃ bb : Nat, v = .slice (some ⟨bb, 0, none⟩) 2 2 ∧ wx9.heap.size ≤ bb ∧ Blk w' bb 3 #[.int .i64 0, .int .i64 1001]) (x 4) x W := hd 4 (by decide)
            have h5 : (fun v x _ => v = .pointer (some ⟨g, 0, none⟩)) (x 5) x W := hd 5 (by decide)
            have e5 : x 5 = .pointer (some ⟨g, 0, none⟩) := h5
            clear h5
            have h6 : (fun v x _ => ∃ kp : Int, v = .int .i64 kp ∧ 0 ≤ kp ∧ kp < 2) (x 6) x W := hd 6 (by decide)
            have h7 : (fun v x w' => ∃ (bb : Nat) (kp : Int), v = .pointer (some ⟨bb, kp.toNat, none⟩) ∧ wx9.heap.size ≤ bb ∧ Blk w' bb 3 #[.int .i64 0, .int .i64 1001] ∧ 0 ≤ kp ∧ kp < 2) (x 7) x W := hd 7 (by decide)
            have h8 : (fun v x _ => ∃ z : Int, v = .int .i64 z) (x 8) x W := hd 8 (by decide)
            have h9 : (fun v x _ => v = .pointer (some ⟨b, 0, none⟩)) (x 9) x W := hd 9 (by decide)
            have e9 : x 9 = .pointer (some ⟨b, 0, none⟩) := h9
            clear h9
            have h10 : (fun v x _ => True) (x 10) x W := hd 10 (by decide)
            clear hd
            simp only [fillL, Nat.reduceAdd, Act.put, List.setIfInBounds_toArray, List.set_cons_zero, List.set_cons_succ, e0, e1, e2, e3, e5, e9]
            clear e0 e1 e2 e3 e5 e9
            obtain ⟨qq, rr, hq1, hq2, hd1, ht1, hsq1, hc1, hz1, kx1, kr1⟩ := hS
            clear hc1 hS0
            have HF := hid (givesL_of (q := q) (N := NN) (G := TT) (OwnVV.set3 (b := w.heap.size) ht1 (by omega) (.slice (some ⟨gt, 0, none⟩) k cc) (.int .i64 (NN)) (.int .i64 (TT))) (by simp [World.setCell]; omega) (DS.set3 (b := w.heap.size) hd1 (by omega) (Nat.le_refl _) (.slice (some ⟨gt, 0, none⟩) k cc) (.int .i64 (NN)) (.int .i64 (TT))) (by omega) (by omega) (by omega) (by omega))
            obtain ⟨x0, x1, x2⟩ := blk3 kx1
            obtain ⟨y0, y1, y2⟩ := blk3 kr1
            have f0 := Blk.frozen kr1 0
            have f1 := Blk.frozen kr1 1
            have f2 := Blk.frozen kr1 2
            have HKR := hid (show Blk _ w.heap.size 27 #[.slice (some ⟨gt, 0, none⟩) k cc, .int .i64 (NN), .int .i64 (TT)] from Blk.set_ (Blk.set_ (Blk.set_ kr1 0 (.slice (some ⟨gt, 0, none⟩) k cc)) 1 (.int .i64 (NN))) 2 (.int .i64 (TT)))
            clear ht1 kx1 kr1 hd1
            go_wp2
            refine bodyPost_ret (v := .agg #[.slice (some ⟨gt, 0, none⟩) k cc, .int .i64 (NN), .int .i64 (TT)]) (results_cell_row rfl _ _ w.heap.size _ _ _ _ rfl HKR.out Try.underlying27 rfl (by kernel_rfl)) rfl HF.out
        · skip
          obtain ⟨gt, A', n', c', vs, rfl, hvs, hvl, g1, g2, hcl, hc1, hc2, hA', hown, _⟩ := OwnVV.regrow (k := 0) tab (by omega) (by omega)
          have hn' : n' = k := by rw [← hvl]; exact HSQ.out.at_ vs hvs
          rw [hn'] at hcl hc1 hown
          have hgtz : gt < wx9.heap.size := by omega
          have hS0 : Hid (∀ v, LinkL w 34 3 27 #[.slice (some ⟨gt, 0, none⟩) k cc, .int .i64 NN, .int .i64 TT] #[.slice none 0 0, .int .i64 0, .int .i64 0] g (qwx8 + 1) X TH wx9.heap.size gt A' k cc c' rows false false v wx9) := hid (fun v => ⟨dwx9, Nat.le_refl _, kX, kR, fun _ => hcl, fun _ => tab, fun h => (by cases h), fun h => (by cases h)⟩)
          clear tab dwx9 hcl kX kR hvs hvl hn' hown
          go_wp2_with fail
          refine wp_region_gL (by kernel_rfl) [[], [0], [], [2], [3], [4], [], [5, 6], [1], [7, 8]] (by kernel_rfl) 10 (by rfl) [some 87, some 88, some 89, some 90, some 91, some 92, some 93, some 94, some 95, none] (by rfl)
            [fun v x _ => v = .pointer (some ⟨X, 0, none⟩),
             fun v x _ => v = .slice (some ⟨gt, 0, none⟩) k cc,
             fun v x _ => v = .pointer (some ⟨X, 0, none⟩),
             fun v x _ => v = .slice (some ⟨gt, 0, none⟩) k cc,
             fun v x _ => v = .pointer (some ⟨gt, 0, none⟩),
             fun v x _ => v = .slice A' k c',
             fun v x w' => ∃ bb : Nat, v = .slice (some ⟨bb, 0, none⟩) 1 1 ∧ wx9.heap.size ≤ bb ∧ Blk w' bb 3 #[.int .i64 5],
             fun v x _ => ∃ g7 cap7 : Nat, v = .slice (some ⟨g7, 0, none⟩) (k + 1) cap7,
             fun v x _ => v = .pointer (some ⟨gt, 0, none⟩),
             fun v x _ => True]
            (fun L x w' => LinkL w 34 3 27 #[.slice (some ⟨gt, 0, none⟩) k cc, .int .i64 NN, .int .i64 TT] #[.slice none 0 0, .int .i64 0, .int .i64 0] g (qwx8 + 1) X TH wx9.heap.size gt A' k cc c' rows (L 7) (L 9) (x 7) w') (NewR wx9.heap.size) (fun _ => NewR.refl _ _) (fun x => ⟨(hS0.out (x 7)).1.drew, (hS0.out (x 7)).2⟩) ?loc ?ob ?fin
          case loc =>
            refine ⟨⟨⟨⟨⟨⟨⟨⟨⟨⟨trivial, ?_⟩, ?_⟩, ?_⟩, ?_⟩, ?_⟩, ?_⟩, ?_⟩, ?_⟩, ?_⟩, ?_⟩
            · exact fun _ _ _ _ _ _ _ h => h
            · exact fun _ _ _ _ _ _ _ h => h
            · exact fun _ _ _ _ _ _ _ h => h
            · exact fun _ _ _ _ _ _ _ h => h
            · exact fun _ _ _ _ _ _ _ h => h
            · exact fun _ _ _ _ _ _ _ h => h
            · intro v x x' w w' hx hR h
              revert h
              show (fun v x w' => ∃ bb : Nat, v = .slice (some ⟨bb, 0, none⟩) 1 1 ∧ wx9.heap.size ≤ bb ∧ Blk w' bb 3 #[.int .i64 5]) v x w → (fun v x w' => ∃ bb : Nat, v = .slice (some ⟨bb, 0, none⟩) 1 1 ∧ wx9.heap.size ≤ bb ∧ Blk w' bb 3 #[.int .i64 5]) v x' w'
              intro h
              obtain ⟨bb, e, h1, h2⟩ := h; exact ⟨bb, e, h1, hR.blk h2 h1⟩
            · intro v x x' w w' hx hR h
              revert h
              show (fun v x _ => ∃ g7 cap7 : Nat, v = .slice (some ⟨g7, 0, none⟩) (k + 1) cap7) v x w → (fun v x _ => ∃ g7 cap7 : Nat, v = .slice (some ⟨g7, 0, none⟩) (k + 1) cap7) v x' w'
              intro h
              exact h
            · exact fun _ _ _ _ _ _ _ h => h
            · intro v x x' w w' hx hR h
              revert h
              show (fun v x _ => True) v x w → (fun v x _ => True) v x' w'
              intro h
              exact h
          case ob =>
            refine ⟨⟨⟨⟨⟨⟨⟨⟨⟨⟨trivial, ?_⟩, ?_⟩, ?_⟩, ?_⟩, ?_⟩, ?_⟩, ?_⟩, ?_⟩, ?_⟩, ?_⟩
            · intro L hL hLa hLc x W hS hd KO hK
              clear hd
              simp only [List.getD_cons_zero, fillL, Nat.reduceAdd, Act.put, List.setIfInBounds_toArray, List.set_cons_zero, List.set_cons_succ] at hK ⊢
              refine wpOp_plain rfl rfl ?_
              go_simp
              exact hK _ _ hS (NewR.refl _ _) rfl
            · intro L hL hLa hLc x W hS hd KO hK
              have h0 : (fun v x _ => v = .pointer (some ⟨X, 0, none⟩)) (x 0) x W := hd 0 (by decide)
              have e0 : x 0 = .pointer (some ⟨X, 0, none⟩) := h0
              clear h0
              clear hd
              obtain ⟨v0, v1, v2⟩ := blk3 hS.2.2.1
              simp only [List.getD_cons_zero, List.getD_cons_succ, fillL, Nat.reduceAdd, Act.put, List.setIfInBounds_toArray, List.set_cons_zero, List.set_cons_succ, e0] at hK ⊢
              refine wpOp_plain rfl rfl ?_
              go_simp
              exact hK _ _ hS (NewR.refl _ _) rfl
            · intro L hL hLa hLc x W hS hd KO hK
              clear hd
              simp only [List.getD_cons_zero, List.getD_cons_succ, fillL, Nat.reduceAdd, Act.put, List.setIfInBounds_toArray, List.set_cons_zero, List.set_cons_succ] at hK ⊢
              refine wpOp_plain rfl rfl ?_
              go_simp
              exact hK _ _ hS (NewR.refl _ _) rfl
            · intro L hL hLa hLc x W hS hd KO hK
              have h2 : (fun v x _ => v = .pointer (some ⟨X, 0, none⟩)) (x 2) x W := hd 2 (by decide)
              have e2 : x 2 = .pointer (some ⟨X, 0, none⟩) := h2
              clear h2
              clear hd
              obtain ⟨v0, v1, v2⟩ := blk3 hS.2.2.1
              simp only [List.getD_cons_zero, List.getD_cons_succ, fillL, Nat.reduceAdd, Act.put, List.setIfInBounds_toArray, List.set_cons_zero, List.set_cons_succ, e2] at hK ⊢
              refine wpOp_plain rfl rfl ?_
              go_simp
              exact hK _ _ hS (NewR.refl _ _) rfl
            · intro L hL hLa hLc x W hS hd KO hK
              have h3 : (fun v x _ => v = .slice (some ⟨gt, 0, none⟩) k cc) (x 3) x W := hd 3 (by decide)
              have e3 : x 3 = .slice (some ⟨gt, 0, none⟩) k cc := h3
              clear h3
              clear hd
              simp only [List.getD_cons_zero, List.getD_cons_succ, fillL, Nat.reduceAdd, Act.put, List.setIfInBounds_toArray, List.set_cons_zero, List.set_cons_succ, e3] at hK ⊢
              refine wpOp_plain rfl rfl ?_
              go_simp
              exact hK _ _ hS (NewR.refl _ _) rfl
            · intro L hL hLa hLc x W hS hd KO hK
              have h4 : (fun v x _ => v = .pointer (some ⟨gt, 0, none⟩)) (x 4) x W := hd 4 (by decide)
              have e4 : x 4 = .pointer (some ⟨gt, 0, none⟩) := h4
              clear h4
              clear hd
              have hl9 : L 9 = false := by
                cases h : L 9 with
                | false => rfl
                | true => exact absurd (hLc 7 5 (hLc 9 7 h (by decide)) (by decide)) (by rw [hL]; simp)
              have hc9 := hS.2.2.2.2.1 hl9
              simp only [List.getD_cons_zero, List.getD_cons_succ, fillL, Nat.reduceAdd, Act.put, List.setIfInBounds_toArray, List.set_cons_zero, List.set_cons_succ, e4] at hK ⊢
              refine wpOp_plain rfl rfl ?_
              go_simp
              exact hK _ _ hS (NewR.refl _ _) rfl
            · intro L hL hLa hLc x W hS hd KO hK
              clear hd
              have hl7 : L 7 = false := by
                cases h : L 7 with
                | false => rfl
                | true => exact absurd (hLc 7 6 h (by decide)) (by rw [hL]; simp)
              have hl9 : L 9 = false := by
                cases h : L 9 with
                | false => rfl
                | true => exact absurd (hLc 9 7 h (by decide)) (by rw [hl7]; simp)
              obtain ⟨s1, s2, s3, s4, s5, s6, _, _⟩ := hS
              have HS6 := hid (And.intro (s5 hl9) (s6 hl7))
              clear s5 s6
              simp only [List.getD_cons_zero, List.getD_cons_succ, fillL, Nat.reduceAdd, Act.put, List.setIfInBounds_toArray, List.set_cons_zero, List.set_cons_succ] at hK ⊢
              refine wpOp_plain rfl rfl ?_
              go_simp
              exact hK _ _ (show LinkL w 34 3 27 #[.slice (some ⟨gt, 0, none⟩) k cc, .int .i64 NN, .int .i64 TT] #[.slice none 0 0, .int .i64 0, .int .i64 0] g (qwx8 + 1) X TH wx9.heap.size gt A' k cc c' rows (L 7) (L 9) (x 7) (W.alloc _) from ⟨s1.alloc _, by simp; omega, Blk.alloc s3 _, Blk.alloc s4 _, fun _ => (World.cell?_alloc_lt W _ _ (by show gt < _; omega)).trans HS6.out.1, fun _ => OwnVV.alloc HS6.out.2 _, fun h => (by rw [hl7] at h; cases h), fun h => (by rw [hl9] at h; cases h)⟩) (NewR.alloc _ _ _) ⟨W.heap.size, rfl, s2, Blk.new _ _ _⟩
            · intro L hL hLa hLc x W hS hd KO hK
              have h5 : (fun v x _ => v = .slice A' k c') (x 5) x W := hd 5 (by decide)
              have e5 : x 5 = .slice A' k c' := h5
              clear h5
              have h6 : (fun v x w' => ∃ bb : Nat, v = .slice (some ⟨bb, 0, none⟩) 1 1 ∧ wx9.heap.size ≤ bb ∧ Blk w' bb 3 #[.int .i64 5]) (x 6) x W := hd 6 (by decide)
              clear hd
              obtain ⟨bb, e6, hb1, hb2⟩ := h6
              have hl9 : L 9 = false := by
                cases h : L 9 with
                | false => rfl
                | true => exact absurd (hLc 9 7 h (by decide)) (by rw [hL]; simp)
              obtain ⟨s1, s2, s3, s4, s5, s6, _, _⟩ := hS
              obtain ⟨gq, Aq, nq, cq, vsq, eq9, hvsq, hvlq, z1, z2, hclq, z3, z4, hAq, hownq, hbackq⟩ := OwnVV.regrow (k := 0) (s6 hL) (by omega) (by omega)
              injection eq9 with eq9
              injection eq9 with eq9 _
              subst eq9
              have hc1 := s5 hl9
              rw [hc1] at hclq
              injection hclq with hclq
              injection hclq with a1 a2 a3
              subst a1 a2 a3
              have hc5 : W.cell? ⟨bb, 0, none⟩ = some (.int .i64 5) := (hb2.cell 0).trans rfl
              have HRS := hid (rowsI_set rows 0 5 hvsq)
              simp only [List.getD_cons_zero, List.getD_cons_succ, fillL, Nat.reduceAdd, Act.put, List.setIfInBounds_toArray, List.set_cons_zero, List.set_cons_succ, e5, e6] at hK ⊢
              refine wpOp_ob rfl ?_
              refine step_push rfl _ _ _ rfl (X + 1) 3 i0 _ 8 Try.underlying34 hi0 hz0 hz1 hz2 rfl (by omega) (.int .i64 5) bb A' k c' _ rfl hownq rfl hc5 rfl (by omega) (by omega) ?_
              intro g7 cap7 w7 hown7 hgrow7 hlies7 hlt7
              obtain ⟨p1, p2, p3, p4⟩ := hbackq g7 cap7 w7 _ hown7 hgrow7 hlies7 hlt7
              obtain ⟨rows7, e7⟩ := HRS.out
              rw [e7] at p4
              have hz7 := hgrow7.size
              have hbl := grown_bel hownq hgrow7 (by omega)
              refine hK _ _ (show LinkL w 34 3 27 #[.slice (some ⟨gt, 0, none⟩) k cc, .int .i64 NN, .int .i64 TT] #[.slice none 0 0, .int .i64 0, .int .i64 0] g (qwx8 + 1) X TH wx9.heap.size gt A' k cc c' rows true (L 9) (.slice (some ⟨g7, 0, none⟩) (k + 1) cap7) w7 from ⟨s1.grownG hownq hgrow7 (by omega) (by omega) (by omega), by omega, Blk.below s3 hbl (by omega), Blk.below s4 hbl (by omega), fun _ => p1, fun h => (by cases h), fun _ _ => ⟨g7, cap7, rows7, rfl, p2, p4⟩, fun h => (by rw [hl9] at h; cases h)⟩) ⟨hz7, fun j hj hjz => hgrow7.block j hjz (fun e => ?_)⟩ ⟨g7, cap7, rfl⟩
              obtain ⟨a, ha, hax⟩ : ∃ a, A' = some a ∧ a.block = j := by
                cases A' with
                | none => cases e
                | some a => exact ⟨a, rfl, by injection e with e; exact e.symm⟩
              have := (hAq a ha).2.2
              omega
            · intro L hL hLa hLc x W hS hd KO hK
              have h1 : (fun v x _ => v = .slice (some ⟨gt, 0, none⟩) k cc) (x 1) x W := hd 1 (by decide)
              have e1 : x 1 = .slice (some ⟨gt, 0, none⟩) k cc := h1
              clear h1
              clear hd
              simp only [List.getD_cons_zero, List.getD_cons_succ, fillL, Nat.reduceAdd, Act.put, List.setIfInBounds_toArray, List.set_cons_zero, List.set_cons_succ, e1] at hK ⊢
              refine wpOp_plain rfl rfl ?_
              go_simp
              exact hK _ _ hS (NewR.refl _ _) rfl
            · intro L hL hLa hLc x W hS hd KO hK
              have h7 : (fun v x _ => ∃ g7 cap7 : Nat, v = .slice (some ⟨g7, 0, none⟩) (k + 1) cap7) (x 7) x W := hd 7 (by decide)
              have h8 : (fun v x _ => v = .pointer (some ⟨gt, 0, none⟩)) (x 8) x W := hd 8 (by decide)
              have e8 : x 8 = .pointer (some ⟨gt, 0, none⟩) := h8
              clear h8
              clear hd
              have hl7 : L 7 = true := hLa 7 (by decide)
              obtain ⟨s1, s2, s3, s4, s5, s6, s7, _⟩ := hS
              obtain ⟨g8, cap8, rows8, e77, hf8, ho8⟩ := s7 hl7 hL
              have hc8 := s5 hL
              have HQ := hid (And.intro ho8 s1)
              clear ho8 s5 s6 s7
              simp only [List.getD_cons_zero, List.getD_cons_succ, fillL, Nat.reduceAdd, Act.put, List.setIfInBounds_toArray, List.set_cons_zero, List.set_cons_succ, e8, e77] at hK ⊢
              refine wpOp_plain rfl rfl ?_
              go_simp
              exact hK undef _ (show LinkL w 34 3 27 #[.slice (some ⟨gt, 0, none⟩) k cc, .int .i64 NN, .int .i64 TT] #[.slice none 0 0, .int .i64 0, .int .i64 0] g (qwx8 + 1) X TH wx9.heap.size gt A' k cc c' rows (L 7) true (x 7) (W.setCell ⟨gt, 0, none⟩ (.slice (some ⟨g8, 0, none⟩) (k + 1) cap8)) from ⟨HQ.out.2.stored (by omega) (by omega) _, by simpa [World.setCell] using s2, Blk.far s3 (by show X ≠ gt; omega) _, Blk.far s4 (by show w.heap.size ≠ gt; omega) _, fun h => (by cases h), fun h => (by rw [hl7] at h; cases h), fun _ h => (by cases h), fun _ => ⟨rows8, OwnVV.more HQ.out.1 (Nat.le_refl _) (Nat.le_of_eq (by simp [World.setCell]))⟩⟩) (NewR.setCell _ (by show gt < _; omega) _) trivial
          case fin =>
            intro x W L hL hS hd
            have h0 : (fun v x _ => v = .pointer (some ⟨X, 0, none⟩)) (x 0) x W := hd 0 (by decide)
            have e0 : x 0 = .pointer (some ⟨X, 0, none⟩) := h0
            clear h0
            have h1 : (fun v x _ => v = .slice (some ⟨gt, 0, none⟩) k cc) (x 1) x W := hd 1 (by decide)
            have e1 : x 1 = .slice (some ⟨gt, 0, none⟩) k cc := h1
            clear h1
            have h2 : (fun v x _ => v = .pointer (some ⟨X, 0, none⟩)) (x 2) x W := hd 2 (by decide)
            have e2 : x 2 = .pointer (some ⟨X, 0, none⟩) := h2
            clear h2
            have h3 : (fun v x _ => v = .slice (some ⟨gt, 0, none⟩) k cc) (x 3) x W := hd 3 (by decide)
            have e3 : x 3 = .slice (some ⟨gt, 0, none⟩) k cc := h3
            clear h3
            have h4 : (fun v x _ => v = .pointer (some ⟨gt, 0, none⟩)) (x 4) x W := hd 4 (by decide)
            have e4 : x 4 = .pointer (some ⟨gt, 0, none⟩) := h4
            clear h4
            have h5 : (fun v x _ => v = .slice A' k c') (x 5) x W := hd 5 (by decide)
            have e5 : x 5 = .slice A' k c' := h5
            clear h5
            have h6 : (fun v x w' => ∃ bb : Nat, v = .slice (some ⟨bb, 0, none⟩) 1 1 ∧ wx9.heap.size ≤ bb ∧ Blk w' bb 3 #[.int .i64 5]) (x 6) x W := hd 6 (by decide)
            have h7 : (fun v x _ => ∃ g7 cap7 : Nat, v = .slice (some ⟨g7, 0, none⟩) (k + 1) cap7) (x 7) x W := hd 7 (by decide)
            have h8 : (fun v x _ => v = .pointer (some ⟨gt, 0, none⟩)) (x 8) x W := hd 8 (by decide)
            have e8 : x 8 = .pointer (some ⟨gt, 0, none⟩) := h8
            clear h8
            have h9 : (fun v x _ => True) (x 9) x W := hd 9 (by decide)
            clear hd
            simp only [fillL, Nat.reduceAdd, Act.put, List.setIfInBounds_toArray, List.set_cons_zero, List.set_cons_succ, e0, e1, e2, e3, e4, e5, e8]
            clear e0 e1 e2 e3 e4 e5 e8
            have hl9 : L 9 = true := hL 9 (by omega)
            obtain ⟨s1, s2, s3, s4, _, _, _, s8⟩ := hS
            obtain ⟨rows9, ho9⟩ := s8 hl9
            clear s8 hS0
            have HF := hid (givesL_of (q := q) (N := NN) (G := TT) (OwnVV.set3 (b := w.heap.size) ho9 (by omega) (.slice (some ⟨gt, 0, none⟩) k cc) (.int .i64 (NN)) (.int .i64 (TT))) (Nat.le_of_eq (by simp [World.setCell])) (DS.set3 (b := w.heap.size) s1 (by omega) (Nat.le_refl _) (.slice (some ⟨gt, 0, none⟩) k cc) (.int .i64 (NN)) (.int .i64 (TT))) (by omega) (by omega) (by omega) (by omega))
            obtain ⟨x0, x1, x2⟩ := blk3 s3
            obtain ⟨y0, y1, y2⟩ := blk3 s4
            have f0 := Blk.frozen s4 0
            have f1 := Blk.frozen s4 1
            have f2 := Blk.frozen s4 2
            have HKR := hid (show Blk _ w.heap.size 27 #[.slice (some ⟨gt, 0, none⟩) k cc, .int .i64 (NN), .int .i64 (TT)] from Blk.set_ (Blk.set_ (Blk.set_ s4 0 (.slice (some ⟨gt, 0, none⟩) k cc)) 1 (.int .i64 (NN))) 2 (.int .i64 (TT)))
            clear ho9 s3 s4 s1
            go_wp2
            refine bodyPost_ret (v := .agg #[.slice (some ⟨gt, 0, none⟩) k cc, .int .i64 (NN), .int .i64 (TT)]) (results_cell_row rfl _ _ w.heap.size _ _ _ _ rfl HKR.out Try.underlying27 rfl (by kernel_rfl)) rfl HF.out
        · skip
          have tabl : OwnII (wx9.alloc (.cells #[] 34)) 34 3 (X + 1) (wx9.alloc (.cells #[] 34)).heap.size (some ⟨wx9.heap.size, 0, none⟩) 0 0 [] := ownVV_lit0 34 3 (by omega)
          have kXl := Blk.alloc kX (.cells #[] 34)
          have kRl := Blk.alloc kR (.cells #[] 34)
          have dl := dwx9.alloc (.cells #[] 34)
          obtain ⟨v0, v1, v2⟩ := blk3 kXl
          obtain ⟨v0', v1', v2'⟩ := blk3 kX
          have g0 := kXl.frozen 0
          have g0' := kX.frozen 0
          have kX2 := Blk.set_ kXl 0 (.slice (some ⟨wx9.heap.size, 0, none⟩) 0 0)
          have kR2 := Blk.far kRl (p := ⟨X, 0, none⟩) hXR (.slice (some ⟨wx9.heap.size, 0, none⟩) 0 0)
          have tab2 := OwnVV.setFar (b := X) (k := 0) tabl (by omega) (.slice (some ⟨wx9.heap.size, 0, none⟩) 0 0)
          have d2 := dl.stored (b := X) (k := 0) (by omega) (by omega) (.slice (some ⟨wx9.heap.size, 0, none⟩) 0 0)
          have HF := hid (givesL_of (q := q) (N := NN) (G := TT) (OwnVV.set3 (b := w.heap.size) tab2 (by omega) (.slice (some ⟨wx9.heap.size, 0, none⟩) 0 0) (.int .i64 (NN)) (.int .i64 (TT))) (Nat.le_of_eq (by simp [World.setCell])) (DS.set3 (b := w.heap.size) d2 (by omega) (Nat.le_refl _) (.slice (some ⟨wx9.heap.size, 0, none⟩) 0 0) (.int .i64 (NN)) (.int .i64 (TT))) (by omega) (by omega) (by omega) (by omega))
          obtain ⟨x0, x1, x2⟩ := blk3 kX2
          obtain ⟨y0, y1, y2⟩ := blk3 kR2
          have f0 := Blk.frozen kR2 0
          have f1 := Blk.frozen kR2 1
          have f2 := Blk.frozen kR2 2
          have HKR := hid (show Blk _ w.heap.size 27 #[.slice (some ⟨wx9.heap.size, 0, none⟩) 0 0, .int .i64 (NN), .int .i64 (TT)] from Blk.set_ (Blk.set_ (Blk.set_ kR2 0 (.slice (some ⟨wx9.heap.size, 0, none⟩) 0 0)) 1 (.int .i64 (NN))) 2 (.int .i64 (TT)))
          clear tab kX kR tab2 kX2 kR2 d2 tabl kXl kRl dl dwx9
          go_wp2
          refine bodyPost_ret (v := .agg #[.slice (some ⟨wx9.heap.size, 0, none⟩) 0 0, .int .i64 (NN), .int .i64 (TT)]) (results_cell_row rfl _ _ w.heap.size _ _ _ _ rfl HKR.out Try.underlying27 rfl (by kernel_rfl)) rfl HF.out
end Go.Proofs.Ytajnpmnedghckaa
