/-
  FnTransformSum, walked: the transform of the sum of two lists, modulo Modulus, is the sum of their transforms.
-/
import Derived.Test.YtbbonllonkacfaaDTra
import Derived.Test.YtbbonllonkacfaaAlive
import Derived.Test.YtbbonllonkacfaaTraD
import Derived.Deep.RegionHeld3
import Derived.Test.YtbbonllonkacfaaLTra
namespace Go.Proofs.Ytbbonllonkacfaa
open Go.RowKit
set_option linter.unusedVariables false

theorem ev_add (w : Int) : ∀ a b : List Int, a.length = b.length → ev (List.zipWith (fun x y => x + y) a b) w = ev a w + ev b w := by
  intro a
  induction a with
  | nil => intro b h; simp [ev]; match b, h with | [], _ => rfl
  | cons x a ih =>
    intro b h
    match b, h with
    | y :: b, h =>
      rw [List.zipWith_cons_cons, ev, ev, ev, ih b (by simpa using h), Int.mul_add]; omega
/-- The sum, place by place, modulo 257. -/
def addM (a b : List Int) (k : Nat) : Int := (a.getD k 0 + b.getD k 0) % 257
def addL257 (a b : List Int) : List Int := (List.range 16).map (addM a b)
theorem addM_bd (a b : List Int) (k : Nat) : 0 ≤ addM a b k ∧ addM a b k < 257 := ⟨Int.emod_nonneg _ (by omega), Int.emod_lt_of_pos _ (by omega)⟩
theorem addL257_ok (a b : List Int) : ptsOk (addL257 a b) = true := ptsOk_iff.2 ⟨by simp [addL257], fun x hx => by
  obtain ⟨k, _, rfl⟩ := List.mem_map.1 hx
  exact addM_bd a b k⟩
theorem addL257_snoc (a b : List Int) (k : Nat) : (List.range (k + 1)).map (addM a b) = (List.range k).map (addM a b) ++ [addM a b k] := by rw [List.range_succ, List.map_append]; rfl
theorem addL257_getD (a b : List Int) {k : Nat} (hk : k < 16) : (addL257 a b).getD k 0 = addM a b k := by rw [List.getD_eq_getElem?_getD, addL257, List.getElem?_map, List.getElem?_range hk]; rfl
theorem dft_add {a b : List Int} (ha : a.length = 16) (hb : b.length = 16) : dft (addL257 a b) 2 = addL257 (dft a 2) (dft b 2) := by
  refine ext16 (dft_len _ _) (by simp [addL257]) fun k hk => ?_
  rw [dft_getD _ _ hk, addL257_getD _ _ hk, addM, dft_getD _ _ hk, dft_getD _ _ hk, Fk, Fk, Fk]
  have h1 : Cg (ev (addL257 a b) (2 ^ k)) (ev a (2 ^ k) + ev b (2 ^ k)) := by
    rw [ev_sm, ev_sm _ a, ev_sm _ b, ha, hb, show (addL257 a b).length = 16 by simp [addL257], ← Sm_add]
    refine Cg.sm 16 fun j hj => ?_
    rw [addL257_getD _ _ hj, addM, ← Int.add_mul]
    exact (Cg.mod _).mul (Cg.rfl' _)
  exact h1.trans ((Cg.mod _).add (Cg.mod _)).symm

set_option maxHeartbeats 1600000 in
theorem fnTransformSum_walk {A : Option Addr} {n c : Nat} {bs : List Int} (w : World) (h : RV w w.heap.size A n (bs.map (Value.int .u8))) (wf : ∀ x ∈ bs, (Lit.int .u8 x).wf = true) (hl : n ≤ c) (hm : c ≤ maxLen) :
    Calls Try.prog 4 #[.slice A n c] w fun e w' => e = .returned (.bool true) ∧ Below w.heap.size w w' := by
  unfold maxLen at hm
  by_cases hn : n ≤ 1048576
  · have hd := drawCyclicProduct_any A n c w.heap.size bs w h (Nat.le_refl _) hl hn (fun x hx => bounds_u8 (wf x hx))
    clear wf h
    obtain ⟨i0, hi0, hz0, hzI, hzJ⟩ := info_parts infoI
    have hbel : Below w.heap.size w w := Below.refl _ _
    go_enter Try.func4, Try.ntmps4
    go_wp2_with fail
    refine (hd).mono ?_
    rintro e w1 ⟨A1, n1, c1, A2, n2, c2, xs, ys, rfl, hr1, hr2, hz1, hz2, hb⟩
    have nX := hr1
    have nY := hr2
    have hbel_ := Below.next hbel hb; clear hbel; have hbel := hbel_; clear hbel_
    clear hb
    have rX := nX; clear nX
    have rY := nY; clear nY
    clear hd hr1 hr2
    have LX := hid (RI.len rX)
    have LY := hid (RI.len rY)
    obtain ⟨V, HV⟩ : ∃ V, Hid (V = forward xs) := ⟨_, hid rfl⟩
    obtain ⟨U, HU⟩ : ∃ U, Hid (U = forward ys) := ⟨_, hid rfl⟩
    have hVl : V.length ≤ 16 := by rw [HV.out]; exact forward_len _
    have hUl : U.length ≤ 16 := by rw [HU.out]; exact forward_len _
    go_wp2_with fail
    refine (forward_impl _ _ _ _ _ _ rX (Nat.le_refl _) (by omega)).mono ?_
    rintro e w2 ⟨A3, n3, c3, rfl, ho, hb⟩
    have nV := OwnI.ri (by rw [← HV.out] at ho; exact ho)
    have hbel_ := Below.next hbel hb; clear hbel; have hbel := hbel_; clear hbel_
    have rX_ := RV.next rX hb; clear rX; have rX := rX_; clear rX_
    have rY_ := RV.next rY hb; clear rY; have rY := rY_; clear rY_
    clear hb
    have rV := nV; clear nV
    clear ho
    have LV := hid (RI.len rV)
    have hn3 : n3 ≤ 16 := by have := LV.out; omega
    go_wp2_with fail
    refine (forward_impl _ _ _ _ _ _ rY (Nat.le_refl _) (by omega)).mono ?_
    rintro e w3 ⟨A4, n4, c4, rfl, ho, hb⟩
    have nU := OwnI.ri (by rw [← HU.out] at ho; exact ho)
    have hbel_ := Below.next hbel hb; clear hbel; have hbel := hbel_; clear hbel_
    have rX_ := RV.next rX hb; clear rX; have rX := rX_; clear rX_
    have rY_ := RV.next rY hb; clear rY; have rY := rY_; clear rY_
    have rV_ := RV.next rV hb; clear rV; have rV := rV_; clear rV_
    clear hb
    have rU := nU; clear nU
    clear ho
    have LU := hid (RI.len rU)
    have hn4 : n4 ≤ 16 := by have := LU.out; omega
    go_wp2_with fail
    refine (forward_spec _ _ _ _ _ _ rX (by omega) (Nat.le_refl _)).mono ?_
    rintro e w4 ⟨A5, n5, c5, rfl, ho, hb⟩
    have nW := OwnI.ri (by rw [← HV.out] at ho; exact ho)
    have hbel_ := Below.next hbel hb; clear hbel; have hbel := hbel_; clear hbel_
    have rX_ := RV.next rX hb; clear rX; have rX := rX_; clear rX_
    have rY_ := RV.next rY hb; clear rY; have rY := rY_; clear rY_
    have rV_ := RV.next rV hb; clear rV; have rV := rV_; clear rV_
    have rU_ := RV.next rU hb; clear rU; have rU := rU_; clear rU_
    clear hb
    have rW := nW; clear nW
    clear ho
    go_wp2_with fail
    refine (sameInts_same _ _ _ _ _ _ _ _ _ _ rV rW (by omega)).mono ?_
    rintro e w5 ⟨rfl, hb⟩
    have hbel_ := Below.next hbel hb; clear hbel; have hbel := hbel_; clear hbel_
    have rX_ := RV.next rX hb; clear rX; have rX := rX_; clear rX_
    have rY_ := RV.next rY hb; clear rY; have rY := rY_; clear rY_
    have rV_ := RV.next rV hb; clear rV; have rV := rV_; clear rV_
    have rU_ := RV.next rU hb; clear rU; have rU := rU_; clear rU_
    have rW_ := RV.next rW hb; clear rW; have rW := rW_; clear rW_
    clear hb
    clear rW
    rcases Nat.eq_zero_or_pos n3 with hz | hpos
    · subst hz
      go_wp2_with fail
      refine (alive_any _).mono ?_
      rintro e w6 ⟨rfl, hb⟩
      have hbel_ := Below.next hbel hb; clear hbel; have hbel := hbel_; clear hbel_
      have rX_ := RV.next rX hb; clear rX; have rX := rX_; clear rX_
      have rY_ := RV.next rY hb; clear rY; have rY := rY_; clear rY_
      have rV_ := RV.next rV hb; clear rV; have rV := rV_; clear rV_
      have rU_ := RV.next rU hb; clear rU; have rU := rU_; clear rU_
      clear hb
      go_wp2
      go_ret
      exact ⟨rfl, hbel⟩
    · have hb0 : ((n3 : Int) == 0) = false := by simp; omega
      rcases Nat.eq_zero_or_pos n4 with hz | hpos4
      · subst hz
        go_wp2_with fail
        refine (alive_any _).mono ?_
        rintro e w6 ⟨rfl, hb⟩
        have hbel_ := Below.next hbel hb; clear hbel; have hbel := hbel_; clear hbel_
        have rX_ := RV.next rX hb; clear rX; have rX := rX_; clear rX_
        have rY_ := RV.next rY hb; clear rY; have rY := rY_; clear rY_
        have rV_ := RV.next rV hb; clear rV; have rV := rV_; clear rV_
        have rU_ := RV.next rU hb; clear rU; have rU := rU_; clear rU_
        clear hb
        go_wp2
        go_ret
        exact ⟨rfl, hbel⟩
      · have hb4 : ((n4 : Int) == 0) = false := by simp; omega
        have ok1 := forward_ok (ne_nil HV.out LV.out hpos)
        have ok2 := forward_ok (ne_nil HU.out LU.out hpos4)
        have hn1 : n1 = 16 := by rw [← LX.out]; exact (ptsOk_iff.1 ok1).1
        have hn2 : n2 = 16 := by rw [← LY.out]; exact (ptsOk_iff.1 ok2).1
        have HX := hid (ptsOk_iff.1 ok1).2
        have HY := hid (ptsOk_iff.1 ok2).2
        have HVF : Hid (V = dft xs 2) := hid (by rw [HV.out, forward, if_pos ok1])
        have HUF : Hid (U = dft ys 2) := hid (by rw [HU.out, forward, if_pos ok2])
        have hn3' : n3 = 16 := by rw [← LV.out, HVF.out]; exact dft_len _ _
        have hn4' : n4 = 16 := by rw [← LU.out, HUF.out]; exact dft_len _ _
        have HSUM : Hid (forward (addL257 xs ys) = addL257 V U) := hid (by
          rw [forward, if_pos (addL257_ok _ _), dft_add (ptsOk_iff.1 ok1).1 (ptsOk_iff.1 ok2).1, HVF.out, HUF.out])
        subst hn1 hn2 hn3' hn4'
        have HVI : Hid (In257 V) := hid (by rw [HVF.out]; exact dft_in _ _)
        have HUI : Hid (In257 U) := hid (by rw [HUF.out]; exact dft_in _ _)
        clear ok1 ok2
        go_wp2
        go_loopw [7, 8, 9] (fun sv tv iv wr => ∃ (j cs ct : Nat) (AS AT : Option Addr), j ≤ 16 ∧ iv = .int .i64 j ∧ sv = .slice AS j cs ∧ tv = .slice AT j ct ∧ wr.ownsRow w5.heap.size 3 1 (.slice AS j cs) j (((List.range j).map (addM xs ys)).map (Value.int .i64)) ∧ wr.ownsRow w5.heap.size 3 1 (.slice AT j ct) j (((List.range j).map (addM V U)).map (Value.int .i64)) ∧ (∀ k, Value.ownBlock (.slice AS j cs) = some k → Value.ownBlock (.slice AT j ct) ≠ some k) ∧ Below w5.heap.size w5 wr) (fun _ _ iv _ => 16 - (intOf iv).toNat)
        case atStart =>
          refine ⟨0, 0, 0, some ⟨w5.heap.size, 0, none⟩, some ⟨w5.heap.size + 1, 0, none⟩, Nat.zero_le _, rfl, rfl, rfl, (own_lit0 _ (Nat.le_refl _)).alloc _, ?_, ?_, ((Below.refl _ _).alloc (Nat.le_refl _) _).alloc (by simp) _⟩
          · have := own_lit0 (w := w5.alloc (.cells #[] 3)) (base := w5.heap.size) 3 (by simp)
            simpa using this
          · intro k hk hk'
            simp [Value.ownBlock] at hk hk'
            omega
        case round =>
          obtain ⟨j, cs, ct, AS, AT, hj, rfl, rfl, rfl, hownS, hownT, hdis, hbr⟩ := hrel
          have hsz := hbr.size
          by_cases hlj : j < 16
          · obtain ⟨p1, q1, x, rfl, hp1, hx, hcx⟩ := RI.at_ (RV.below rX hbr) hlj
            obtain ⟨p2, q2, y, rfl, hp2, hy, hcy⟩ := RI.at_ (RV.below rY hbr) hlj
            obtain ⟨p3, q3, u, rfl, hp3, hu, hcu0⟩ := RI.at_ (RV.below rV hbr) hlj
            obtain ⟨p4, q4, t, rfl, hp4, ht, hct0⟩ := RI.at_ (RV.below rU hbr) hlj
            obtain ⟨x0, x1⟩ := in257_get HX.out hx
            obtain ⟨y0, y1⟩ := in257_get HY.out hy
            obtain ⟨u0, u1⟩ := in257_get HVI.out hu
            obtain ⟨t0, t1⟩ := in257_get HUI.out ht
            obtain ⟨s, hs⟩ : ∃ s, s = (x + y) % 257 := ⟨_, rfl⟩
            obtain ⟨r, hr⟩ : ∃ r, r = (u + t) % 257 := ⟨_, rfl⟩
            have HS : Hid (s = addM xs ys j) := hid (by rw [hs, addM, List.getD_eq_getElem?_getD, List.getD_eq_getElem?_getD, hx, hy]; rfl)
            have HR : Hid (r = addM V U j) := hid (by rw [hr, addM, List.getD_eq_getElem?_getD, List.getD_eq_getElem?_getD, hu, ht]; rfl)
            have hw1 : IntKind.i64.wrap (x + y) = x + y := IntWalk.i64_in _ (by omega)
            have hw2 : IntKind.i64.wrap (u + t) = u + t := IntWalk.i64_in _ (by omega)
            have ht1 : (x + y).tmod 257 = s := by rw [hs, Int.tmod_eq_emod_of_nonneg (by omega)]
            have ht2 : (u + t).tmod 257 = r := by rw [hr, Int.tmod_eq_emod_of_nonneg (by omega)]
            have hj0 : (0 : Int) ≤ (j : Int) := by omega
            have hj1 : (j : Int) < 16 := by omega
            have hj9 : j ≤ 1000000000 := by omega
            have HDIS := hid hdis
            have HUT := hid (And.intro hcu0 hct0)
            have HOT := hid hownT
            have HHr := hid hr; have HHs := hid hs
            have hneU : some (⟨p3, q3 + j, none⟩ : Addr).block ≠ Value.ownBlock (.slice AS j cs) := fun e => by have := (hownS.lt p3 e.symm).1; omega
            have hneT : some (⟨p4, q4 + j, none⟩ : Addr).block ≠ Value.ownBlock (.slice AS j cs) := fun e => by have := (hownS.lt p4 e.symm).1; omega
            have HNE := hid (And.intro hneU hneT)
            clear hx hy hu ht hdis hcu0 hct0 hownT hr hs hneU hneT
            have HOS := hid hownS
            have hownA1 := hownS.alloc (.cells #[.int .i64 s] 3)
            have hcellA1 := cell_new0 wr (.int .i64 s) 3
            have hcA1 : (wr.alloc (.cells #[.int .i64 s] 3)).cell? ⟨p1, q1 + j, none⟩ = some (.int .i64 x) := (World.cell?_alloc_lt wr _ _ (by show p1 < _; omega)).trans hcx
            have hcB1 : (wr.alloc (.cells #[.int .i64 s] 3)).cell? ⟨p2, q2 + j, none⟩ = some (.int .i64 y) := (World.cell?_alloc_lt wr _ _ (by show p2 < _; omega)).trans hcy
            have hneA1 : some (⟨p1, q1 + j, none⟩ : Addr).block ≠ Value.ownBlock (.slice AS j cs) := fun e => by have := (hownS.lt p1 e.symm).1; omega
            have hneB1 : some (⟨p2, q2 + j, none⟩ : Addr).block ≠ Value.ownBlock (.slice AS j cs) := fun e => by have := (hownS.lt p2 e.symm).1; omega
            have hszA1 : w5.heap.size ≤ (wr.alloc (.cells #[.int .i64 s] 3)).heap.size := by simp; omega
            have HP1 := hid (And.intro hownA1 (And.intro hcellA1 (And.intro hcA1 (And.intro hcB1 (And.intro hneA1 hneB1)))))
            clear hownA1 hcellA1 hcA1 hcB1 hneA1 hneB1 hownS
            go_wp2
            go_region_held3 (fun w' => w'.cell? ⟨p1, q1 + j, none⟩ = some (.int .i64 x) ∧ w'.cell? ⟨p2, q2 + j, none⟩ = some (.int .i64 y)) (first | go_keep | exact ⟨hgrow1.cell HP1.out.2.2.1 HP1.out.2.2.2.2.1, hgrow1.cell HP1.out.2.2.2.1 HP1.out.2.2.2.2.2⟩ | exact ⟨HP1.out.2.2.1, HP1.out.2.2.2.1⟩) ((refine step_push (o := ⟨some 54, _, _, _, _, _⟩) rfl (.tmp 42) (.tmp 53) 23 (by rfl) w5.heap.size 3 i0 (.int .i64 0) 8 Try.underlying23 hi0 hz0 hzI hzJ rfl (by decide) (.int .i64 s) wr.heap.size AS j cs (((List.range j).map (addM xs ys)).map (Value.int .i64)) (by rfl) HP1.out.1 (by rfl) HP1.out.2.1 rfl hj9 hszA1 ?_; intro g1 cap1 w1 hown1 hgrow1 hlies1 hlt1))
            have hbel1 := below_push (hbr.alloc (by omega) _) HP1.out.1 (Nat.le_refl _) hszA1 (grown_undrew hgrow1)
            have hownT1 : w1.ownsRow w5.heap.size 3 1 (.slice AT j ct) j (((List.range j).map (addM V U)).map (Value.int .i64)) := own_far (HOT.out.alloc _) (grown_undrew hgrow1) (fun k hk he => HDIS.out k he hk)
            have hcu : w1.cell? ⟨p3, q3 + j, none⟩ = some (.int .i64 u) := (grown_undrew hgrow1).cell ((World.cell?_alloc_lt wr _ _ (by show p3 < _; omega)).trans HUT.out.1) HNE.out.1
            have hct : w1.cell? ⟨p4, q4 + j, none⟩ = some (.int .i64 t) := (grown_undrew hgrow1).cell ((World.cell?_alloc_lt wr _ _ (by show p4 < _; omega)).trans HUT.out.2) HNE.out.2
            have hdis1 : ∀ k, some g1 = some k → Value.ownBlock (.slice AT j ct) ≠ some k := by
              intro k hk hk'
              injection hk with hk
              subst hk
              rcases hlies1 with e | e
              · exact HDIS.out _ e hk'
              · have := (HOT.out.lt _ hk').2; simp at e; omega
            have HD1 := hid hdis1
            have HO1 := hid (And.intro hown1 (grown_undrew hgrow1))
            have hsz1 := hbel1.size
            have hp3' : p3 < w1.heap.size := by omega
            have hp4' : p4 < w1.heap.size := by omega
            clear hdis1 hown1 hgrow1 hlies1 hlt1 hcx hcy hbr
            have HOT1 := hid hownT1
            have hownA2 := hownT1.alloc (.cells #[.int .i64 r] 3)
            have hcellA2 := cell_new0 w1 (.int .i64 r) 3
            have hcA2 : (w1.alloc (.cells #[.int .i64 r] 3)).cell? ⟨p3, q3 + j, none⟩ = some (.int .i64 u) := (World.cell?_alloc_lt w1 _ _ (by show p3 < _; omega)).trans hcu
            have hcB2 : (w1.alloc (.cells #[.int .i64 r] 3)).cell? ⟨p4, q4 + j, none⟩ = some (.int .i64 t) := (World.cell?_alloc_lt w1 _ _ (by show p4 < _; omega)).trans hct
            have hneA2 : some (⟨p3, q3 + j, none⟩ : Addr).block ≠ Value.ownBlock (.slice AT j ct) := fun e => by have := (hownT1.lt p3 e.symm).1; omega
            have hneB2 : some (⟨p4, q4 + j, none⟩ : Addr).block ≠ Value.ownBlock (.slice AT j ct) := fun e => by have := (hownT1.lt p4 e.symm).1; omega
            have hszA2 : w5.heap.size ≤ (w1.alloc (.cells #[.int .i64 r] 3)).heap.size := by simp; omega
            have HP2 := hid (And.intro hownA2 (And.intro hcellA2 (And.intro hcA2 (And.intro hcB2 (And.intro hneA2 hneB2)))))
            clear hownA2 hcellA2 hcA2 hcB2 hneA2 hneB2 hownT1
            go_wp2
            go_region_held3 (fun w' => w'.cell? ⟨p3, q3 + j, none⟩ = some (.int .i64 u) ∧ w'.cell? ⟨p4, q4 + j, none⟩ = some (.int .i64 t)) (first | go_keep | exact ⟨hgrow2.cell HP2.out.2.2.1 HP2.out.2.2.2.2.1, hgrow2.cell HP2.out.2.2.2.1 HP2.out.2.2.2.2.2⟩ | exact ⟨HP2.out.2.2.1, HP2.out.2.2.2.1⟩) ((refine step_push (o := ⟨some 67, _, _, _, _, _⟩) rfl (.tmp 55) (.tmp 66) 23 (by rfl) w5.heap.size 3 i0 (.int .i64 0) 8 Try.underlying23 hi0 hz0 hzI hzJ rfl (by decide) (.int .i64 r) w1.heap.size AT j ct (((List.range j).map (addM V U)).map (Value.int .i64)) (by rfl) HP2.out.1 (by rfl) HP2.out.2.1 rfl hj9 hszA2 ?_; intro g2 cap2 w2 hown2 hgrow2 hlies2 hlt2))
            have hbel2 := below_push (hbel1.alloc (by omega) _) HP2.out.1 (Nat.le_refl _) hszA2 (grown_undrew hgrow2)
            have hownS2 : w2.ownsRow w5.heap.size 3 1 (.slice (some ⟨g1, 0, none⟩) (j + 1) cap1) (j + 1) (((List.range j).map (addM xs ys)).map (Value.int .i64) ++ [.int .i64 s]) := own_far (HO1.out.1.alloc _) (grown_undrew hgrow2) (fun k hk he => HD1.out k hk he)
            have hdis2 : ∀ k, Value.ownBlock (.slice (some ⟨g1, 0, none⟩) (j + 1) cap1) = some k → Value.ownBlock (.slice (some ⟨g2, 0, none⟩) (j + 1) cap2) ≠ some k := by
              intro k hk hk'
              simp [Value.ownBlock] at hk hk'
              rcases hlies2 with e | e
              · exact HD1.out g2 (by rw [hk, hk']) e
              · have := (HO1.out.1.lt g1 rfl).2; simp at e; omega
            go_wp2
            go_roundw
            case rel => exact ⟨j + 1, cap1, cap2, _, _, by omega, by go_num, rfl, rfl, by rw [addL257_snoc, List.map_append, ← HS.out]; exact hownS2, by rw [addL257_snoc, List.map_append, ← HR.out]; exact hown2, hdis2, hbel2⟩
            case measure => simp [intOf]; omega
          · have e : j = 16 := by omega
            subst e
            clear hlj
            obtain ⟨A', c', hv, ho⟩ := ownV_of hownS
            injection hv with q1 _ q2
            subst q1 q2
            have rS : RI wr wr.heap.size AS 16 (addL257 xs ys) := OwnV.rv ho
            obtain ⟨A'', c'', hv', ho'⟩ := ownV_of hownT
            injection hv' with q3 _ q4
            subst q3 q4
            have rT : RI wr wr.heap.size AT 16 (addL257 V U) := OwnV.rv ho'
            have hbo := Below.next hbel hbr
            clear hownS hownT ho ho' hdis hbr
            go_wp2_with fail
            refine (forward_impl _ _ _ _ _ _ rS (Nat.le_refl _) (by omega)).mono ?_
            rintro e w6 ⟨A6, n6, c6, rfl, ho, hb6⟩
            rw [HSUM.out] at ho
            have r6 := OwnI.ri ho
            have rT6 := RV.next rT hb6
            have hb6' := Below.next hbo hb6
            clear ho hb6
            go_wp2_with fail
            refine (sameInts_same _ _ _ _ _ _ _ _ _ _ r6 rT6 (by simp [addL257])).mono ?_
            rintro e w7 ⟨rfl, hb7⟩
            have hb7' := Below.next hb6' hb7
            clear hb7
            go_wp2
            go_ret
            exact ⟨rfl, hb7'⟩
  · go_enter Try.func4, Try.ntmps4
    go_wp2
    go_ret
    exact ⟨rfl, Below.refl _ _⟩
end Go.Proofs.Ytbbonllonkacfaa
