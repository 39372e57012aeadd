/-
  The program's search of slots, BestSlots, walked.
-/
import Derived.Test.YtgccpjhkgkhllaaDoorSloF
import Derived.Test.YtgccpjhkgkhllaaDoorApp
namespace Go.Proofs.YtgccpjhkgkhllaaDoor
open Go.RowKit
set_option linter.unusedVariables false

section
variable {P : Program} {w0 : World} {ops : Array Oper} {rest : List Oper} {o : Oper} {a : Act} {Q : Exit → Act → World → Prop}
/-- 'append(out, x)' where there is room: in place. -/
theorem wpList_room1 (hgd : o.guard = none) (s x : Operand) (t : TypeId) (ho : o.op = .call { callee := .builtin .append, args := #[s, x], argTypes := #[t, t] })
    (e : TypeId) (i : TypeInfo) (ht : P.underlying t = some (.slice e)) (hi : P.info? e = some i) (hsize : i.size = 1) (b n cap : Nat) (u : Value) (e' : TypeId)
    (hs : a.eval s = .slice (some ⟨b, 0, none⟩) n cap) (hx : a.eval x = .slice (some ⟨w0.heap.size, 0, none⟩) 1 1) (hroom : n + 1 ≤ cap) (hb : b < w0.heap.size)
    (hc : (w0.cell? ⟨b, n, none⟩).isSome = true) (hf : w0.frozen? ⟨b, n, none⟩ = false) (hu : u.oneCell' = true)
    (h : wpList P ops Q rest (a.put o.dst (.slice (some ⟨b, 0, none⟩) (n + 1) cap)) ((w0.alloc (.cells #[u] e')).setCell ⟨b, n, none⟩ u)) : wpList P ops Q (o :: rest) a (w0.alloc (.cells #[u] e')) := by
  refine wpList_plain hgd fun K hK => ?_
  have hrun := run_append_room_cells (P := P) (w0.alloc (.cells #[u] e')) t o.type e i ht hi b 0 n cap ⟨w0.heap.size, 0, none⟩ 1 1 [u] (by rw [hsize]; rfl)
    (fun j v hv => by
      match j, hv with
      | 0, hv => simp at hv; subst hv; exact (by simp [Addr.add])) (fun v hv => by rw [List.mem_singleton] at hv; subst hv; exact hu) hroom
    (fun j hj => by
      have hj0 : j = 0 := by simpa using hj
      subst hj0
      rw [hsize]
      simp only [Nat.zero_add, Nat.mul_one, Nat.add_zero]
      rw [World.cell?_alloc_lt w0 _ _ (by exact hb)]; exact hc)
    (fun j hj => by
      have hj0 : j = 0 := by simpa using hj
      subst hj0
      rw [hsize]
      simp only [Nat.zero_add, Nat.mul_one, Nat.add_zero]
      rw [World.frozen?_of_block (Below.heap_alloc w0 _ b hb)]; exact hf)
  rw [hsize] at hrun
  simp only [Nat.zero_add, Nat.mul_one] at hrun
  unfold Oper.wp
  simp [execOp, ho, resolve, invoke, builtin, hs, hx, hrun, Result.andThen]
  exact hK _ _ h
/-- 'append(out, xs...)', xs empty. -/
theorem wpList_zero (hgd : o.guard = none) (s x : Operand) (t : TypeId) (ho : o.op = .call { callee := .builtin .append, args := #[s, x], argTypes := #[t, t] })
    (e : TypeId) (i : TypeInfo) (ht : P.underlying t = some (.slice e)) (hi : P.info? e = some i) (b : Addr) (n cap : Nat) (A1 : Option Addr) (c1 : Nat)
    (hs : a.eval s = .slice (some b) n cap) (m : Nat) (hx : a.eval x = .slice A1 m c1) (hm : m = 0) (hnc : n ≤ cap)
    (h : wpList P ops Q rest (a.put o.dst (.slice (some b) n cap)) w0) : wpList P ops Q (o :: rest) a w0 := by
  refine wpList_plain hgd fun K hK => ?_
  subst hm
  have hrun := run_append_zero (P := P) w0 t o.type e i ht hi b n cap A1 c1 hnc
  unfold Oper.wp
  simp [execOp, ho, resolve, invoke, builtin, hs, hx, hrun, Result.andThen]
  exact hK _ _ h
end
/-- What fillSlots gives. -/
def FillRes (w w' : World) (v : Value) (n : Nat) : Option (List Nat) → Prop
  | none => v = .slice none 0 0
  | some xs => ∃ A c, v = .slice (some A) n c ∧ OwnI w' 3 w.heap.size w'.heap.size (some A) n c (castL xs)
/-- The list under way: its block has n cells, the first are those of ss. -/
def Part (w : World) (p n n' : Nat) (ss : List Nat) : Prop := ∃ cs : Array Value, Blk w p 3 cs ∧ cs.size = n ∧ cs.toList.take n' = (castL ss).map (Value.int .i64)
theorem Part.ri {w : World} {p n n' : Nat} {ss : List Nat} (h : Part w p n n' ss) (hn : n' ≤ n) : RI w w.heap.size (some ⟨p, 0, none⟩) n' (castL ss) := by
  obtain ⟨cs, hb, hs, ht⟩ := h
  refine ⟨by rw [← ht, List.length_take]; simp; omega, fun _ => ⟨p, 0, rfl, hb.lt, fun j u hu => ?_⟩⟩
  rw [Nat.zero_add, hb.cell]
  rw [← ht, List.getElem?_take] at hu
  split at hu
  · simpa using hu
  · cases hu
theorem Part.more {w w' : World} {p n n' : Nat} {ss : List Nat} (h : Part w p n n' ss) (hb : w'.heap[p]? = w.heap[p]?) : Part w' p n n' ss := by
  obtain ⟨cs, h1, h2⟩ := h
  exact ⟨cs, hb.trans h1, h2⟩
theorem Part.snoc {w : World} {p n n' : Nat} {ss : List Nat} (h : Part w p n n' ss) (hn : n' < n) (s : Nat) : Part (w.setCell ⟨p, n', none⟩ (.int .i64 (s : Int))) p n (n' + 1) (ss ++ [s]) := by
  obtain ⟨cs, hb, hs, ht⟩ := h
  refine ⟨_, hb.set_ n' _, by simpa using hs, ?_⟩
  rw [Array.toList_setIfInBounds, take_set_snoc _ _ _ (by simp; omega), ht, castL_snoc, List.map_append]
  rfl
theorem Part.init {w : World} {p n n' : Nat} {ss : List Nat} {s : Nat} (h : Part w p n (n' + 1) (ss ++ [s])) (hl : ss.length = n') : Part w p n n' ss := by
  obtain ⟨cs, hb, hs, ht⟩ := h
  refine ⟨cs, hb, hs, ?_⟩
  have h1 : (cs.toList.take (n' + 1)).take n' = ((castL (ss ++ [s])).map (Value.int .i64)).take n' := by rw [ht]
  rw [List.take_take, Nat.min_eq_left (by omega), castL_snoc, List.map_append, List.take_left' (by rw [List.length_map, castL_len]; omega)] at h1
  exact h1
theorem Part.cell {w : World} {p n n' : Nat} {ss : List Nat} (h : Part w p n n' ss) (hn : n' < n) : (w.cell? ⟨p, n', none⟩).isSome = true ∧ w.frozen? ⟨p, n', none⟩ = false ∧ p < w.heap.size := by
  obtain ⟨cs, hb, hs, ht⟩ := h
  refine ⟨by rw [hb.cell, Array.getElem?_eq_getElem (by omega)]; rfl, hb.frozen _, hb.lt⟩
set_option maxRecDepth 100000 in
set_option maxHeartbeats 3200000 in
theorem fill_impl (n g limit p : Nat) (rows : List (List Bool)) (hn : n ≤ 7) (hlim : limit ≤ 10) (hpg : p ≠ g) :
    ∀ (d n' : Nat) (ss : List Nat) (w : World), Blk w g 45 ((setsL rows n).map fU).toArray → Part w p n n' ss → ss.length = n' → n' + d = n → (∀ j, ss.getD j 0 < 16) →
    Calls Tryd.prog 34 #[.slice (some ⟨g, 0, none⟩) n n, .slice (some ⟨p, 0, none⟩) n' n, .int .i64 (limit : Int)] w fun e w' => ∃ v, e = .returned v ∧ FillRes w w' v n (search rows limit d ss) ∧ Only p (p + 1) w w' ∧ Part w' p n n' ss := by
  obtain ⟨i0, hi0, hz0, hz1, hz2⟩ := info_parts infoSl
  intro d
  induction d with
  | zero =>
    intro n' ss w hg hp hl hd hs
    have hnn : n' = n := by omega
    subst hnn
    have hq : ((n' : Int) == (n' : Int)) = true := by simp
    have hmk := run_make0 (P := Tryd.prog) 25 3 (.int .i64 0) 8 Tryd.underlying25 infoSl rfl .i64 .i64 n' (by omega) (by omega)
    have hb := Below.alloc (Below.refl w.heap.size w) (Nat.le_refl _) (.cells (madeCells #[.int .i64 0] n') 3)
    have hplt : p < w.heap.size := by obtain ⟨cs, hb, _⟩ := hp; exact hb.lt
    have hri := RV.below (hp.ri (Nat.le_refl _)) hb
    have hown0 : (w.alloc (.cells (madeCells #[.int .i64 0] n') 3)).ownsRow w.heap.size 3 1 (.slice (some ⟨w.heap.size, 0, none⟩) 0 n') 0 [] := own_made0 _ _ _ (Nat.le_refl _) (by unfold maxLen; omega)
    have HP := hid (And.intro hp hb)
    by_cases hn0 : n' = 0
    · have HF := hid (show FillRes w (w.alloc (.cells (madeCells #[.int .i64 0] n') 3)) (.slice (some ⟨w.heap.size, 0, none⟩) 0 n') n' (some ss) from by
        have hss : ss = [] := List.eq_nil_of_length_eq_zero (hl.trans hn0)
        obtain ⟨A', c', e, ho⟩ := ownV_of hown0
        injection e with e1 e2 e3
        subst e1 e3 hss
        exact ⟨_, _, by rw [hn0], by rw [hn0] at ho ⊢; exact ho⟩)
      have HN0 := hid hn0
      clear hg hp hri hown0 hb hn0
      go_enter Tryd.func34, Tryd.ntmps34
      go_wp2_with (at_builtin; refine wpList_zero rfl _ _ _ rfl 3 i0 Tryd.underlying25 hi0 ⟨w.heap.size, 0, none⟩ 0 n' (some ⟨p, 0, none⟩) n' rfl n' rfl HN0.out (Nat.zero_le _) ?_)
      go_ret
      exact ⟨_, rfl, HF.out, Below.only HP.out.2, HP.out.1.more (HP.out.2.block p hplt)⟩
    · have hn0' : 0 < n' := by omega
      clear hg hp hb
      go_enter Tryd.func34, Tryd.ntmps34
      go_wp2_with (at_builtin; refine wpList_all rfl _ _ _ rfl w.heap.size 3 i0 _ 8 Tryd.underlying25 hi0 hz0 hz1 hz2 rfl (by omega) _ 0 n' [] rfl hown0 w.heap.size (some ⟨p, 0, none⟩) n' n' ((castL ss).map (Value.int .i64)) rfl hri (by intro u hu; obtain ⟨x, _, rfl⟩ := List.mem_map.1 hu; rfl) (by omega) (by omega) (by simp) ?_; intro A5 c5 w5 hown5 hgrow5; simp only [Nat.zero_add, List.nil_append] at hown5)
      have hb5 := below_push HP.out.2 hown0 (Nat.le_refl _) (by simp) hgrow5
      obtain ⟨A6, c6, e6, ho6⟩ := ownV_of hown5
      injection e6 with e61 e62 e63
      subst e61 e63
      obtain ⟨g6, cs6, eg6, _⟩ := ho6.blk hn0'
      subst eg6
      have HF := hid (And.intro ho6 hb5)
      clear hown5 hgrow5 ho6 hb5 hown0 hri
      go_ret
      exact ⟨_, rfl, ⟨_, _, rfl, HF.out.1⟩, Below.only HF.out.2, HP.out.1.more (HF.out.2.block p hplt)⟩
  | succ d ih =>
    intro n' ss w hg hp hl hd hs
    have hlt' : n' < n := by omega
    have hq : ((n' : Int) == (n : Int)) = false := by simp; omega
    have hplt : p < w.heap.size := (hp.cell hlt').2.2
    have hgc : w.cell? ⟨g, n', none⟩ = some (.int .u64 (rowN rows n' n : Nat)) := by
      rw [hg.cell]
      simp [setsL, hlt', fU]
    have hus := usedSlots_impl (some ⟨p, 0, none⟩) n' n w.heap.size n' n rows ss w (hp.ri (by omega)) hs (by omega) (by omega)
    have hub : usedN rows n' ss n' < 65536 := usedN_lt rows n' ss 16 hs n'
    obtain ⟨U, hU⟩ : ∃ U, usedN rows n' ss n' = U := ⟨_, rfl⟩
    rw [hU] at hus hub
    have HU := hid (show ∀ s, U.testBit s = usedB rows ss n' s from fun s => by
      have h1 := usedN_bit rows n' ss s n'
      rw [hU] at h1
      rw [Bool.eq_iff_iff, h1, usedB_iff, hl])
    have HUS := hid hus
    have HH := hid (And.intro hg (And.intro hp hs))
    have HIH := hid ih
    have hn'0 : (0 : Int) ≤ (n' : Int) := by omega
    have hn'n : (n' : Int) < (n : Int) := by omega
    clear hg hp hs hus hU ih
    go_enter Tryd.func34, Tryd.ntmps34
    go_wp2_with fail
    refine HUS.out.mono ?_
    rintro e w_ ⟨rfl, rfl⟩
    go_wp2
    go_loopw [28] (fun sv wr => ∃ s : Nat, s ≤ limit ∧ sv = .int .i64 s ∧ Only p (p + 1) w wr ∧ Part wr p n n' ss ∧ Hid (∀ t, t < s → srchF rows limit d ss t = none)) (fun sv _ => limit - (intOf sv).toNat)
    case atStart => exact ⟨0, Nat.zero_le _, rfl, Only.refl _ _ _, HH.out.2.1, hid (fun t ht => by omega)⟩
    case round =>
      obtain ⟨s, hs, rfl, hon, hpt, HN⟩ := hrel
      have hsz := hon.size
      by_cases hst : s < limit
      · have hbt := bit_eq U s hub
        rw [HU.out s] at hbt
        cases hu : usedB rows ss n' s with
        | true =>
          rw [hu] at hbt
          have HN2 := hid (show ∀ t, t < s + 1 → srchF rows limit d ss t = none from fun t ht => by
            by_cases hts : t = s
            · subst hts; unfold srchF; rw [hl, hu]; rfl
            · exact HN.out t (by omega))
          have HB := hid (And.intro hon hpt)
          clear hon hpt hu
          go_wp2
          go_roundw
          case rel => exact ⟨s + 1, by omega, by go_num, HB.out.1, HB.out.2, HN2⟩
          case measure => simp [intOf]; omega
        | false =>
          rw [hu] at hbt
          have HS := hid (show srchF rows limit d ss s = search rows limit d (ss ++ [s]) by unfold srchF; rw [hl, hu]; rfl)
          obtain ⟨hce, hfz, hplr⟩ := hpt.cell hlt'
          have hpt2 := hpt.snoc hlt' s
          have hpt3 := Part.more (w' := (wr.setCell ⟨p, n', none⟩ (.int .i64 (s : Int))).alloc (.cells #[.int .i64 (s : Int)] 3)) hpt2 (Below.heap_alloc _ _ p (by obtain ⟨cs, hb, _⟩ := hpt2; exact hb.lt))
          have hon3 := (hon.setCell (p := ⟨p, n', none⟩) (Nat.le_refl _) (Nat.lt_succ_self _) (.int .i64 (s : Int))).alloc (.cells #[.int .i64 (s : Int)] 3)
          have hg3 := Blk.only HH.out.1 hon3 (by omega)
          have hs3 : ∀ j, (ss ++ [s]).getD j 0 < 16 := fun j => by
            rw [getD_snoc]
            split
            · exact HH.out.2.2 j
            · split <;> omega
          have hrec := HIH.out (n' + 1) (ss ++ [s]) _ hg3 hpt3 (by simp; omega) (by omega) hs3
          have hz3 : w.heap.size ≤ ((wr.setCell ⟨p, n', none⟩ (.int .i64 (s : Int))).alloc (.cells #[.int .i64 (s : Int)] 3)).heap.size := hon3.size
          have HREC := hid (And.intro hrec (And.intro hon3 hz3))
          clear hrec hon3 hg3 hpt3 hon hpt hu hz3 hs3
          go_wp2_with (at_builtin; refine wpList_room1 rfl _ _ _ rfl 3 i0 Tryd.underlying25 hi0 hz1 p n' n _ _ rfl rfl (by omega) hplr hce hfz rfl ?_)
          refine HREC.out.1.mono ?_
          rintro e w4 ⟨v4, rfl, hfr, hon4, hpt4⟩
          have hon5 := HREC.out.2.1.trans hon4
          have hpt5 := hpt4.init hl
          have hz4 := HREC.out.2.2
          cases hsr : search rows limit d (ss ++ [s]) with
          | some xs =>
            rw [hsr] at hfr
            obtain ⟨A4, c4, rfl, ho4⟩ := hfr
            have HV := hid (show search rows limit (d + 1) ss = some xs by rw [search_succ]; exact range_some HN.out (HS.out.trans hsr) hst)
            have HF := hid (And.intro (OwnV.more ho4 hz4 (Nat.le_refl _)) (And.intro hon5 hpt5))
            clear hsr ho4 hon4 hpt4 hon5 hpt5 hz4
            go_wp2
            go_ret
            exact ⟨_, rfl, by rw [HV.out]; exact ⟨_, _, rfl, HF.out.1⟩, HF.out.2.1, HF.out.2.2⟩
          | none =>
            rw [hsr] at hfr
            have hv4 : v4 = .slice none 0 0 := hfr
            subst hv4
            have HN2 := hid (show ∀ t, t < s + 1 → srchF rows limit d ss t = none from fun t ht => by
              by_cases hts : t = s
              · subst hts; rw [HS.out, hsr]
              · exact HN.out t (by omega))
            have HB := hid (And.intro hon5 hpt5)
            clear hsr hfr hon4 hpt4 hon5 hpt5 hz4
            go_wp2
            go_roundw
            case rel => exact ⟨s + 1, by omega, by go_num, HB.out.1, HB.out.2, HN2⟩
            case measure => simp [intOf]; omega
      · have hsm : s = limit := by omega
        subst hsm
        have HV := hid (show search rows s (d + 1) ss = none by rw [search_succ]; exact range_none HN.out)
        have HB := hid (And.intro hon hpt)
        clear hon hpt
        go_wp2
        go_ret
        exact ⟨_, rfl, by rw [HV.out]; rfl, HB.out.1, HB.out.2⟩
end Go.Proofs.YtgccpjhkgkhllaaDoor
