/-
  A group of senders in a slice of the call's own; laws for the walk of AccessRun.
-/
import Derived.Test.YtnebmfdjcikegaaHp
import Derived.Test.YtnebmfdjcikegaaAccP
namespace Go.Proofs.Ytnebmfdjcikegaa
open Go.RowKit
set_option linter.unusedVariables false

def fl : List Snd → List Value
  | [] => []
  | s :: L => [.int .i64 s.slot, .int .i64 s.number, .int .i64 s.seed, .int .i64 s.fails] ++ fl L
theorem fl_len : ∀ L, (fl L).length = L.length * 4
  | [] => rfl
  | s :: L => by rw [fl, List.length_append, fl_len L]; simp; omega
theorem fl_app : ∀ (L : List Snd) (s : Snd), fl (L ++ [s]) = fl L ++ [.int .i64 s.slot, .int .i64 s.number, .int .i64 s.seed, .int .i64 s.fails]
  | [], s => rfl
  | a :: L, s => by rw [List.cons_append, fl, fl_app L s, fl, List.append_assoc]
theorem fl_get : ∀ (L : List Snd) (i : Nat) (s : Snd), L[i]? = some s → (fl L)[i * 4]? = some (.int .i64 s.slot) ∧ (fl L)[i * 4 + 1]? = some (.int .i64 s.number) ∧ (fl L)[i * 4 + 2]? = some (.int .i64 s.seed) ∧ (fl L)[i * 4 + 3]? = some (.int .i64 s.fails)
  | [], i, s, h => by simp at h
  | a :: L, 0, s, h => by simp at h; subst h; exact ⟨rfl, rfl, rfl, rfl⟩
  | a :: L, i + 1, s, h => by
    have ih := fl_get L i s (by simpa using h)
    have e : ∀ f, (fl (a :: L))[(i + 1) * 4 + f]? = (fl L)[i * 4 + f]? := fun f => by
      rw [fl, List.getElem?_append_right (by simp; omega)]
      congr 1
      simp
      omega
    refine ⟨?_, ?_, ?_, ?_⟩
    · have := e 0; simp only [Nat.add_zero] at this; rw [this]; exact ih.1
    · rw [e 1]; exact ih.2.1
    · rw [e 2]; exact ih.2.2.1
    · rw [e 3]; exact ih.2.2.2
/-- The group's slice. -/
def Grp (w : World) (base : Nat) (A : Option Addr) (m c : Nat) (G : List Snd) : Prop := w.ownsRow base 46 4 (.slice A m c) m (fl G)
theorem Grp.nil (w : World) (base : Nat) : Grp w base none 0 0 [] := World.ownsRow_nil _ _ _ _
theorem Grp.len {w : World} {base m c : Nat} {A : Option Addr} {G : List Snd} (h : Grp w base A m c G) : G.length = m := by
  have := h.1
  rw [fl_len] at this
  omega
theorem Grp.at_ {w : World} {base m c i : Nat} {A : Option Addr} {G : List Snd} (h : Grp w base A m c G) (hi : i < m) : ∃ g, A = some ⟨g, 0, none⟩ ∧ base ≤ g ∧ g < w.heap.size ∧
    w.cell? ⟨g, i * 4, none⟩ = some (.int .i64 (gt G i).slot) ∧ w.cell? ⟨g, i * 4 + 1, none⟩ = some (.int .i64 (gt G i).number) ∧ w.cell? ⟨g, i * 4 + 2, none⟩ = some (.int .i64 (gt G i).seed) ∧ w.cell? ⟨g, i * 4 + 3, none⟩ = some (.int .i64 (gt G i).fails) := by
  have hl := h.len
  rcases h.2 with ⟨hv, h0⟩ | ⟨g, cap, cur, hv, hb, hg, hnc, hcm, hcs, ht⟩
  · omega
  · injection hv with h1 h2 h3
    subst h1 h3
    have hc : ∀ k u, (fl G)[k]? = some u → w.cell? ⟨g, k, none⟩ = some u := fun k u hu => by
      rw [cell_of_row w g k cur _ (0, 0) hg]
      rw [← ht, List.getElem?_take] at hu
      split at hu
      · simpa using hu
      · cases hu
    obtain ⟨f0, f1, f2, f3⟩ := fl_get G i _ (gt_some (by omega))
    exact ⟨g, rfl, hb, (Array.getElem?_eq_some_iff.1 hg).1, hc _ _ f0, hc _ _ f1, hc _ _ f2, hc _ _ f3⟩
theorem Grp.keep {w w' : World} {base m c : Nat} {A : Option Addr} {G : List Snd} (h : Grp w base A m c G) (hk : ∀ k, base ≤ k → k < w.heap.size → w'.heap[k]? = w.heap[k]?) : Grp w' base A m c G := by
  refine ⟨h.1, ?_⟩
  rcases h.2 with h2 | ⟨g, cap, cur, hv, hb, hg, rest⟩
  · exact .inl h2
  · exact .inr ⟨g, cap, cur, hv, hb, (hk g hb (Array.getElem?_eq_some_iff.1 hg).1).trans hg, rest⟩
theorem Grp.only {w w' : World} {base m c lo hi : Nat} {A : Option Addr} {G : List Snd} (h : Grp w base A m c G) (ho : Only lo hi w w') (hb : hi ≤ base) : Grp w' base A m c G :=
  h.keep fun k h1 h2 => ho.block k h2 (by omega)
theorem infoSn : (Try.prog.info? 46).map (fun i => (i.zero, i.size, i.bytes)) = some (some (.agg #[.int .i64 0, .int .i64 0, .int .i64 0, .int .i64 0]), 4, 32) := by kernel_rfl
theorem info4 : ∃ i, Try.prog.info? 46 = some i ∧ i.zero = some (.agg #[.int .i64 0, .int .i64 0, .int .i64 0, .int .i64 0]) ∧ i.size = 4 ∧ i.bytes = 32 := by
  obtain ⟨i, hi, hz⟩ := Option.map_eq_some_iff.1 infoSn
  simp only [Prod.mk.injEq] at hz
  exact ⟨i, hi, hz.1, hz.2.1, hz.2.2⟩
/-- make([]sender, 0, n) -/
theorem make_q (n : Nat) (hn : n ≤ 8) : ∃ C : Array Value, C.size = n * 4 ∧ ∀ w, (Instr.makeSlice 44 (.int .i64 0) (.int .i64 (n : Int))).run Try.prog w = .ok (.slice (some ⟨w.heap.size, 0, none⟩) 0 n) (w.alloc (.cells C 46)) := by
  obtain ⟨i, hi, hz, hs, hb⟩ := info4
  refine ⟨madeCells (Value.agg #[.int .i64 0, .int .i64 0, .int .i64 0, .int .i64 0]).cells (n * 4), size_madeCells _ _, fun w => ?_⟩
  have hr := run_make (P := Try.prog) w 44 46 i _ Try.underlying44 hi hz .i64 .i64 0 (n : Int) (by omega) (by omega) (by rw [hb]; omega) (by omega)
  simp only [Int.toNat_natCast, hs] at hr
  exact hr
/-- append of one sender to the group. -/
theorem wpList_push4 {w : World} {ops : Array Oper} {rest : List Oper} {o : Oper} {a : Act} {Q : Exit → Act → World → Prop} (hgd : o.guard = none) (s x : Operand)
    (ho : o.op = .call { callee := .builtin .append, args := #[s, x], argTypes := #[43, 43] })
    (base : Nat) (A : Option Addr) (m c : Nat) (G : List Snd) (u : Snd) (hs : a.eval s = .slice A m c) (hown : Grp w base A m c G) (hm : m ≤ 100)
    (hx : a.eval x = .slice (some ⟨w.heap.size, 0, none⟩) 1 1) (hbase : base ≤ w.heap.size) (e' : TypeId)
    (h : ∀ A' c' w', Grp w' base A' (m + 1) c' (G ++ [u]) → w.grownBy w' (Value.ownBlock (.slice A m c)) → wpList Try.prog ops Q rest (a.put o.dst (.slice A' (m + 1) c')) w') :
    wpList Try.prog ops Q (o :: rest) a (w.alloc (.cells #[.int .i64 u.slot, .int .i64 u.number, .int .i64 u.seed, .int .i64 u.fails] e')) := by
  obtain ⟨i, hi, hz, hsz, hb⟩ := info4
  refine wpList_plain hgd fun K hK => ?_
  obtain ⟨v', w', hrun, h2, h3, _⟩ := run_append_own (P := Try.prog) (w.alloc (.cells #[.int .i64 u.slot, .int .i64 u.number, .int .i64 u.seed, .int .i64 u.fails] e')) base 43 o.type 46 i _ 4 32 Try.underlying43 hi hz hsz hb rfl (by omega) _ m (fl G)
    (World.ownsRow.alloc hown _) ⟨w.heap.size, 0, none⟩ 1 1 [.int .i64 u.slot, .int .i64 u.number, .int .i64 u.seed, .int .i64 u.fails] rfl (fun j v hv => by
      match j, hv with
      | 0, hv => simp at hv; subst hv; simp [Addr.add]
      | 1, hv => simp at hv; subst hv; simp [Addr.add]
      | 2, hv => simp at hv; subst hv; simp [Addr.add]
      | 3, hv => simp at hv; subst hv; simp [Addr.add]
      | j + 4, hv => simp at hv) (fun v hv => by simp at hv; rcases hv with rfl | rfl | rfl | rfl <;> rfl) (by unfold maxLen; omega) (by omega) (by simp; omega)
  have hv : ∃ A' c', v' = .slice A' (m + 1) c' := by
    rcases h2.2 with ⟨rfl, h0⟩ | ⟨g, cap, cur, rfl, _⟩
    · exact ⟨none, 0, by rw [h0]⟩
    · exact ⟨_, cap, rfl⟩
  obtain ⟨A', c', rfl⟩ := hv
  unfold Oper.wp execOp
  simp only [ho, resolve, invoke, builtin, Sem.run_bind, Sem.run_pure, Result.andThen_ok, List.map_toArray, List.map_cons, List.map_nil, hs, hx, hrun]
  refine hK _ _ (h A' c' w' ?_ ((World.grownBy_alloc w _ _).trans h3))
  rw [Grp, fl_app]
  exact h2
theorem QM.grown {w w' : World} {hb qb n : Nat} {L : List Snd} {row : Option Nat} (h : QM w hb qb n L) (hg : w.grownBy w' row) (h1 : ∀ k, row = some k → hb < k ∧ qb < k) : QM w' hb qb n L := by
  obtain ⟨cs, hc, _⟩ := h.cells
  exact h.keep (hg.block hb h.var_.lt (fun e => by have := h1 hb e.symm; omega)) (hg.block qb hc.lt (fun e => by have := h1 qb e.symm; omega))
theorem seedV (x : Int) (w : World) : Calls Try.prog 28 #[.int .i64 x] w fun e w' => e = .returned (.bool (decide (0 ≤ x) && decide (x ≤ 2047))) ∧ w = w' := by
  by_cases h0 : 0 ≤ x
  · by_cases h1 : x ≤ 2047
    · go_enter Try.func28, Try.ntmps28
      go_wp2
      go_ret
      exact ⟨by first | rfl | (simp; done) | (simp; omega), rfl⟩
    · go_enter Try.func28, Try.ntmps28
      go_wp2
      go_ret
      exact ⟨by first | (simp; done) | (simp; omega), rfl⟩
  · go_enter Try.func28, Try.ntmps28
    go_wp2
    go_ret
    exact ⟨by first | (simp; done) | (simp; omega), rfl⟩
theorem QM.setFar {w : World} {hb qb n : Nat} {L : List Snd} (h : QM w hb qb n L) {p : Addr} (h1 : p.block ≠ hb) (h2 : p.block ≠ qb) (u : Value) : QM (w.setCell p u) hb qb n L :=
  h.keep (Below.heap_setCell w p u hb (Ne.symm h1)) (Below.heap_setCell w p u qb (Ne.symm h2))
theorem own_lt {w : World} {t : TypeId} {lo hi n c : Nat} {a : Addr} {vs : List Value} (h : OwnV w t lo hi (some a) n c vs) : a.block < w.heap.size := by
  obtain ⟨_, _, _, h4⟩ := h
  rcases h4 with ⟨h4, _⟩ | ⟨g, cs, e, _, _, d, _⟩
  · cases h4
  · injection e with e; subst e; exact d
theorem own_far {w : World} {t : TypeId} {lo hi n c : Nat} {a : Addr} {vs : List Value} (h : OwnV w t lo hi (some a) n c vs) {p : Addr} (hp : p.block < lo ∨ hi ≤ p.block) (u : Value) : OwnV (w.setCell p u) t lo hi (some a) n c vs :=
  h.keep (by simp [World.setCell]) fun k h1 h2 _ => Below.heap_setCell _ _ _ _ (by omega)
theorem done_step {w : World} {db n k : Nat} (h : OwnI w 3 db (db + 1) (some ⟨db, 0, none⟩) n n ((List.range n).map fun j => if j < k then (-1 : Int) else 0)) (hk : k < n) :
    OwnI (w.setCell ⟨db, k, none⟩ (.int .i64 (-1))) 3 db (db + 1) (some ⟨db, 0, none⟩) n n ((List.range n).map fun j => if j < k + 1 then (-1 : Int) else 0) := by
  obtain ⟨g, y, eg, _, _, _, _, _, _, hst⟩ := OwnI.stored h hk (-1)
  injection eg with eg
  injection eg with eg _ _
  subst eg
  rw [map_range_set hk] at hst
  have e : ((List.range n).map fun j => if j = k then (-1 : Int) else if j < k then -1 else 0) = (List.range n).map fun j => if j < k + 1 then (-1 : Int) else 0 := by
    apply List.map_congr_left
    intro j _
    by_cases h1 : j = k
    · rw [if_pos h1, if_pos (by omega)]
    · rw [if_neg h1]
      by_cases h2 : j < k
      · rw [if_pos h2, if_pos (by omega)]
      · rw [if_neg h2, if_neg (by omega)]
  rw [e] at hst
  exact hst
theorem outs_init (n : Nat) (xs : List Int) : outs n (initS xs) = (List.range n).map fun j => if j < n then (-1 : Int) else 0 := by
  unfold outs initS
  apply List.map_congr_left
  intro j hj
  rw [if_pos (List.mem_range.1 hj)]
theorem qL_init (n : Nat) (xs : List Int) : qL n (initS xs) = (List.range n).map (qf (initS xs)) := by
  unfold qL
  rw [List.filter_eq_self.2 (fun k _ => by simp [initS])]
theorem hp_init (n : Nat) (xs : List Int) : Hp ((List.range n).map (qf (initS xs))) ((List.range n).map (qf (initS xs))).length := by
  have e : ∀ k, k < n → sl ((List.range n).map (qf (initS xs))) k = 0 := fun k hk => by
    unfold sl
    rw [gt_of (s := qf (initS xs) k) (by simp [hk])]
    rfl
  intro k h0 hk
  rw [List.length_map, List.length_range] at hk
  rw [e k hk, e _ (by omega)]
  exact Int.le_refl _
/-- Until the next sender is due, nothing turns. -/
theorem jump {n t u : Nat} {σ : SdF} (ht : t ≤ u) (h : ∀ s ∈ qL n (itS n σ t), (u : Int) ≤ s.slot) : itS n σ u = itS n σ t := by
  obtain ⟨d, rfl⟩ := Nat.exists_eq_add_of_le ht
  exact skipS d fun k hk ho => by
    have := h _ (qf_mem hk ho)
    have e : (qf (itS n σ t) k).slot = (itS n σ t k).wh := rfl
    rw [e] at this
    omega
theorem gt_mem {L : List Snd} {k : Nat} (h : k < L.length) : gt L k ∈ L := List.mem_of_getElem? (gt_some h)
theorem Hp.all {L : List Snd} (h : Hp L L.length) : ∀ s ∈ L, sl L 0 ≤ s.slot := by
  intro s hs
  obtain ⟨j, hj⟩ := List.getElem?_of_mem hs
  have hjl : j < L.length := by
    rcases Nat.lt_or_ge j L.length with h1 | h1
    · exact h1
    · rw [List.getElem?_eq_none h1] at hj; cases hj
  have := h.least j hjl
  have e : sl L j = s.slot := by unfold sl; rw [gt_of hj]
  omega
end Go.Proofs.Ytnebmfdjcikegaa
