/-
  DRAWS OF TABLES: slices of slices of the draw's own, over picks, appends, stores. No function in sight.
-/
import Derived.Test.YtgccpjhkgkhllaaDoorTab
import Derived.Test.YtgccpjhkgkhllaaDoorDr
namespace Go.Proofs.YtgccpjhkgkhllaaDoor
open Go.RowKit
set_option linter.unusedVariables false

section
variable {w0 w w' : World} {t2 t : TypeId} {g q lo hi n c : Nat} {A : Option Addr} {vss : List (List Value)} {us : List Value}
theorem DS.grownG (h : DS w0 w g q) (hm : w.ownsRow lo t 1 (.slice A n c) n us) (hg : w.grownBy w' (Value.ownBlock (.slice A n c))) (hlo : g < lo) (hw : w0.heap.size ≤ lo) (hz : lo ≤ w.heap.size) : DS w0 w' g q :=
  ⟨h.rd.below (B := lo) ((Below.refl _ _).grown hg hz (fun k hk => (World.ownsRow.lt hm k hk).1)) hlo, h.only.grown hg (fun k hk => Nat.le_trans hw (World.ownsRow.lt hm k hk).1)⟩
theorem grown_bel (hm : w.ownsRow lo t 1 (.slice A n c) n us) (hg : w.grownBy w' (Value.ownBlock (.slice A n c))) (hz : lo ≤ w.heap.size) : Below lo w w' :=
  below_of_grown hg hz (fun k hk => (World.ownsRow.lt hm k hk).1)
/-- A store into one cell of one row. -/
theorem OwnVV.cellset {k j : Nat} (h : OwnVV w t2 t lo hi A n c vss) (hk : k < n) (hj : ∀ vs, vss[k]? = some vs → j < vs.length) (u : Value) :
    ∃ g b n' c' vs y, A = some ⟨g, 0, none⟩ ∧ g ≠ b ∧ vss[k]? = some vs ∧ w.cell? ⟨g, k, none⟩ = some (.slice (some ⟨b, 0, none⟩) n' c') ∧ n' = vs.length ∧ n' ≤ c' ∧ c' ≤ maxLen ∧ lo ≤ g ∧ lo ≤ b ∧ b < hi ∧ b < w.heap.size ∧ vs[j]? = some y ∧ w.cell? ⟨b, j, none⟩ = some y ∧ w.frozen? ⟨b, j, none⟩ = false ∧
      OwnVV (w.setCell ⟨b, j, none⟩ u) t2 t lo hi A n c (vss.set k (vs.set j u)) := by
  obtain ⟨g, A', n', c', vs, rfl, g1, g2, hvs, hc, ho, hne, hback⟩ := h.row hk
  have hjn : j < n' := by have := hj vs hvs; have := ho.len; omega
  obtain ⟨b, rfl, b1, b2, b3, hcb, hf, hst⟩ := OwnV.stored ho hjn u
  have hjl : j < vs.length := hj vs hvs
  refine ⟨g, b, n', c', vs, vs[j], rfl, (hne _ rfl).symm, hvs, hc, ho.len.symm, ho.2.1, ho.2.2.1, g1, b1, b2, b3, List.getElem?_eq_getElem hjl, by rw [hcb, List.getElem?_eq_getElem hjl], hf, ?_⟩
  refine hback _ _ (by simp [World.setCell]) (fun k hk hka => Below.heap_setCell _ _ _ _ (fun e => hka _ rfl e.symm)) hst
theorem OwnVV.capm (h : OwnVV w t2 t lo hi A n c vss) : c ≤ maxLen := by obtain ⟨_, h, _⟩ := h; exact h.2.2.1
/-- Row k grows by an append, and is laid back. -/
theorem OwnVV.regrow {k : Nat} (h : OwnVV w t2 t lo hi A n c vss) (hk : k < n) (hhi : hi ≤ w.heap.size) :
    ∃ g A' n' c' vs, A = some ⟨g, 0, none⟩ ∧ vss[k]? = some vs ∧ vs.length = n' ∧ lo ≤ g ∧ g < hi ∧ w.cell? ⟨g, k, none⟩ = some (.slice A' n' c') ∧ n' ≤ c' ∧ c' ≤ maxLen ∧ (∀ a, A' = some a → a.block ≠ g ∧ lo ≤ a.block ∧ a.block < hi) ∧ w.ownsRow lo t 1 (.slice A' n' c') n' vs ∧
      ∀ g' cap w' us, w'.ownsRow lo t 1 (.slice (some ⟨g', 0, none⟩) (n' + 1) cap) (n' + 1) us → w.grownBy w' (Value.ownBlock (.slice A' n' c')) → (Value.ownBlock (.slice A' n' c') = some g' ∨ w.heap.size ≤ g') → g' < w'.heap.size →
        w'.cell? ⟨g, k, none⟩ = some (.slice A' n' c') ∧ w'.frozen? ⟨g, k, none⟩ = false ∧ g < w'.heap.size ∧ OwnVV (w'.setCell ⟨g, k, none⟩ (.slice (some ⟨g', 0, none⟩) (n' + 1) cap)) t2 t lo w'.heap.size A n c (vss.set k us) := by
  obtain ⟨g, A', n', c', vs, rfl, g1, g2, hvs, hc, ho, hne, _⟩ := h.row hk
  obtain ⟨ds, h1, h2, h3, h4, h5⟩ := h
  have hl : ds.length = n := by simpa using h1.len
  have hd : ds[k]? = some (ds[k]'(by omega)) := List.getElem?_eq_getElem (by omega)
  obtain ⟨g0, cs, e0, _, _, hblk, hcs, hnc, hcm, htk⟩ := h1.blk (by omega)
  injection e0 with e0
  injection e0 with e0 _
  subst e0
  have hcd : w.cell? ⟨g, k, none⟩ = some (slv (ds[k]'(by omega))) := by
    rw [hblk.cell, ← Array.getElem?_toList]
    have := congrArg (·[k]?) htk
    simp only [List.getElem?_take, if_pos hk, List.getElem?_map, hd, Option.map_some] at this
    exact this
  have hdk : (ds[k]'(by omega)) = (A', n', c') := by
    rw [hc] at hcd
    injection hcd with hcd
    unfold slv at hcd
    injection hcd with e1 e2 e3
    rw [e1, e2, e3]
  rw [hdk] at hd
  refine ⟨g, A', n', c', vs, rfl, hvs, ho.len, g1, g2, hc, ho.2.1, ho.2.2.1, fun a ha => ⟨hne a ha, (ho.addr ha).1, (ho.addr ha).2.1⟩, ho.own, ?_⟩
  intro g' cap w' us hown hgr hlies hlt
  have hAo : ∀ x, Value.ownBlock (.slice A' n' c') = some x → ∃ a, A' = some a ∧ a.block = x := by
    intro x hx
    rcases ho.2.2.2 with ⟨h, _⟩ | ⟨g9, _, h, _⟩
    · subst h; cases hx
    · subst h; injection hx with hx; exact ⟨_, rfl, hx⟩
  have same : ∀ b : Nat, b < w.heap.size → (∀ a, A' = some a → a.block ≠ b) → w'.heap[b]? = w.heap[b]? := by
    intro b hb hab
    refine hgr.block b hb (fun e => ?_)
    obtain ⟨a, ha, hax⟩ := hAo b e.symm
    exact hab a ha hax
  have hgg : w'.heap[g]? = w.heap[g]? := same g hblk.lt (fun a ha => hne a ha)
  have hblk' : Blk w' g t2 cs := hgg.trans hblk
  have hg'g : g' ≠ g := by
    rintro rfl
    rcases hlies with hx | hx
    · obtain ⟨a, ha, hax⟩ := hAo _ hx
      exact hne a ha hax
    · have := hblk.lt; omega
  obtain ⟨A9, c9, e9, hov⟩ := ownV_of hown
  injection e9 with e91 _ e93
  subst e91 e93
  have h1' : OwnV w' t2 lo hi (some ⟨g, 0, none⟩) n c (ds.map slv) := ⟨h1.len, h1.2.1, h1.2.2.1, .inr ⟨g, cs, rfl, g1, g2, hblk'.lt, hblk', hcs, htk⟩⟩
  obtain ⟨g8, e8, _, _, _, hc8, hf8, hst⟩ := OwnV.stored h1' hk (.slice (some ⟨g', 0, none⟩) (n' + 1) cap)
  injection e8 with e8
  injection e8 with e8 _
  subst e8
  have hz8 : (w'.setCell ⟨g, k, none⟩ (.slice (some ⟨g', 0, none⟩) (n' + 1) cap)).heap.size = w'.heap.size := by simp [World.setCell]
  refine ⟨by rw [hblk'.cell, ← hblk.cell]; exact hc, hf8, hblk'.lt, ds.set k (some ⟨g', 0, none⟩, n' + 1, cap), ?_, by rw [List.length_set]; exact h2, ?_, ?_, ?_⟩
  · rw [List.map_set]; exact OwnV.more hst (Nat.le_refl _) (show hi ≤ w'.heap.size from Nat.le_trans hhi hgr.size)
  · intro j d vs' hdj hvj
    by_cases hjk : j = k
    · subst hjk
      rw [List.getElem?_set_self (by omega)] at hdj
      rw [List.getElem?_set_self (by omega)] at hvj
      injection hdj with hdj; injection hvj with hvj
      subst hdj hvj
      exact hov.far (fun a ha => by injection ha with ha; subst ha; exact hg'g) _
    · rw [List.getElem?_set_ne (by omega)] at hvj hdj
      have hj := h3 j d vs' hdj hvj
      have hj' : OwnV w' t lo hi d.1 d.2.1 d.2.2 vs' := by
        refine ⟨hj.1, hj.2.1, hj.2.2.1, ?_⟩
        rcases hj.2.2.2 with r | ⟨gx, cx, e, a1, b1, d1, hb', r⟩
        · exact .inl r
        · refine .inr ⟨gx, cx, e, a1, b1, Nat.lt_of_lt_of_le d1 hgr.size, (same gx d1 ?_).trans hb', r⟩
          intro a ha
          exact h4 k j _ _ a _ (by omega) hd hdj ha e
      exact OwnV.more (OwnV.far hj' (p := ⟨g, k, none⟩) (fun a ha => h5 j d a ⟨g, 0, none⟩ hdj ha rfl) _) (Nat.le_refl _) (show hi ≤ w'.heap.size from Nat.le_trans hhi hgr.size)
  · intro i j di dj a b hij hdi hdj ha hb
    by_cases hik : i = k
    · subst hik
      rw [List.getElem?_set_self (by omega)] at hdi
      rw [List.getElem?_set_ne (by omega)] at hdj
      injection hdi with hdi; subst hdi
      injection ha with ha; subst ha
      show g' ≠ b.block
      rintro hx
      have hjl : j < vss.length := by have := (List.getElem?_eq_some_iff.1 hdj).1; omega
      have hbd := (h3 j dj _ hdj (List.getElem?_eq_getElem hjl)).addr hb
      rcases hlies with hy | hy
      · obtain ⟨a9, ha9, hax⟩ := hAo _ hy
        exact h4 i j _ _ a9 b hij hd hdj ha9 hb (hax.trans hx)
      · omega
    · by_cases hjk : j = k
      · subst hjk
        rw [List.getElem?_set_ne (by omega)] at hdi
        rw [List.getElem?_set_self (by omega)] at hdj
        injection hdj with hdj; subst hdj
        injection hb with hb; subst hb
        show a.block ≠ g'
        rintro hx
        have hil : i < vss.length := by have := (List.getElem?_eq_some_iff.1 hdi).1; omega
        have hbd := (h3 i di _ hdi (List.getElem?_eq_getElem hil)).addr ha
        rcases hlies with hy | hy
        · obtain ⟨a9, ha9, hax⟩ := hAo _ hy
          exact h4 i j _ _ a a9 hij hdi hd ha ha9 (hx.trans hax.symm)
        · omega
      · rw [List.getElem?_set_ne (by omega)] at hdi hdj
        exact h4 i j di dj a b hij hdi hdj ha hb
  · intro j d a b hdj ha hb
    injection hb with hb; subst hb
    by_cases hjk : j = k
    · subst hjk
      rw [List.getElem?_set_self (by omega)] at hdj
      injection hdj with hdj; subst hdj
      injection ha with ha; subst ha
      exact hg'g
    · rw [List.getElem?_set_ne (by omega)] at hdj
      exact h5 j d a _ hdj ha rfl
/-- New blocks stay. -/
def NewR (H : Nat) (w w' : World) : Prop := w.heap.size ≤ w'.heap.size ∧ ∀ k, H ≤ k → k < w.heap.size → w'.heap[k]? = w.heap[k]?
theorem NewR.refl (H : Nat) (w : World) : NewR H w w := ⟨Nat.le_refl _, fun _ _ _ => rfl⟩
theorem NewR.alloc (H : Nat) (w : World) (o : Obj) : NewR H w (w.alloc o) := ⟨by simp, fun k _ hk => Below.heap_alloc _ _ _ hk⟩
theorem NewR.only {H g : Nat} {w w' : World} (h : Only g (g + 1) w w') (hg : g < H) : NewR H w w' := ⟨h.size, fun k hk hz => h.block k hz (by omega)⟩
theorem NewR.setCell {H : Nat} (w : World) {p : Addr} (hp : p.block < H) (u : Value) : NewR H w (w.setCell p u) := ⟨by simp [World.setCell], fun k hk hz => Below.heap_setCell _ _ _ _ (by omega)⟩
theorem NewR.blk {H b : Nat} {w w' : World} {t : TypeId} {cs : Array Value} (h : NewR H w w') (hb : Blk w b t cs) (hH : H ≤ b) : Blk w' b t cs := (h.2 b hH hb.lt).trans hb
end
/-- What a draw of a table of ints promises. -/
def GivesII (m g q : Nat) (w : World) (e : Ending) (w' : World) : Prop :=
  ∃ A n c rows, e = .returned (.slice A n c) ∧ RII w' w'.heap.size A n rows ∧ n ≤ c ∧ c ≤ maxLen ∧ n ≤ 10 ∧ (∃ q', q ≤ q' ∧ q' ≤ q + m ∧ Rd w' g q') ∧ Only g (g + 1) w w'
/-- What a draw of a table of bools promises. -/
def GivesTT (m g q : Nat) (w : World) (e : Ending) (w' : World) : Prop :=
  ∃ A n c rows, e = .returned (.slice A n c) ∧ (∀ w2, Only g (g + 1) w' w2 → RTT w2 w'.heap.size A n rows) ∧ n ≤ c ∧ c ≤ maxLen ∧ n ≤ 10 ∧ (∃ q', q ≤ q' ∧ q' ≤ q + m ∧ Rd w' g q') ∧ Only g (g + 1) w w'
end Go.Proofs.YtgccpjhkgkhllaaDoor
