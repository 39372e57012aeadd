/-
  WORDS FOR TABLES: a slice of slices that reads as rows; one that the call owns. No program in sight.
-/
import Derived.Test.YtnebmfdjcikegaaBase
namespace Go.Proofs.Ytnebmfdjcikegaa
open Go.RowKit
set_option linter.unusedVariables false

/-- A row's slice as a value. -/
def slv (d : Option Addr × Nat × Nat) : Value := .slice d.1 d.2.1 d.2.2
/-- The slice of slices whose address is A and whose length is n reads as the rows vss, and lies below block B, with all its rows. -/
def RVV (w : World) (B : Nat) (A : Option Addr) (n : Nat) (vss : List (List Value)) : Prop :=
  ∃ ds : List (Option Addr × Nat × Nat), RV w B A n (ds.map slv) ∧ vss.length = n ∧
    ∀ (j : Nat) d vs, ds[j]? = some d → vss[j]? = some vs → RV w B d.1 d.2.1 vs ∧ d.2.1 ≤ d.2.2 ∧ d.2.2 ≤ maxLen
def RII (w : World) (B : Nat) (A : Option Addr) (n : Nat) (rows : List (List Int)) : Prop := RVV w B A n (rows.map fun r => r.map (Value.int .i64))
def RTT (w : World) (B : Nat) (A : Option Addr) (n : Nat) (rows : List (List Bool)) : Prop := RVV w B A n (rows.map fun r => r.map Value.bool)

section
variable {w w' : World} {B B' n : Nat} {A : Option Addr} {vss : List (List Value)} {rows : List (List Int)} {rowsT : List (List Bool)}
theorem RVV.len (h : RVV w B A n vss) : vss.length = n := by obtain ⟨_, _, h, _⟩ := h; exact h
theorem RII.len (h : RII w B A n rows) : rows.length = n := by simpa using RVV.len h
theorem RTT.len (h : RTT w B A n rowsT) : rowsT.length = n := by simpa using RVV.len h
theorem RVV.keep (h : RVV w B A n vss) (hk : ∀ p : Addr, p.block < B → w'.cell? p = w.cell? p) : RVV w' B A n vss := by
  obtain ⟨ds, h1, h2, h3⟩ := h
  exact ⟨ds, h1.keep hk, h2, fun j d vs hd hv => ⟨(h3 j d vs hd hv).1.keep hk, (h3 j d vs hd hv).2⟩⟩
theorem RVV.more (h : RVV w B A n vss) (hB : B ≤ B') : RVV w B' A n vss := by
  obtain ⟨ds, h1, h2, h3⟩ := h
  exact ⟨ds, h1.more hB, h2, fun j d vs hd hv => ⟨(h3 j d vs hd hv).1.more hB, (h3 j d vs hd hv).2⟩⟩
theorem RVV.below (h : RVV w B A n vss) (hb : Below B w w') : RVV w' B A n vss := h.keep fun _ hp => hb.cell hp
theorem RVV.next (h : RVV w w.heap.size A n vss) (hb : Below w.heap.size w w') : RVV w' w'.heap.size A n vss := (h.below hb).more hb.size
theorem RVV.alloc (h : RVV w B A n vss) (hB : B ≤ w.heap.size) (o : Obj) : RVV (w.alloc o) B A n vss := h.keep fun p hp => World.cell?_alloc_lt w o p (by omega)
theorem RVV.none_ : RVV w B none 0 [] := ⟨[], RV.none_, rfl, fun j d vs hd => by simp at hd⟩
/-- Row k: the outer cell, and what it reads as. -/
theorem RVV.at_ {k : Nat} (h : RVV w B A n vss) (hk : k < n) : ∃ b o A' n' c' vs, A = some ⟨b, o, none⟩ ∧ b < B ∧ vss[k]? = some vs ∧ w.cell? ⟨b, o + k, none⟩ = some (.slice A' n' c') ∧ RV w B A' n' vs ∧ n' ≤ c' ∧ c' ≤ maxLen := by
  obtain ⟨ds, h1, h2, h3⟩ := h
  have hl : ds.length = n := by simpa using h1.len
  obtain ⟨b, o, u, e, hb, hu, hc⟩ := h1.at_ hk
  have hd : ds[k]? = some (ds[k]'(by omega)) := List.getElem?_eq_getElem (by omega)
  have hv : vss[k]? = some (vss[k]'(by omega)) := List.getElem?_eq_getElem (by omega)
  obtain ⟨r1, r2, r3⟩ := h3 k _ _ hd hv
  rw [List.getElem?_map, hd] at hu
  simp at hu
  subst hu
  exact ⟨b, o, _, _, _, _, e, hb, hv, hc, r1, r2, r3⟩
theorem RII.at_ {k : Nat} (h : RII w B A n rows) (hk : k < n) : ∃ b o A' n' c' r, A = some ⟨b, o, none⟩ ∧ b < B ∧ rows[k]? = some r ∧ w.cell? ⟨b, o + k, none⟩ = some (.slice A' n' c') ∧ RI w B A' n' r ∧ n' ≤ c' ∧ c' ≤ maxLen := by
  obtain ⟨b, o, A', n', c', vs, e, hb, hv, hc, r1, r2, r3⟩ := RVV.at_ h hk
  rw [List.getElem?_map] at hv
  cases hx : rows[k]? with
  | none => rw [hx] at hv; simp at hv
  | some r => rw [hx] at hv; simp at hv; subst hv; exact ⟨b, o, A', n', c', r, e, hb, rfl, hc, r1, r2, r3⟩
theorem RTT.at_ {k : Nat} (h : RTT w B A n rowsT) (hk : k < n) : ∃ b o A' n' c' r, A = some ⟨b, o, none⟩ ∧ b < B ∧ rowsT[k]? = some r ∧ w.cell? ⟨b, o + k, none⟩ = some (.slice A' n' c') ∧ RT w B A' n' r ∧ n' ≤ c' ∧ c' ≤ maxLen := by
  obtain ⟨b, o, A', n', c', vs, e, hb, hv, hc, r1, r2, r3⟩ := RVV.at_ h hk
  rw [List.getElem?_map] at hv
  cases hx : rowsT[k]? with
  | none => rw [hx] at hv; simp at hv
  | some r => rw [hx] at hv; simp at hv; subst hv; exact ⟨b, o, A', n', c', r, e, hb, rfl, hc, r1, r2, r3⟩
end

/-- A slice of slices of the call's own: its outer cells and each row lie in blocks between lo and hi, each in its own. -/
def OwnVV (w : World) (t2 t : TypeId) (lo hi : Nat) (A : Option Addr) (n c : Nat) (vss : List (List Value)) : Prop :=
  ∃ ds : List (Option Addr × Nat × Nat), OwnV w t2 lo hi A n c (ds.map slv) ∧ vss.length = n ∧
    (∀ (j : Nat) d vs, ds[j]? = some d → vss[j]? = some vs → OwnV w t lo hi d.1 d.2.1 d.2.2 vs) ∧
    (∀ (i j : Nat) di dj a b, i ≠ j → ds[i]? = some di → ds[j]? = some dj → di.1 = some a → dj.1 = some b → a.block ≠ b.block) ∧
    (∀ (j : Nat) d a b, ds[j]? = some d → d.1 = some a → A = some b → a.block ≠ b.block)
def OwnII (w : World) (t2 t : TypeId) (lo hi : Nat) (A : Option Addr) (n c : Nat) (rows : List (List Int)) : Prop := OwnVV w t2 t lo hi A n c (rows.map fun r => r.map (Value.int .i64))
def OwnTT (w : World) (t2 t : TypeId) (lo hi : Nat) (A : Option Addr) (n c : Nat) (rows : List (List Bool)) : Prop := OwnVV w t2 t lo hi A n c (rows.map fun r => r.map Value.bool)

theorem OwnV.far {w : World} {t : TypeId} {lo hi n c : Nat} {A : Option Addr} {vs : List Value} (h : OwnV w t lo hi A n c vs) {p : Addr} (hp : ∀ a, A = some a → a.block ≠ p.block) (u : Value) : OwnV (w.setCell p u) t lo hi A n c vs := by
  obtain ⟨h1, h2, h3, h4⟩ := h
  refine ⟨h1, h2, h3, ?_⟩
  rcases h4 with h4 | ⟨g, cs, e, a, b, d, hb, r⟩
  · exact .inl h4
  · exact .inr ⟨g, cs, e, a, b, by simpa [World.setCell] using d, hb.far (hp _ e) u, r⟩
theorem OwnV.addr {w : World} {t : TypeId} {lo hi n c : Nat} {A : Option Addr} {vs : List Value} (h : OwnV w t lo hi A n c vs) {a : Addr} (ha : A = some a) : lo ≤ a.block ∧ a.block < hi ∧ a.block < w.heap.size := by
  obtain ⟨_, _, _, h4⟩ := h
  rcases h4 with ⟨h4, _⟩ | ⟨g, cs, e, a1, b1, d, hb, r⟩
  · rw [h4] at ha; cases ha
  · rw [e] at ha; injection ha with ha; subst ha; exact ⟨a1, b1, d⟩
theorem OwnV.nil_ (w : World) (t : TypeId) (lo hi : Nat) : OwnV w t lo hi none 0 0 [] := ⟨rfl, Nat.le_refl _, by simp, .inl ⟨rfl, rfl, rfl⟩⟩

section
variable {w w' : World} {t2 t : TypeId} {lo hi lo' hi' B n c : Nat} {A : Option Addr} {vss : List (List Value)} {rows : List (List Int)} {rowsT : List (List Bool)}
theorem OwnVV.len (h : OwnVV w t2 t lo hi A n c vss) : vss.length = n := by obtain ⟨_, _, h, _⟩ := h; exact h
theorem OwnII.len (h : OwnII w t2 t lo hi A n c rows) : rows.length = n := by simpa using OwnVV.len h
theorem OwnTT.len (h : OwnTT w t2 t lo hi A n c rowsT) : rowsT.length = n := by simpa using OwnVV.len h
theorem OwnVV.cap (h : OwnVV w t2 t lo hi A n c vss) : n ≤ c := by obtain ⟨_, h, _⟩ := h; exact h.cap
theorem OwnVV.keep (h : OwnVV w t2 t lo hi A n c vss) (hz : w.heap.size ≤ w'.heap.size) (hk : ∀ k, lo ≤ k → k < hi → k < w.heap.size → w'.heap[k]? = w.heap[k]?) : OwnVV w' t2 t lo hi A n c vss := by
  obtain ⟨ds, h1, h2, h3, h4⟩ := h
  exact ⟨ds, h1.keep hz hk, h2, fun j d vs hd hv => (h3 j d vs hd hv).keep hz hk, h4⟩
theorem OwnVV.below (h : OwnVV w t2 t lo hi A n c vss) (hb : Below B w w') (hB : hi ≤ B) : OwnVV w' t2 t lo hi A n c vss := h.keep hb.size fun k _ h2 _ => hb.block k (by omega)
theorem OwnVV.only (h : OwnVV w t2 t lo hi A n c vss) (hb : Only lo' hi' w w') (hB : hi ≤ lo' ∨ hi' ≤ lo) : OwnVV w' t2 t lo hi A n c vss := h.keep hb.size fun k h1 h2 h3 => hb.block k h3 (by omega)
theorem OwnVV.alloc (h : OwnVV w t2 t lo hi A n c vss) (o : Obj) : OwnVV (w.alloc o) t2 t lo hi A n c vss := h.keep (by simp) fun k _ _ h3 => Below.heap_alloc w o k h3
theorem OwnVV.drewN (h : OwnVV w t2 t lo hi A n c vss) (m : Nat) : OwnVV (w.drewN m) t2 t lo hi A n c vss := h
theorem OwnVV.more (h : OwnVV w t2 t lo hi A n c vss) (h1 : lo' ≤ lo) (h2 : hi ≤ hi') : OwnVV w t2 t lo' hi' A n c vss := by
  obtain ⟨ds, a1, a2, a3, a4⟩ := h
  exact ⟨ds, a1.more h1 h2, a2, fun j d vs hd hv => (a3 j d vs hd hv).more h1 h2, a4⟩
theorem OwnVV.rvv (h : OwnVV w t2 t lo hi A n c vss) : RVV w hi A n vss := by
  obtain ⟨ds, h1, h2, h3, _⟩ := h
  exact ⟨ds, h1.rv, h2, fun j d vs hd hv => ⟨(h3 j d vs hd hv).rv, (h3 j d vs hd hv).2.1, (h3 j d vs hd hv).2.2.1⟩⟩
/-- Row k, own: the outer cell, and the row's slice; and what is left when its block is turned into another row's cells by a call that writes there alone. -/
theorem OwnVV.row {k : Nat} (h : OwnVV w t2 t lo hi A n c vss) (hk : k < n) : ∃ g A' n' c' vs, A = some ⟨g, 0, none⟩ ∧ lo ≤ g ∧ g < hi ∧ vss[k]? = some vs ∧ w.cell? ⟨g, k, none⟩ = some (.slice A' n' c') ∧ OwnV w t lo hi A' n' c' vs ∧
    (∀ a, A' = some a → a.block ≠ g) ∧
    ∀ w' vs', w.heap.size ≤ w'.heap.size → (∀ k, k < w.heap.size → (∀ a, A' = some a → a.block ≠ k) → w'.heap[k]? = w.heap[k]?) → OwnV w' t lo hi A' n' c' vs' → OwnVV w' t2 t lo hi A n c (vss.set k vs') := by
  obtain ⟨ds, h1, h2, h3, h4, h5⟩ := h
  have hl : ds.length = n := by simpa using h1.len
  obtain ⟨g, cs, rfl, g1, g2, hblk, hcs, hnc, hcm, htk⟩ := h1.blk (by omega)
  have hd : ds[k]? = some (ds[k]'(by omega)) := List.getElem?_eq_getElem (by omega)
  have hv : vss[k]? = some (vss[k]'(by omega)) := List.getElem?_eq_getElem (by omega)
  have hc : w.cell? ⟨g, k, none⟩ = some (slv (ds[k]'(by omega))) := by
    rw [hblk.cell, ← Array.getElem?_toList]
    have := congrArg (·[k]?) htk
    simp only [List.getElem?_take, if_pos hk, List.getElem?_map, hd, Option.map_some] at this
    exact this
  refine ⟨g, _, _, _, _, rfl, g1, g2, hv, hc, h3 k _ _ hd hv, fun a ha => h5 k _ a _ hd ha rfl, ?_⟩
  intro w' vs' hz hkp ho
  have hge : ∀ a, (ds[k]'(by omega)).1 = some a → a.block ≠ g := fun a ha => h5 k _ a _ hd ha rfl
  refine ⟨ds, ⟨h1.len, h1.2.1, h1.2.2.1, .inr ⟨g, cs, rfl, g1, g2, Nat.lt_of_lt_of_le hblk.lt hz, (hkp g hblk.lt hge).trans hblk, hcs, htk⟩⟩, by rw [List.length_set]; exact h2, ?_, h4, h5⟩
  intro j d vs hdj hvj
  by_cases hjk : j = k
  · subst hjk
    rw [hd] at hdj
    injection hdj with hdj
    rw [List.getElem?_set_self (by omega)] at hvj
    injection hvj with hvj
    subst hdj hvj
    exact ho
  · rw [List.getElem?_set_ne (by omega)] at hvj
    have := h3 j d vs hdj hvj
    refine ⟨this.1, this.2.1, this.2.2.1, ?_⟩
    rcases this.2.2.2 with r | ⟨g', cs', e, a1, b1, d1, hb', r⟩
    · exact .inl r
    · refine .inr ⟨g', cs', e, a1, b1, Nat.lt_of_lt_of_le d1 hz, (hkp g' d1 ?_).trans hb', r⟩
      intro a ha
      have := h4 k j _ _ a _ (by omega) hd hdj ha e
      exact this
/-- A new row laid into outer cell k. -/
theorem OwnVV.put {k : Nat} (h : OwnVV w t2 t lo hi A n c vss) (hk : k < n) {A' : Option Addr} {n' c' : Nat} {vs : List Value} (ho : OwnV w t lo' hi' A' n' c' vs) (hlo : hi ≤ lo') (hlh : lo' ≤ hi') (hll : lo ≤ lo') :
    ∃ g, A = some ⟨g, 0, none⟩ ∧ lo ≤ g ∧ g < hi ∧ g < w.heap.size ∧ (∃ u, w.cell? ⟨g, k, none⟩ = some u) ∧ w.frozen? ⟨g, k, none⟩ = false ∧ OwnVV (w.setCell ⟨g, k, none⟩ (.slice A' n' c')) t2 t lo hi' A n c (vss.set k vs) := by
  obtain ⟨ds, h1, h2, h3, h4, h5⟩ := h
  have hl : ds.length = n := by simpa using h1.len
  obtain ⟨g, e, g1, g2, g3, hc, hf, hst⟩ := OwnV.stored h1 hk (.slice A' n' c')
  refine ⟨g, e, g1, g2, g3, ⟨_, by rw [hc]; exact List.getElem?_eq_getElem (by simpa using (by omega : k < ds.length))⟩, hf, ds.set k (A', n', c'), ?_, by rw [List.length_set]; exact h2, ?_, ?_, ?_⟩
  · rw [List.map_set]; exact hst.more (Nat.le_refl _) (by omega)
  · intro j d vs' hdj hvj
    by_cases hjk : j = k
    · subst hjk
      rw [List.getElem?_set_self (by omega)] at hvj hdj
      injection hvj with hvj; injection hdj with hdj
      subst hdj hvj
      refine (ho.more hll (Nat.le_refl _)).far ?_ _
      intro a ha
      have := (ho.addr ha).1
      show a.block ≠ g
      omega
    · rw [List.getElem?_set_ne (by omega)] at hvj hdj
      refine ((h3 j d vs' hdj hvj).more (Nat.le_refl _) (by omega)).far ?_ _
      intro a ha
      have h8 := h5 j d a _ hdj ha e
      exact h8
  · intro i j di dj a b hij hdi hdj ha hb
    by_cases hik : i = k
    · subst hik
      rw [List.getElem?_set_self (by omega)] at hdi
      rw [List.getElem?_set_ne (by omega)] at hdj
      injection hdi with hdi
      subst hdi
      have h7 := (ho.addr ha).1
      have hjl : j < vss.length := by have := (List.getElem?_eq_some_iff.1 hdj).1; omega
      have := ((h3 j dj _ hdj (List.getElem?_eq_getElem hjl)).addr hb).2.1
      omega
    · by_cases hjk : j = k
      · subst hjk
        rw [List.getElem?_set_self (by omega)] at hdj
        rw [List.getElem?_set_ne (by omega)] at hdi
        injection hdj with hdj
        subst hdj
        have h7 := (ho.addr hb).1
        have hjl : i < vss.length := by have := (List.getElem?_eq_some_iff.1 hdi).1; omega
        have := ((h3 i di _ hdi (List.getElem?_eq_getElem hjl)).addr ha).2.1
        omega
      · rw [List.getElem?_set_ne (by omega)] at hdi hdj
        exact h4 i j di dj a b hij hdi hdj ha hb
  · intro j d a b hdj ha hb
    by_cases hjk : j = k
    · subst hjk
      rw [List.getElem?_set_self (by omega)] at hdj
      injection hdj with hdj
      subst hdj
      have h7 := (ho.addr ha).1
      rw [e] at hb
      injection hb with hb
      subst hb
      show a.block ≠ g
      omega
    · rw [List.getElem?_set_ne (by omega)] at hdj
      exact h5 j d a b hdj ha hb
/-- A table of n nil rows, just made. -/
theorem OwnVV.made {g : Nat} (hb : Blk w g t2 (madeCells #[.slice none 0 0] n)) (h1 : lo ≤ g) (h2 : g < hi) (hm : n ≤ maxLen) : OwnVV w t2 t lo hi (some ⟨g, 0, none⟩) n n (List.replicate n []) := by
  have e : (madeCells #[.slice none 0 0] n) = ((List.replicate n ((none, 0, 0) : Option Addr × Nat × Nat)).map slv).toArray := by
    apply Array.toList_inj.1
    rw [toList_madeCells_one]
    simp [slv]
  rw [e] at hb
  refine ⟨List.replicate n (none, 0, 0), ownV_blk hb h1 h2 (by simp) hm, by simp, ?_, ?_, ?_⟩
  · intro j d vs hd hv
    rw [List.getElem?_replicate] at hd hv
    split at hd
    · rename_i hj
      rw [if_pos hj] at hv
      injection hd with hd; injection hv with hv
      subst hd hv
      exact OwnV.nil_ _ _ _ _
    · cases hd
  · intro i j di dj a b hij hdi hdj ha hb
    rw [List.getElem?_replicate] at hdi
    split at hdi
    · injection hdi with hdi; subst hdi; cases ha
    · cases hdi
  · intro j d a b hd ha
    rw [List.getElem?_replicate] at hd
    split at hd
    · injection hd with hd; subst hd; cases ha
    · cases hd
/-- The outer slice of a table in own memory, as the law of append wants it; and the table behind the append of a new row. -/
theorem OwnVV.push {base : Nat} (h : OwnVV w t2 t lo hi A n c vss) {A' : Option Addr} {n' c' : Nat} {vs : List Value} (ho : OwnV w t lo' hi' A' n' c' vs) (hlo : hi ≤ lo') (hll : lo ≤ lo') (hhi : hi' ≤ w.heap.size) (hbase : lo ≤ base) (hhw : hi ≤ w.heap.size) :
    ∃ us, w.ownsRow lo t2 1 (.slice A n c) n us ∧ ∀ g cap w', w'.ownsRow base t2 1 (.slice (some ⟨g, 0, none⟩) (n + 1) cap) (n + 1) (us ++ [.slice A' n' c']) → w.grownBy w' (Value.ownBlock (.slice A n c)) →
      (Value.ownBlock (.slice A n c) = some g ∨ w.heap.size ≤ g) → g < w'.heap.size → OwnVV w' t2 t lo w'.heap.size (some ⟨g, 0, none⟩) (n + 1) cap (vss ++ [vs]) := by
  obtain ⟨ds, h1, h2, h3, h4, h5⟩ := h
  have hl : ds.length = n := by simpa using h1.len
  refine ⟨ds.map slv, h1.own, ?_⟩
  intro g cap w' hown hg hgg hgw
  obtain ⟨A1, c1, hv, hov⟩ := ownV_of hown
  injection hv with e1 e2 e3
  subst e1 e3
  have hAg : ∀ a, A = some a → Value.ownBlock (.slice A n c) = some a.block := by
    intro a ha
    subst ha
    rcases h1.2.2.2 with ⟨h, _⟩ | ⟨g0, _, h, _⟩
    · cases h
    · injection h with h; subst h; rfl
  have hAo : ∀ x, Value.ownBlock (.slice A n c) = some x → ∃ a, A = some a ∧ a.block = x := by
    intro x hx
    rcases h1.2.2.2 with ⟨h, _⟩ | ⟨g0, _, h, _⟩
    · subst h; cases hx
    · subst h; injection hx with hx; exact ⟨_, rfl, hx⟩
  have keep : ∀ {lo1 hi1 : Nat} {A1 : Option Addr} {n1 c1 : Nat} {us : List Value}, OwnV w t lo1 hi1 A1 n1 c1 us → (∀ a b, A1 = some a → A = some b → a.block ≠ b.block) → OwnV w' t lo1 hi1 A1 n1 c1 us := by
    intro lo1 hi1 A1 n1 c1 us hu hne
    refine ⟨hu.1, hu.2.1, hu.2.2.1, ?_⟩
    rcases hu.2.2.2 with r | ⟨g', cs', e, a1, b1, d1, hb', r⟩
    · exact .inl r
    · refine .inr ⟨g', cs', e, a1, b1, Nat.lt_of_lt_of_le d1 hg.size, hb'.grown hg ?_, r⟩
      intro hx
      obtain ⟨a, ha, hax⟩ := hAo g' hx.symm
      exact hne _ a e ha hax.symm
  have hAhi : ∀ a, A = some a → a.block < hi := fun a ha => (h1.addr ha).2.1
  have hi_le : ∀ (j : Nat) (d : Option Addr × Nat × Nat) (a : Addr), ds[j]? = some d → d.1 = some a → a.block < hi ∧ a.block < w.heap.size := fun j d a hd ha => by
    have hj : j < vss.length := by have := (List.getElem?_eq_some_iff.1 hd).1; omega
    exact ((h3 j d _ hd (List.getElem?_eq_getElem hj)).addr ha).2
  have hgr : ∀ a : Addr, (a.block < w.heap.size ∧ ∀ b, A = some b → a.block ≠ b.block) → a.block ≠ g := by
    intro a ⟨ha, hb⟩ he
    rcases hgg with hx | hx
    · obtain ⟨b, hb1, hb2⟩ := hAo g hx
      exact hb b hb1 (by omega)
    · omega
  refine ⟨ds ++ [(A', n', c')], ?_, by simp [h2], ?_, ?_, ?_⟩
  · rw [List.map_append]
    exact hov.more (by omega) (Nat.le_refl _)
  · intro j d us hd hu
    by_cases hj : j < n
    · rw [List.getElem?_append_left (by omega)] at hd hu
      exact (keep (h3 j d us hd hu) fun a b ha hb => h5 j d a b hd ha hb).more (Nat.le_refl _) (Nat.le_trans hhw hg.size)
    · have hjl : j = n := by
        have := (List.getElem?_eq_some_iff.1 hd).1
        simp at this
        omega
      subst hjl
      rw [List.getElem?_append_right (by omega)] at hd hu
      rw [hl] at hd
      rw [h2] at hu
      simp at hd hu
      subst hd hu
      refine (keep ho fun a b ha hb => ?_).more hll (Nat.le_trans hhi hg.size)
      have := hAhi b hb
      have := (ho.addr ha).1
      omega
  · intro i j di dj a b hij hdi hdj ha hb
    by_cases hin : i < n
    · rw [List.getElem?_append_left (by omega)] at hdi
      by_cases hjn : j < n
      · rw [List.getElem?_append_left (by omega)] at hdj
        exact h4 i j di dj a b hij hdi hdj ha hb
      · rw [List.getElem?_append_right (by omega)] at hdj
        have : j - ds.length = 0 := by have := (List.getElem?_eq_some_iff.1 hdj).1; simp at this; omega
        rw [this] at hdj
        simp at hdj
        subst hdj
        have := (ho.addr hb).1
        have := (hi_le i di a hdi ha).1
        omega
    · rw [List.getElem?_append_right (by omega)] at hdi
      have e0 : i - ds.length = 0 := by have := (List.getElem?_eq_some_iff.1 hdi).1; simp at this; omega
      rw [e0] at hdi
      simp at hdi
      subst hdi
      have hjn : j < n := by
        have := (List.getElem?_eq_some_iff.1 hdj).1
        simp at this
        omega
      rw [List.getElem?_append_left (by omega)] at hdj
      have := (ho.addr ha).1
      have := (hi_le j dj b hdj hb).1
      omega
  · intro j d a b hd ha hb
    injection hb with hb
    subst hb
    refine hgr a ?_
    by_cases hj : j < n
    · rw [List.getElem?_append_left (by omega)] at hd
      exact ⟨(hi_le j d a hd ha).2, fun b hb => h5 j d a b hd ha hb⟩
    · rw [List.getElem?_append_right (by omega)] at hd
      have e0 : j - ds.length = 0 := by have := (List.getElem?_eq_some_iff.1 hd).1; simp at this; omega
      rw [e0] at hd
      simp at hd
      subst hd
      have h7 := ho.addr ha
      exact ⟨h7.2.2, fun b hb => by have := hAhi b hb; omega⟩
end
section
variable {w : World} {t2 t : TypeId} {lo hi n c : Nat} {A : Option Addr} {rows : List (List Int)} {rowsT : List (List Bool)}
theorem OwnII.rii (h : OwnII w t2 t lo hi A n c rows) : RII w hi A n rows := OwnVV.rvv h
theorem OwnTT.rtt (h : OwnTT w t2 t lo hi A n c rowsT) : RTT w hi A n rowsT := OwnVV.rvv h
end
/-- A call that only draws, in a region within a loop whose world has drawn already. -/
theorem quiet_two {P : Program} {f : FuncId} {args : Array Value} {w : World} {m n : Nat} {v : Value}
    (h : ∀ K, Calls P f args (w.drewN K) fun e w' => e = .returned v ∧ ∃ m, w' = (w.drewN K).drewN m) : Calls P f args (w.drewN (m + n)) fun e w'' => e = .returned v ∧ ∃ n, w'' = w.drewN (m + n) :=
  (h (m + n)).mono fun _ _ ⟨he, k, hk⟩ => ⟨he, n + k, by rw [hk, World.drewN_drewN, Nat.add_assoc]⟩
/-- The call returned a table of its own, which reads as rows; nothing that was there has turned. -/
def RetII (t2 t : TypeId) (w : World) (e : Ending) (w' : World) (rows : List (List Int)) : Prop :=
  ∃ A n c, e = .returned (.slice A n c) ∧ OwnII w' t2 t w.heap.size w'.heap.size A n c rows ∧ Below w.heap.size w w'
/-- 'wpList_push', the size of the memory in the walk's own spelling. -/
theorem wpList_pushZ {P : Program} {w0 : World} {ops : Array Oper} {rest : List Oper} {o : Oper} {a : Act} {Q : Exit → Act → World → Prop} (hgd : o.guard = none) (s x : Operand) (t : TypeId)
    (ho : o.op = .call { callee := .builtin .append, args := #[s, x], argTypes := #[t, t] })
    (base : Nat) (e : TypeId) (i : TypeInfo) (z : Value) (bytes : Nat) (ht : P.underlying t = some (.slice e)) (hi : P.info? e = some i) (hz : i.zero = some z)
    (hsize : i.size = 1) (hby : i.bytes = bytes) (hzs : z.cells.size = 1) (hb64 : bytes ≤ 1000) (u : Value) (e' : TypeId)
    (A : Option Addr) (n c : Nat) (xs : List Value) (hs : a.eval s = .slice A n c) (hown : w0.ownsRow base e 1 (.slice A n c) n xs)
    (Z : Nat) (hZ : Z = w0.heap.size)
    (hx : a.eval x = .slice (some ⟨Z, 0, none⟩) 1 1) (hu : u.oneCell' = true) (hn : n ≤ 1000000000) (hbase : base ≤ w0.heap.size)
    (h : ∀ g cap w', w'.ownsRow base e 1 (.slice (some ⟨g, 0, none⟩) (n + 1) cap) (n + 1) (xs ++ [u]) → w0.grownBy w' (Value.ownBlock (.slice A n c)) → (Value.ownBlock (.slice A n c) = some g ∨ w0.heap.size < g) → g < w'.heap.size →
      wpList P ops Q rest (a.put o.dst (.slice (some ⟨g, 0, none⟩) (n + 1) cap)) w') : wpList P ops Q (o :: rest) a (w0.alloc (.cells #[u] e')) := by
  subst hZ
  exact wpList_push hgd s x t ho base e i z bytes ht hi hz hsize hby hzs hb64 u e' A n c xs hs hown hx hu hn hbase h
theorem ownV_of1 {w : World} {t : TypeId} {lo : Nat} {A : Option Addr} {n c : Nat} {vs : List Value} (h : w.ownsRow lo t 1 (.slice A n c) n vs) : OwnV w t lo w.heap.size A n c vs := by
  obtain ⟨A1, c1, hv, ho⟩ := ownV_of h
  injection hv with e1 e2 e3
  subst e1 e3
  exact ho
theorem calls_bel_eq {e0 : Value} {P : Program} {f : FuncId} {args : Array Value} {w : World} (h : Calls P f args w fun e w' => e = .returned e0 ∧ w = w') : Calls P f args w fun e w' => e = .returned e0 ∧ Below w.heap.size w w' :=
  h.mono fun _ _ ⟨he, hw⟩ => ⟨he, by subst hw; exact Below.refl _ _⟩
theorem calls_bel_drewN {e0 : Value} {P : Program} {f : FuncId} {args : Array Value} {w : World} (h : Calls P f args w fun e w' => e = .returned e0 ∧ ∃ m, w' = w.drewN m) : Calls P f args w fun e w' => e = .returned e0 ∧ Below w.heap.size w w' :=
  h.mono fun _ _ ⟨he, m, hw⟩ => ⟨he, (Same.of_drewN ⟨m, hw⟩).bel _⟩
theorem ownVV_lit0 {w : World} (t2 t : TypeId) {lo : Nat} (h : lo ≤ w.heap.size) : OwnVV (w.alloc (.cells #[] t2)) t2 t lo (w.alloc (.cells #[] t2)).heap.size (some ⟨w.heap.size, 0, none⟩) 0 0 [] :=
  ⟨[], ownV_blk (vs := []) (Blk.new _ _ _) h (by simp) rfl (by simp), rfl, fun j d vs hd => by simp at hd, fun i j di dj a b _ hd => by simp at hd, fun j d a b hd => by simp at hd⟩
theorem retII_nil (t2 t : TypeId) {w w' : World} (hb : Below w.heap.size w w') : RetII t2 t w (.returned (.slice none 0 0)) w' [] :=
  ⟨none, 0, 0, rfl, ⟨[], OwnV.nil_ _ _ _ _, rfl, fun j d vs hd => by simp at hd, fun i j di dj a b _ hd => by simp at hd, fun j d a b hd => by simp at hd⟩, hb⟩
end Go.Proofs.Ytnebmfdjcikegaa
