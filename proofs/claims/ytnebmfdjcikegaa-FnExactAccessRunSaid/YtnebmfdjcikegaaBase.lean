/-
  WORDS FOR MEMORY of this seat: a slice that reads as a list, a block known whole; no program in sight.
-/
import Derived.WalkKit
import Derived.WalkLawsBesides
import Derived.WalkSpells
import Derived.Deep.OwnRows
import Derived.Laws.OwnMore
import Derived.Deep.AppendLies
import Derived.Deep.Draws
import Derived.Maps.AppendAt
namespace Go.Proofs.Ytnebmfdjcikegaa
open Go.RowKit
set_option linter.unusedVariables false

theorem hid {p : Prop} (h : p) : Hid p := h

/-- The slice whose address is A and whose length is that of vs reads as the one-cell values vs, and lies below block B. -/
def RV (w : World) (B : Nat) (A : Option Addr) (n : Nat) (vs : List Value) : Prop :=
  vs.length = n ∧ (0 < n → ∃ b o, A = some ⟨b, o, none⟩ ∧ b < B ∧ ∀ j u, vs[j]? = some u → w.cell? ⟨b, o + j, none⟩ = some u)
/-- A slice of ints. -/
def RI (w : World) (B : Nat) (A : Option Addr) (n : Nat) (xs : List Int) : Prop := RV w B A n (xs.map (Value.int .i64))
/-- A slice of bytes. -/
def RB (w : World) (B : Nat) (A : Option Addr) (n : Nat) (xs : List Int) : Prop := RV w B A n (xs.map (Value.int .u8))
/-- A slice of bools. -/
def RT (w : World) (B : Nat) (A : Option Addr) (n : Nat) (xs : List Bool) : Prop := RV w B A n (xs.map Value.bool)

section
variable {w w' : World} {B B' n : Nat} {A : Option Addr} {vs : List Value} {xs : List Int} {bs : List Bool}
theorem RV.none_ : RV w B A 0 [] := ⟨rfl, fun h => absurd h (by omega)⟩
theorem RV.len (h : RV w B A n vs) : vs.length = n := h.1
theorem RI.len (h : RI w B A n xs) : xs.length = n := by simpa using h.1
theorem RB.len (h : RB w B A n xs) : xs.length = n := by simpa using h.1
theorem RT.len (h : RT w B A n bs) : bs.length = n := by simpa using h.1
theorem RV.at_ {k : Nat} (h : RV w B A n vs) (hk : k < n) : ∃ b o u, A = some ⟨b, o, none⟩ ∧ b < B ∧ vs[k]? = some u ∧ w.cell? ⟨b, o + k, none⟩ = some u := by
  obtain ⟨b, o, e, hb, hc⟩ := h.2 (by omega)
  have hl : k < vs.length := by have := h.1; omega
  exact ⟨b, o, vs[k], e, hb, List.getElem?_eq_getElem hl, hc k _ (List.getElem?_eq_getElem hl)⟩
theorem RI.at_ {k : Nat} (h : RI w B A n xs) (hk : k < n) : ∃ b o x, A = some ⟨b, o, none⟩ ∧ b < B ∧ xs[k]? = some x ∧ w.cell? ⟨b, o + k, none⟩ = some (.int .i64 x) := by
  obtain ⟨b, o, u, e, hb, hu, hc⟩ := RV.at_ h hk
  rw [List.getElem?_map] at hu
  cases hx : xs[k]? with
  | none => rw [hx] at hu; simp at hu
  | some x => rw [hx] at hu; simp at hu; subst hu; exact ⟨b, o, x, e, hb, rfl, hc⟩
theorem RB.at_ {k : Nat} (h : RB w B A n xs) (hk : k < n) : ∃ b o x, A = some ⟨b, o, none⟩ ∧ b < B ∧ xs[k]? = some x ∧ w.cell? ⟨b, o + k, none⟩ = some (.int .u8 x) := by
  obtain ⟨b, o, u, e, hb, hu, hc⟩ := RV.at_ h hk
  rw [List.getElem?_map] at hu
  cases hx : xs[k]? with
  | none => rw [hx] at hu; simp at hu
  | some x => rw [hx] at hu; simp at hu; subst hu; exact ⟨b, o, x, e, hb, rfl, hc⟩
theorem RT.at_ {k : Nat} (h : RT w B A n bs) (hk : k < n) : ∃ b o x, A = some ⟨b, o, none⟩ ∧ b < B ∧ bs[k]? = some x ∧ w.cell? ⟨b, o + k, none⟩ = some (.bool x) := by
  obtain ⟨b, o, u, e, hb, hu, hc⟩ := RV.at_ h hk
  rw [List.getElem?_map] at hu
  cases hx : bs[k]? with
  | none => rw [hx] at hu; simp at hu
  | some x => rw [hx] at hu; simp at hu; subst hu; exact ⟨b, o, x, e, hb, rfl, hc⟩
theorem RV.keep (h : RV w B A n vs) (hk : ∀ p : Addr, p.block < B → w'.cell? p = w.cell? p) : RV w' B A n vs :=
  ⟨h.1, fun hn => by
    obtain ⟨b, o, e, hb, hc⟩ := h.2 hn
    exact ⟨b, o, e, hb, fun j u hu => (hk _ hb).trans (hc j u hu)⟩⟩
theorem RV.more (h : RV w B A n vs) (hB : B ≤ B') : RV w B' A n vs :=
  ⟨h.1, fun hn => by
    obtain ⟨b, o, e, hb, hc⟩ := h.2 hn
    exact ⟨b, o, e, by omega, hc⟩⟩
theorem RV.below (h : RV w B A n vs) (hb : Below B w w') : RV w' B A n vs := h.keep fun _ hp => hb.cell hp
theorem RV.alloc (h : RV w B A n vs) (hB : B ≤ w.heap.size) (o : Obj) : RV (w.alloc o) B A n vs := h.keep fun p hp => World.cell?_alloc_lt w o p (by omega)
theorem RV.setCell (h : RV w B A n vs) {p : Addr} (hB : B ≤ p.block) (u : Value) : RV (w.setCell p u) B A n vs :=
  h.keep fun q hq => World.cell?_setCell_other w p q u (fun e => by subst e; omega)
theorem RV.grown (h : RV w B A n vs) {row : Option Nat} (hg : w.grownBy w' row) (hB : B ≤ w.heap.size) (hr : ∀ g, row = some g → B ≤ g) : RV w' B A n vs :=
  h.keep fun p hp => World.cell?_of_block (hg.block p.block (by omega) (fun e => by have := hr _ e.symm; omega))
theorem RV.of_own {base : Nat} {e : TypeId} {c : Nat} (h : w.ownsRow base e 1 (.slice A n c) n vs) : RV w w.heap.size A n vs := by
  refine ⟨by simpa using h.1, fun hn => ?_⟩
  obtain ⟨g, cap, hv, _, hlt⟩ := h.form hn
  have hA : A = some ⟨g, 0, none⟩ := by injection hv
  subst hA
  refine ⟨g, 0, rfl, hlt, fun j u hu => ?_⟩
  have := h.cells (g := g) rfl j u hu
  unfold Addr.add at this
  split at this <;> simp_all
end

/-- Block g is just the cells cs of element type t, none frozen. -/
def Blk (w : World) (g : Nat) (t : TypeId) (cs : Array Value) : Prop := w.heap[g]? = some (.cells cs t (0, 0))
section
variable {w w' : World} {g : Nat} {t : TypeId} {cs : Array Value}
theorem Blk.lt (h : Blk w g t cs) : g < w.heap.size := by
  rcases Nat.lt_or_ge g w.heap.size with hlt | hge
  · exact hlt
  · unfold Blk at h; rw [Array.getElem?_eq_none hge] at h; cases h
theorem Blk.cell (h : Blk w g t cs) (i : Nat) : w.cell? ⟨g, i, none⟩ = cs[i]? := cell_of_row w g i cs t (0, 0) h
theorem Blk.frozen (h : Blk w g t cs) (i : Nat) : w.frozen? ⟨g, i, none⟩ = false := by
  unfold Blk at h
  simp [World.frozen?, h]
theorem Blk.new (w : World) (t : TypeId) (cs : Array Value) : Blk (w.alloc (.cells cs t)) w.heap.size t cs := heap_alloc_new w _
theorem Blk.drew (h : Blk w g t cs) : Blk w.drew g t cs := h
theorem Blk.drewN (h : Blk w g t cs) (n : Nat) : Blk (w.drewN n) g t cs := h
theorem Blk.alloc (h : Blk w g t cs) (o : Obj) : Blk (w.alloc o) g t cs := (Below.heap_alloc w o g h.lt).trans h
theorem Blk.set_ (h : Blk w g t cs) (i : Nat) (u : Value) : Blk (w.setCell ⟨g, i, none⟩ u) g t (cs.setIfInBounds i u) := by
  unfold Blk at h ⊢
  simp [World.setCell, Array.getElem?_modify, h]
theorem Blk.far (h : Blk w g t cs) {p : Addr} (hp : g ≠ p.block) (u : Value) : Blk (w.setCell p u) g t cs := (Below.heap_setCell w p u g hp).trans h
theorem Blk.below {B : Nat} (h : Blk w g t cs) (hb : Below B w w') (hg : g < B) : Blk w' g t cs := (hb.block g hg).trans h
theorem Blk.grown {row : Option Nat} (h : Blk w g t cs) (hb : w.grownBy w' row) (hg : some g ≠ row) : Blk w' g t cs := (hb.block g h.lt hg).trans h
end

section
variable {w : World} {g n : Nat} {t : TypeId} {α : Type} {f : α → Value} {ys : List α}
theorem Blk.setL (h : Blk w g t (ys.map f).toArray) (k : Nat) (x : α) : Blk (w.setCell ⟨g, k, none⟩ (f x)) g t ((ys.set k x).map f).toArray := by
  have := h.set_ k (f x)
  simpa [List.map_set] using this
theorem Blk.cellL (h : Blk w g t (ys.map f).toArray) {k : Nat} (hk : k < ys.length) : ∃ y, ys[k]? = some y ∧ w.cell? ⟨g, k, none⟩ = some (f y) := by
  refine ⟨ys[k], List.getElem?_eq_getElem hk, ?_⟩
  rw [h.cell]
  simp [hk]
theorem Blk.own {vs : List Value} (h : Blk w g t vs.toArray) {base : Nat} (hb : base ≤ g) (hn : vs.length = n) (hm : n ≤ maxLen) :
    w.ownsRow base t 1 (.slice (some ⟨g, 0, none⟩) n n) n vs :=
  ⟨by omega, .inr ⟨g, n, vs.toArray, rfl, hb, h, Nat.le_refl _, hm, by simpa using hn, List.take_of_length_le (by simp [hn])⟩⟩
theorem Blk.rv {vs : List Value} (h : Blk w g t vs.toArray) (hn : vs.length = n) : RV w w.heap.size (some ⟨g, 0, none⟩) n vs :=
  ⟨hn, fun _ => ⟨g, 0, rfl, h.lt, fun j u hu => by rw [Nat.zero_add, h.cell]; simpa using hu⟩⟩
/-- A slice that the call owns is nil, or it lies at the head of a block that is known whole. -/
theorem own_blk {base : Nat} {A : Option Addr} {c : Nat} {vs : List Value} (h : w.ownsRow base t 1 (.slice A n c) n vs) (hn : 0 < n) :
    ∃ g cs, A = some ⟨g, 0, none⟩ ∧ base ≤ g ∧ Blk w g t cs ∧ n ≤ c ∧ c ≤ maxLen ∧ cs.size = c ∧ cs.toList.take n = vs := by
  rcases h.2 with ⟨hv, _⟩ | ⟨g, cap, cur, hv, hb, hg, hnc, hcm, hcs, htake⟩
  · injection hv with _ h1 h2; omega
  · injection hv with h1 _ h2
    subst h1 h2
    exact ⟨g, cur, rfl, hb, hg, hnc, hcm, by simpa using hcs, by simpa using htake⟩
end

/-- The slice is nil and empty, or it lies at the head of a block between lo and hi, known whole, of element type t; its n elements are vs. -/
def OwnV (w : World) (t : TypeId) (lo hi : Nat) (A : Option Addr) (n c : Nat) (vs : List Value) : Prop :=
  vs.length = n ∧ n ≤ c ∧ c ≤ maxLen ∧
  ((A = none ∧ n = 0 ∧ c = 0) ∨ ∃ g cs, A = some ⟨g, 0, none⟩ ∧ lo ≤ g ∧ g < hi ∧ g < w.heap.size ∧ Blk w g t cs ∧ cs.size = c ∧ cs.toList.take n = vs)
def OwnI (w : World) (t : TypeId) (lo hi : Nat) (A : Option Addr) (n c : Nat) (xs : List Int) : Prop := OwnV w t lo hi A n c (xs.map (Value.int .i64))
def OwnT (w : World) (t : TypeId) (lo hi : Nat) (A : Option Addr) (n c : Nat) (xs : List Bool) : Prop := OwnV w t lo hi A n c (xs.map Value.bool)

/-- w' is w, but for new blocks and writes to blocks between lo and hi. -/
structure Only (lo hi : Nat) (w w' : World) : Prop where
  os : w'.os = w.os
  tape : w'.tape = w.tape
  output : w'.output = w.output
  size : w.heap.size ≤ w'.heap.size
  block : ∀ k, k < w.heap.size → ¬ (lo ≤ k ∧ k < hi) → w'.heap[k]? = w.heap[k]?

section
variable {w w' w'' : World} {t : TypeId} {lo hi lo' hi' B n c : Nat} {A : Option Addr} {vs : List Value}
theorem Only.refl (lo hi : Nat) (w : World) : Only lo hi w w := ⟨rfl, rfl, rfl, Nat.le_refl _, fun _ _ _ => rfl⟩
theorem Only.trans (h : Only lo hi w w') (k : Only lo hi w' w'') : Only lo hi w w'' :=
  ⟨k.os.trans h.os, k.tape.trans h.tape, k.output.trans h.output, Nat.le_trans h.size k.size, fun i hi hn => (k.block i (Nat.lt_of_lt_of_le hi h.size) hn).trans (h.block i hi hn)⟩
theorem Only.below (h : Only lo hi w w') (hB : B ≤ lo) (hs : B ≤ w.heap.size) : Below B w w' := ⟨h.os, h.tape, h.output, h.size, fun k hk => h.block k (by omega) (by omega)⟩
theorem Only.setCell (h : Only lo hi w w') {p : Addr} (h1 : lo ≤ p.block) (h2 : p.block < hi) (u : Value) : Only lo hi w (w'.setCell p u) :=
  h.trans ⟨rfl, rfl, rfl, by simp [World.setCell], fun k _ hn => Below.heap_setCell _ _ _ _ (by rintro rfl; exact hn ⟨h1, h2⟩)⟩
theorem Only.drewN (h : Only lo hi w w') (m : Nat) : Only lo hi w (w'.drewN m) := ⟨h.os, h.tape, h.output, h.size, h.block⟩
theorem Only.drew (h : Only lo hi w w') : Only lo hi w w'.drew := ⟨h.os, h.tape, h.output, h.size, h.block⟩
theorem Only.alloc (h : Only lo hi w w') (o : Obj) : Only lo hi w (w'.alloc o) :=
  h.trans ⟨rfl, rfl, rfl, by simp, fun k hk _ => Below.heap_alloc _ _ _ hk⟩
theorem Only.grown (h : Only lo hi w w') {row : Option Nat} (hg : w'.grownBy w'' row) (hr : ∀ k, row = some k → w.heap.size ≤ k) : Only lo hi w w'' :=
  ⟨hg.os.trans h.os, hg.tape.trans h.tape, hg.output.trans h.output, Nat.le_trans h.size hg.size, fun k hk hn => (hg.block k (Nat.lt_of_lt_of_le hk h.size) (fun e => by have := hr k e.symm; omega)).trans (h.block k hk hn)⟩
theorem Only.setNew (h : Only lo hi w w') {p : Addr} (hp : w.heap.size ≤ p.block) (u : Value) : Only lo hi w (w'.setCell p u) :=
  ⟨h.os, h.tape, h.output, by simpa [World.setCell] using h.size, fun k hk hn => (Below.heap_setCell _ _ _ _ (by omega)).trans (h.block k hk hn)⟩
theorem Only.step {B : Nat} (h : Only lo hi w w') (k : Below B w' w'') (hB : w.heap.size ≤ B) : Only lo hi w w'' :=
  ⟨k.os.trans h.os, k.tape.trans h.tape, k.output.trans h.output, Nat.le_trans h.size k.size, fun i hi hn => (k.block i (by omega)).trans (h.block i hi hn)⟩
theorem Below.only (h : Below w.heap.size w w') : Only lo hi w w' := ⟨h.os, h.tape, h.output, h.size, fun k hk _ => h.block k hk⟩
theorem Below.join {B' : Nat} (h : Below B w w') (k : Below B' w' w'') (hB : B ≤ B') : Below B w w'' := h.trans (k.mono hB)
theorem OwnV.len (h : OwnV w t lo hi A n c vs) : vs.length = n := h.1
theorem OwnV.cap (h : OwnV w t lo hi A n c vs) : n ≤ c := h.2.1
theorem OwnV.keep (h : OwnV w t lo hi A n c vs) (hz : w.heap.size ≤ w'.heap.size) (hk : ∀ k, lo ≤ k → k < hi → k < w.heap.size → w'.heap[k]? = w.heap[k]?) : OwnV w' t lo hi A n c vs := by
  obtain ⟨h1, h2, h3, h4⟩ := h
  refine ⟨h1, h2, h3, ?_⟩
  rcases h4 with h4 | ⟨g, cs, e, a, b, d, hb, r⟩
  · exact .inl h4
  · exact .inr ⟨g, cs, e, a, b, by omega, (hk g a b d).trans hb, r⟩
theorem OwnV.below (h : OwnV w t lo hi A n c vs) (hb : Below B w w') (hB : hi ≤ B) : OwnV w' t lo hi A n c vs := h.keep hb.size fun k _ h2 _ => hb.block k (by omega)
theorem OwnV.only (h : OwnV w t lo hi A n c vs) (hb : Only lo' hi' w w') (hB : hi ≤ lo' ∨ hi' ≤ lo) : OwnV w' t lo hi A n c vs := h.keep hb.size fun k h1 h2 h3 => hb.block k h3 (by omega)
theorem OwnV.alloc (h : OwnV w t lo hi A n c vs) (o : Obj) : OwnV (w.alloc o) t lo hi A n c vs := h.keep (by simp) fun k _ _ h3 => Below.heap_alloc w o k h3
theorem OwnV.more (h : OwnV w t lo hi A n c vs) (h1 : lo' ≤ lo) (h2 : hi ≤ hi') : OwnV w t lo' hi' A n c vs := by
  obtain ⟨a1, a2, a3, h4⟩ := h
  refine ⟨a1, a2, a3, ?_⟩
  rcases h4 with h4 | ⟨g, cs, e, a, b, d, r⟩
  · exact .inl h4
  · exact .inr ⟨g, cs, e, by omega, by omega, d, r⟩
theorem OwnV.rv (h : OwnV w t lo hi A n c vs) : RV w hi A n vs := by
  obtain ⟨h1, h2, h3, h4⟩ := h
  refine ⟨h1, fun hn => ?_⟩
  rcases h4 with ⟨_, h4, _⟩ | ⟨g, cs, e, a, b, d, hb, hc, ht⟩
  · omega
  · refine ⟨g, 0, e, b, fun j u hu => ?_⟩
    rw [Nat.zero_add, hb.cell]
    rw [← ht, List.getElem?_take] at hu
    split at hu
    · simpa using hu
    · cases hu
theorem OwnV.own (h : OwnV w t lo hi A n c vs) : w.ownsRow lo t 1 (.slice A n c) n vs := by
  obtain ⟨h1, h2, h3, h4⟩ := h
  refine ⟨by omega, ?_⟩
  rcases h4 with ⟨rfl, rfl, rfl⟩ | ⟨g, cs, rfl, a, b, d, hb, hc, ht⟩
  · exact .inl ⟨rfl, rfl⟩
  · exact .inr ⟨g, c, cs, rfl, a, hb, h2, h3, by omega, by simpa using ht⟩
theorem ownV_of {v : Value} (h : w.ownsRow lo t 1 v n vs) : ∃ A c, v = .slice A n c ∧ OwnV w t lo w.heap.size A n c vs := by
  obtain ⟨h1, h2⟩ := h
  rcases h2 with ⟨rfl, rfl⟩ | ⟨g, cap, cur, rfl, hb, hg, hnc, hcm, hcs, htake⟩
  · exact ⟨none, 0, rfl, by simpa using h1, Nat.le_refl _, by simp, .inl ⟨rfl, rfl, rfl⟩⟩
  · have hl : g < w.heap.size := (Array.getElem?_eq_some_iff.1 hg).1
    exact ⟨_, cap, rfl, by omega, hnc, hcm, .inr ⟨g, cur, rfl, hb, hl, hl, hg, by omega, by simpa using htake⟩⟩
theorem ownV_blk {g : Nat} (h : Blk w g t vs.toArray) (h1 : lo ≤ g) (h2 : g < hi) (hn : vs.length = n) (hm : n ≤ maxLen) : OwnV w t lo hi (some ⟨g, 0, none⟩) n n vs :=
  ⟨hn, Nat.le_refl _, hm, .inr ⟨g, _, rfl, h1, h2, h.lt, h, by simpa using hn, List.take_of_length_le (by simp [hn])⟩⟩
/-- Its block, its cells, where it has an element: for a store. -/
theorem OwnV.blk (h : OwnV w t lo hi A n c vs) (hn : 0 < n) : ∃ g cs, A = some ⟨g, 0, none⟩ ∧ lo ≤ g ∧ g < hi ∧ Blk w g t cs ∧ cs.size = c ∧ n ≤ c ∧ c ≤ maxLen ∧ cs.toList.take n = vs := by
  obtain ⟨h1, h2, h3, h4⟩ := h
  rcases h4 with ⟨_, h4, _⟩ | ⟨g, cs, e, a, b, d, hb, hc, ht⟩
  · omega
  · exact ⟨g, cs, e, a, b, hb, hc, h2, h3, ht⟩
theorem OwnV.stored (h : OwnV w t lo hi A n c vs) {k : Nat} (hk : k < n) (u : Value) : ∃ g, A = some ⟨g, 0, none⟩ ∧ lo ≤ g ∧ g < hi ∧ g < w.heap.size ∧ w.cell? ⟨g, k, none⟩ = vs[k]? ∧ w.frozen? ⟨g, k, none⟩ = false ∧
    OwnV (w.setCell ⟨g, k, none⟩ u) t lo hi A n c (vs.set k u) := by
  obtain ⟨g, cs, rfl, a, b, hb, hc, h2, h3, ht⟩ := h.blk (by omega)
  refine ⟨g, rfl, a, b, hb.lt, ?_, hb.frozen k, ?_⟩
  · rw [hb.cell, ← ht, List.getElem?_take, if_pos hk]; simp
  · have hs := hb.set_ k u
    refine ⟨by simpa using h.1, h2, h3, .inr ⟨g, _, rfl, a, b, hs.lt, hs, by simpa using hc, ?_⟩⟩
    rw [Array.toList_setIfInBounds, ← ht, List.take_set]
end
section
variable {w : World} {t : TypeId} {lo hi n c : Nat} {A : Option Addr} {xs : List Int} {bs : List Bool}
theorem OwnI.len (h : OwnI w t lo hi A n c xs) : xs.length = n := by simpa using h.1
theorem OwnT.len (h : OwnT w t lo hi A n c bs) : bs.length = n := by simpa using h.1
theorem OwnI.ri (h : OwnI w t lo hi A n c xs) : RI w hi A n xs := OwnV.rv h
theorem OwnT.rt (h : OwnT w t lo hi A n c bs) : RT w hi A n bs := OwnV.rv h
theorem OwnI.stored (h : OwnI w t lo hi A n c xs) {k : Nat} (hk : k < n) (x : Int) : ∃ g y, A = some ⟨g, 0, none⟩ ∧ lo ≤ g ∧ g < hi ∧ g < w.heap.size ∧ xs[k]? = some y ∧ w.cell? ⟨g, k, none⟩ = some (.int .i64 y) ∧ w.frozen? ⟨g, k, none⟩ = false ∧
    OwnI (w.setCell ⟨g, k, none⟩ (.int .i64 x)) t lo hi A n c (xs.set k x) := by
  obtain ⟨g, e, a, b, d, hc, hf, ho⟩ := OwnV.stored h hk (.int .i64 x)
  have hl := OwnI.len h
  refine ⟨g, xs[k]'(by omega), e, a, b, d, List.getElem?_eq_getElem (by omega), ?_, hf, ?_⟩
  · rw [hc, List.getElem?_map, List.getElem?_eq_getElem (by omega)]; rfl
  · unfold OwnI; rw [List.map_set]; exact ho
theorem OwnT.stored (h : OwnT w t lo hi A n c bs) {k : Nat} (hk : k < n) (x : Bool) : ∃ g y, A = some ⟨g, 0, none⟩ ∧ lo ≤ g ∧ g < hi ∧ g < w.heap.size ∧ bs[k]? = some y ∧ w.cell? ⟨g, k, none⟩ = some (.bool y) ∧ w.frozen? ⟨g, k, none⟩ = false ∧
    OwnT (w.setCell ⟨g, k, none⟩ (.bool x)) t lo hi A n c (bs.set k x) := by
  obtain ⟨g, e, a, b, d, hc, hf, ho⟩ := OwnV.stored h hk (.bool x)
  have hl := OwnT.len h
  refine ⟨g, bs[k]'(by omega), e, a, b, d, List.getElem?_eq_getElem (by omega), ?_, hf, ?_⟩
  · rw [hc, List.getElem?_map, List.getElem?_eq_getElem (by omega)]; rfl
  · unfold OwnT; rw [List.map_set]; exact ho
end

/-- The call returned a slice of its own, which reads as xs; nothing that was there has turned. -/
def RetI (t : TypeId) (w : World) (e : Ending) (w' : World) (xs : List Int) : Prop :=
  ∃ A n c, e = .returned (.slice A n c) ∧ OwnI w' t w.heap.size w'.heap.size A n c xs ∧ Below w.heap.size w w'
theorem retI_of {t : TypeId} {w w' : World} {v : Value} {n : Nat} {xs : List Int} (h : w'.ownsRow w.heap.size t 1 v n (xs.map (Value.int .i64))) (hb : Below w.heap.size w w') : RetI t w (.returned v) w' xs := by
  obtain ⟨A, c, rfl, ho⟩ := ownV_of h
  exact ⟨A, n, c, rfl, ho, hb⟩

theorem blk_made {α : Type} {f : α → Value} (w : World) (t : TypeId) (n : Nat) (x : α) {z : Value} (hz : f x = z) :
    Blk (w.alloc (.cells (madeCells #[z] n) t)) w.heap.size t ((List.replicate n x).map f).toArray := by
  have h := Blk.new w t (madeCells #[z] n)
  have e : (madeCells #[z] n) = ((List.replicate n x).map f).toArray := by
    apply Array.toList_inj.1
    rw [toList_madeCells_one]
    simp [hz]
  rw [e] at h
  rw [e]
  exact h
theorem take_snoc {α : Type} (l : List α) (k : Nat) (x : α) (h : l[k]? = some x) : l.take (k + 1) = l.take k ++ [x] := by
  rw [List.take_add_one, h]; rfl
theorem take_set_snoc {α : Type} (l : List α) (k : Nat) (x : α) (h : k < l.length) : (l.set k x).take (k + 1) = l.take k ++ [x] := by
  rw [take_snoc _ k x (by simp [h]), List.take_set_of_le (Nat.le_refl _)]

/-- Of a world that w' is w, but for new blocks, and writes to 'row'. 'Below' out of it. -/
theorem below_of_grown {w w' : World} {row : Option Nat} {B : Nat} (hg : w.grownBy w' row) (hB : B ≤ w.heap.size) (hr : ∀ k, row = some k → B ≤ k) : Below B w w' :=
  (Below.refl B w).grown hg hB hr
theorem grown_of_below {w w' : World} (hb : Below w.heap.size w w') (row : Option Nat) : w.grownBy w' row :=
  ⟨hb.os, hb.tape, hb.output, hb.size, fun k hk _ => hb.block k hk⟩
section
variable {P : Program}
/-- 'append(out, u)', out a slice of the call's own: the walk's world is the one behind the new cell that the translation lays for u. -/
theorem wpList_push {w0 : World} {ops : Array Oper} {rest : List Oper} {o : Oper} {a : Act} {Q : Exit → Act → World → Prop} (hgd : o.guard = none) (s x : Operand) (t : TypeId)
    (ho : o.op = .call { callee := .builtin .append, args := #[s, x], argTypes := #[t, t] })
    (base : Nat) (e : TypeId) (i : TypeInfo) (z : Value) (bytes : Nat) (ht : P.underlying t = some (.slice e)) (hi : P.info? e = some i) (hz : i.zero = some z)
    (hsize : i.size = 1) (hby : i.bytes = bytes) (hzs : z.cells.size = 1) (hb64 : bytes ≤ 1000) (u : Value) (e' : TypeId)
    (A : Option Addr) (n c : Nat) (xs : List Value) (hs : a.eval s = .slice A n c) (hown : w0.ownsRow base e 1 (.slice A n c) n xs)
    (hx : a.eval x = .slice (some ⟨w0.heap.size, 0, none⟩) 1 1) (hu : u.oneCell' = true) (hn : n ≤ 1000000000) (hbase : base ≤ w0.heap.size)
    (h : ∀ g cap w', w'.ownsRow base e 1 (.slice (some ⟨g, 0, none⟩) (n + 1) cap) (n + 1) (xs ++ [u]) → w0.grownBy w' (Value.ownBlock (.slice A n c)) → (Value.ownBlock (.slice A n c) = some g ∨ w0.heap.size < g) → g < w'.heap.size →
      wpList P ops Q rest (a.put o.dst (.slice (some ⟨g, 0, none⟩) (n + 1) cap)) w') : wpList P ops Q (o :: rest) a (w0.alloc (.cells #[u] e')) := by
  refine wpList_append_lies (w0.alloc (.cells #[u] e')) hgd s x t ho base e i z 1 bytes ht hi hz hsize hby hzs (by omega) (.slice A n c) n xs hs (hown.alloc _) ⟨w0.heap.size, 0, none⟩ 1 1 [u] hx rfl (cell_one_new _ _ _)
    (fun u' hu' => by rw [List.mem_singleton] at hu'; subst hu'; exact hu) (by omega) (by unfold maxLen; omega) ?_ (by simp; omega) (w0.heap.size + 1) (by simp) ?_
  · have := Nat.mul_le_mul (show n + 1 ≤ 1000000001 by omega) hb64
    omega
  · intro g cap w' h1 h2 h3 h4
    exact h g cap w' h1 ((World.grownBy_alloc _ _ _).trans h2) (by rcases h3 with h3 | h3 <;> first | exact .inl h3 | exact .inr (by omega)) h4
/-- The same as a step of a region that draws its order, in whatever world: u lies alone in block g0. -/
theorem step_push {w : World} {ops : Array Oper} {o : Oper} {a : Act} {K : Act → World → Prop} {Q : Exit → Act → World → Prop} {E : Prop} (hgd : o.guard = none) (s x : Operand) (t : TypeId)
    (ho : o.op = .call { callee := .builtin .append, args := #[s, x], argTypes := #[t, t] })
    (base : Nat) (e : TypeId) (i : TypeInfo) (z : Value) (bytes : Nat) (ht : P.underlying t = some (.slice e)) (hi : P.info? e = some i) (hz : i.zero = some z)
    (hsize : i.size = 1) (hby : i.bytes = bytes) (hzs : z.cells.size = 1) (hb64 : bytes ≤ 1000) (u : Value) (g0 : Nat)
    (A : Option Addr) (n c : Nat) (xs : List Value) (hs : a.eval s = .slice A n c) (hown : w.ownsRow base e 1 (.slice A n c) n xs)
    (hx : a.eval x = .slice (some ⟨g0, 0, none⟩) 1 1) (hcell : w.cell? ⟨g0, 0, none⟩ = some u) (hu : u.oneCell' = true) (hn : n ≤ 1000000000) (hbase : base ≤ w.heap.size)
    (h : ∀ g cap w', w'.ownsRow base e 1 (.slice (some ⟨g, 0, none⟩) (n + 1) cap) (n + 1) (xs ++ [u]) → w.grownBy w' (Value.ownBlock (.slice A n c)) → (Value.ownBlock (.slice A n c) = some g ∨ w.heap.size ≤ g) → g < w'.heap.size →
      K (a.put o.dst (.slice (some ⟨g, 0, none⟩) (n + 1) cap)) w') : if Region.wanted o (yielded ops a.tmps) = true then Oper.wp P o a w K Q else E := by
  refine step_append_lies w hgd s x t ho base e i z 1 bytes ht hi hz hsize hby hzs (by omega) (.slice A n c) n xs hs hown ⟨g0, 0, none⟩ 1 1 [u] hx rfl ?_
    (fun u' hu' => by rw [List.mem_singleton] at hu'; subst hu'; exact hu) (by omega) (by unfold maxLen; omega) ?_ hbase w.heap.size rfl ?_
  · intro j u' hu'
    match j, hu' with
    | 0, hu' => simp at hu'; subst hu'; simpa [Addr.add] using hcell
  · have := Nat.mul_le_mul (show n + 1 ≤ 1000000001 by omega) hb64
    omega
  · intro g cap w' h1 h2 h3 h4
    exact h g cap w' h1 h2 (by rcases h3 with h3 | h3 <;> first | exact .inl h3 | exact .inr (by omega)) h4
theorem run_append_nothing (w : World) (base : Nat) (t ty e : TypeId) (i : TypeInfo) (ht : P.underlying t = some (.slice e)) (hi : P.info? e = some i)
    (v : Value) (n : Nat) (xs : List Value) (hown : w.ownsRow base e 1 v n xs) (A : Option Addr) (hA : A = none) (c : Nat) : (Builtin.append_ #[t, t] ty #[v, .slice A 0 c]).run P w = .ok v w := by
  subst hA
  rcases hown.2 with ⟨rfl, rfl⟩ | ⟨g, cap, cur, rfl, _, _, hnc, _⟩
  · simp [Builtin.append_, run_underlying ht, sizeOf, typeInfo, hi, Builtin.lenOf, Builtin.firstCells]
  · simp [Builtin.append_, run_underlying ht, sizeOf, typeInfo, hi, Builtin.lenOf, Builtin.firstCells, hnc, storeCells]
/-- 'append(out, xs...)', out a slice of the call's own, xs any that can be read: nil, empty or not. -/
theorem run_append_all (w : World) (base : Nat) (t ty e : TypeId) (i : TypeInfo) (z : Value) (bytes : Nat) (ht : P.underlying t = some (.slice e)) (hi : P.info? e = some i) (hz : i.zero = some z)
    (hsize : i.size = 1) (hby : i.bytes = bytes) (hzs : z.cells.size = 1) (hb64 : bytes ≤ 1000)
    (v : Value) (n : Nat) (xs : List Value) (hown : w.ownsRow base e 1 v n xs) (B : Nat) (A : Option Addr) (m c : Nat) (news : List Value) (hr : RV w B A m news) (h1 : ∀ u ∈ news, u.oneCell' = true)
    (hn : n ≤ 1000000000) (hm : m ≤ 1000000000) (hbase : base ≤ w.heap.size) :
    ∃ v' w', (Builtin.append_ #[t, t] ty #[v, .slice A m c]).run P w = .ok v' w' ∧ w'.ownsRow base e 1 v' (n + m) (xs ++ news) ∧ w.grownBy w' v.ownBlock := by
  have hbytes : (n + m) * bytes ≤ 140737488355328 := by
    have := Nat.mul_le_mul (show n + m ≤ 2000000000 by omega) hb64
    omega
  rcases A with _ | ad
  · have hm : m = 0 := by
      rcases Nat.eq_zero_or_pos m with h0 | h0
      · exact h0
      · obtain ⟨b, o, h, _⟩ := hr.2 h0
        cases h
    subst hm
    have hnn : news = [] := List.eq_nil_of_length_eq_zero hr.1
    subst hnn
    exact ⟨v, w, run_append_nothing w base t ty e i ht hi v n xs hown none rfl c, by simpa using hown, World.grownBy.refl w _⟩
  · have hcells : ∀ j u, news[j]? = some u → w.cell? (ad.add j) = some u := by
      intro j u hu
      rcases Nat.eq_zero_or_pos m with h0 | h0
      · subst h0
        have hnn : news = [] := List.eq_nil_of_length_eq_zero hr.1
        subst hnn
        simp at hu
      · obtain ⟨b, o, h, _, hc⟩ := hr.2 h0
        injection h with h
        subst h
        have := hc j u hu
        unfold Addr.add
        split <;> simp_all
    obtain ⟨v', w', hrun, h2, h3, _⟩ := run_append_own (P := P) w base t ty e i z 1 bytes ht hi hz hsize hby hzs (by omega) v n xs hown ad m c news (by rw [hr.1, Nat.mul_one]) hcells h1 (by unfold maxLen; omega) hbytes hbase
    exact ⟨v', w', hrun, h2, h3⟩
theorem wpList_all {w : World} {ops : Array Oper} {rest : List Oper} {o : Oper} {a : Act} {Q : Exit → Act → World → Prop} (hgd : o.guard = none) (s x : Operand) (t : TypeId)
    (ho : o.op = .call { callee := .builtin .append, args := #[s, x], argTypes := #[t, t] })
    (base : Nat) (e : TypeId) (i : TypeInfo) (z : Value) (bytes : Nat) (ht : P.underlying t = some (.slice e)) (hi : P.info? e = some i) (hz : i.zero = some z)
    (hsize : i.size = 1) (hby : i.bytes = bytes) (hzs : z.cells.size = 1) (hb64 : bytes ≤ 1000)
    (A : Option Addr) (n c : Nat) (xs : List Value) (hs : a.eval s = .slice A n c) (hown : w.ownsRow base e 1 (.slice A n c) n xs)
    (B : Nat) (A1 : Option Addr) (m c1 : Nat) (news : List Value) (hx : a.eval x = .slice A1 m c1) (hr : RV w B A1 m news) (h1 : ∀ u ∈ news, u.oneCell' = true)
    (hn : n ≤ 1000000000) (hm : m ≤ 1000000000) (hbase : base ≤ w.heap.size)
    (h : ∀ A' c' w', w'.ownsRow base e 1 (.slice A' (n + m) c') (n + m) (xs ++ news) → w.grownBy w' (Value.ownBlock (.slice A n c)) → wpList P ops Q rest (a.put o.dst (.slice A' (n + m) c')) w') : wpList P ops Q (o :: rest) a w := by
  refine wpList_plain hgd fun K hK => ?_
  obtain ⟨v', w', hrun, h2, h3⟩ := run_append_all (P := P) w base t o.type e i z bytes ht hi hz hsize hby hzs hb64 _ n xs hown B A1 m c1 news hr h1 hn hm hbase
  have hv : ∃ A' c', v' = .slice A' (n + m) c' := by
    rcases h2.2 with ⟨rfl, h0⟩ | ⟨g, cap, cur, rfl, _⟩
    · exact ⟨none, 0, by rw [h0]⟩
    · exact ⟨_, cap, rfl⟩
  obtain ⟨A', c', rfl⟩ := hv
  unfold Oper.wp execOp
  simp only [ho, resolve, invoke, builtin, Sem.run_bind, Sem.run_pure, Result.andThen_ok, List.map_toArray, List.map_cons, List.map_nil, hs, hx, hrun]
  exact hK _ _ (h A' c' w' h2 h3)
/-- An operation of a region that draws, which its guard passes over. -/
theorem step_unwanted {w : World} {ops : Array Oper} {o : Oper} {a : Act} {K : Act → World → Prop} {Q : Exit → Act → World → Prop} (h : Region.wanted o (yielded ops a.tmps) = false) (hk : K (a.put o.dst undef) w) :
    if Region.wanted o (yielded ops a.tmps) = true then Oper.wp P o a w K Q else K (a.put o.dst undef) w := by
  rw [if_neg (by rw [h]; exact Bool.false_ne_true)]
  exact hk
theorem below_push {ws w0 w' : World} {B base : Nat} {t : TypeId} {v : Value} {n : Nat} {xs : List Value} (hb : Below B ws w0) (hown : w0.ownsRow base t 1 v n xs) (hB : B ≤ base) (hBw : B ≤ w0.heap.size) (hg : w0.grownBy w' v.ownBlock) : Below B ws w' :=
  hb.grown hg hBw fun k hk => by have := (hown.lt k hk).1; omega
/-- make([]T, 0, c) -/
theorem run_make0 (t e : TypeId) (z : Value) (bytes : Nat) (ht : P.underlying t = some (.slice e)) (hinfo : (P.info? e).map (fun i => (i.zero, i.size, i.bytes)) = some (some z, 1, bytes)) (hz1 : z.cells = #[z])
    (kl kc : IntKind) (c : Nat) (hbytes : bytes * c ≤ 281474976710656) (h63 : c ≤ 9223372036854775807) (w : World) :
    (Instr.makeSlice t (.int kl 0) (.int kc (c : Int))).run P w = .ok (.slice (some ⟨w.heap.size, 0, none⟩) 0 c) (w.alloc (.cells (madeCells #[z] c) e)) := by
  obtain ⟨i, hi, hzz⟩ := Option.map_eq_some_iff.1 hinfo
  simp only [Prod.mk.injEq] at hzz
  obtain ⟨hz, hs, hb⟩ := hzz
  have hb' : (i.bytes : Int) * (c : Int) ≤ 281474976710656 := by
    have h : ((i.bytes * c : Nat) : Int) ≤ 281474976710656 := by rw [hb]; omega
    rwa [Int.natCast_mul] at h
  have hr := run_make (P := P) w t e i z ht hi hz kl kc 0 c (by omega) (by omega) hb' (by omega)
  simp only [Int.toNat_natCast, hs, Nat.mul_one, hz1] at hr
  exact hr
theorem own_made0 {w : World} (t : TypeId) (z : Value) (c : Nat) {base : Nat} (hb : base ≤ w.heap.size) (hm : c ≤ maxLen) :
    (w.alloc (.cells (madeCells #[z] c) t)).ownsRow base t 1 (.slice (some ⟨w.heap.size, 0, none⟩) 0 c) 0 [] :=
  World.ownsRow_made w _ c hb hm (by simp [madeCells])
end
/-- '[]int{}' -/
theorem own_lit0 {w : World} (t : TypeId) {base : Nat} (hb : base ≤ w.heap.size) : (w.alloc (.cells #[] t)).ownsRow base t 1 (.slice (some ⟨w.heap.size, 0, none⟩) 0 0) 0 [] :=
  World.ownsRow_made w #[] 0 hb (Nat.zero_le _) rfl
theorem retI_lit0 (t : TypeId) (w : World) : RetI t w (.returned (.slice (some ⟨w.heap.size, 0, none⟩) 0 0)) (w.alloc (.cells #[] t)) [] :=
  retI_of (own_lit0 t (Nat.le_refl _)) ((Below.refl _ _).alloc (Nat.le_refl _) _)
theorem retI_nil (t : TypeId) (w : World) : RetI t w (.returned (.slice none 0 0)) w [] := retI_of (World.ownsRow_nil _ _ _ _) (Below.refl _ _)
theorem own_base {w : World} {base base' : Nat} {t : TypeId} {v : Value} {n : Nat} {xs : List Value} (h : w.ownsRow base t 1 v n xs) (hb : base' ≤ base) : w.ownsRow base' t 1 v n xs := by
  obtain ⟨h1, h2⟩ := h
  refine ⟨h1, ?_⟩
  rcases h2 with h2 | ⟨g, cap, cur, rfl, hg, r⟩
  · exact .inl h2
  · exact .inr ⟨g, cap, cur, rfl, by omega, r⟩
theorem cell_new0 (w : World) (u : Value) (t : TypeId) : (w.alloc (.cells #[u] t)).cell? ⟨w.heap.size, 0, none⟩ = some u := by
  exact (cell_one_new w u t 0 u rfl : _)
theorem grown_undrew {w w' : World} {r : Option Nat} (h : w.drew.grownBy w' r) : w.grownBy w' r := ⟨h.os, h.tape, h.output, h.size, h.block⟩
theorem grown_undrewN {w w' : World} {r : Option Nat} {m : Nat} (h : (w.drewN m).grownBy w' r) : w.grownBy w' r := ⟨h.os, h.tape, h.output, h.size, h.block⟩
theorem own_only {w w' : World} {lo hi base n : Nat} {t : TypeId} {v : Value} {xs : List Value} (h : w.ownsRow base t 1 v n xs) (ho : Only lo hi w w') (hb : hi ≤ base ∨ w.heap.size ≤ lo) : w'.ownsRow base t 1 v n xs := by
  have hg : ∀ g, v.ownBlock = some g → w'.heap[g]? = w.heap[g]? := fun g hg => by
    have := h.lt g hg
    exact ho.block g this.2 (by omega)
  obtain ⟨h1, h2⟩ := h
  refine ⟨h1, ?_⟩
  rcases h2 with h2 | ⟨g, cap, cur, rfl, hb, hgg, rest⟩
  · exact .inl h2
  · exact .inr ⟨g, cap, cur, rfl, hb, (hg g rfl).trans hgg, rest⟩
theorem Blk.only {w w' : World} {lo hi g : Nat} {t : TypeId} {cs : Array Value} (h : Blk w g t cs) (ho : Only lo hi w w') (hn : ¬ (lo ≤ g ∧ g < hi)) : Blk w' g t cs := (ho.block g h.lt hn).trans h
/-- A table of ints that the call laid: its cell at an index that is known to lie inside. -/
theorem tab_get {w : World} {b : Nat} {t : TypeId} {ys : List Int} {cs : Array Value} (hb : Blk w b t cs) (hcs : cs = (ys.map (Value.int .i64)).toArray) (k : Int) (h0 : 0 ≤ k) (h1 : k < (ys.length : Int)) {P : Int → Prop} (hP : ∀ y ∈ ys, P y) :
    ∃ y, w.cell? ⟨b, k.toNat, none⟩ = some (.int .i64 y) ∧ P y := by
  subst hcs
  have hk : k.toNat < ys.length := by omega
  refine ⟨ys[k.toNat], ?_, hP _ (List.getElem_mem hk)⟩
  rw [hb.cell]
  simp [hk]
/-- w' is w, but for draws. -/
def Same (w w' : World) : Prop := w'.os = w.os ∧ w'.tape = w.tape ∧ w'.output = w.output ∧ w'.heap = w.heap
theorem Same.refl (w : World) : Same w w := ⟨rfl, rfl, rfl, rfl⟩
theorem Same.drewN (w : World) (m : Nat) : Same w (w.drewN m) := ⟨rfl, rfl, rfl, rfl⟩
theorem Same.bel {w w' : World} (h : Same w w') (B : Nat) : Below B w w' := ⟨h.1, h.2.1, h.2.2.1, by rw [h.2.2.2]; exact Nat.le_refl _, fun _ _ => by rw [h.2.2.2]⟩
theorem Same.of_eq {w w' : World} (h : w = w') : Same w w' := h ▸ Same.refl w
theorem Same.of_drewN {w w' : World} (h : ∃ m, w' = w.drewN m) : Same w w' := by obtain ⟨m, rfl⟩ := h; exact Same.drewN w m
theorem Same.trans {a b c : World} (h : Same a b) (k : Same b c) : Same a c := ⟨k.1.trans h.1, k.2.1.trans h.2.1, k.2.2.1.trans h.2.2.1, k.2.2.2.trans h.2.2.2⟩
theorem Same.size {w w' : World} (h : Same w w') : w'.heap.size = w.heap.size := by rw [h.2.2.2]
theorem Same.drewN_right {a b : World} (h : Same a b) (m : Nat) : Same a (b.drewN m) := h.trans (Same.drewN b m)
theorem RV.next {w w' : World} {A : Option Addr} {n : Nat} {vs : List Value} (h : RV w w.heap.size A n vs) (hb : Below w.heap.size w w') : RV w' w'.heap.size A n vs := RV.more (RV.below h hb) hb.size
theorem Below.next {w w1 w2 : World} (h : Below w.heap.size w w1) (hb : Below w1.heap.size w1 w2) : Below w.heap.size w w2 := h.trans (hb.mono h.size)
theorem Same.ofn {w w' : World} (h : ∃ m, w' = w.drewN m) : Below w.heap.size w w' := (Same.of_drewN h).bel _
theorem Same.ofe {w w' : World} (h : w = w') : Below w.heap.size w w' := (Same.of_eq h).bel _
theorem ret_int {k : IntKind} {a b : Int} (h : a = b) : Ending.returned (.int k a) = .returned (.int k b) := by rw [h]
theorem ret_bool {a b : Bool} (h : a = b) : Ending.returned (.bool a) = .returned (.bool b) := by rw [h]
end Go.Proofs.Ytnebmfdjcikegaa
