/-
  SLICES OF THE CALL's OWN, EACH IN A BLOCK OF ITS OWN, side by side. No function in sight.
-/
import Derived.Test.YtgccpjhkgkhllaaDoorTab
namespace Go.Proofs.YtgccpjhkgkhllaaDoor
open Go.RowKit
set_option linter.unusedVariables false

/-- A slice: its elements' type, its header, its elements. -/
structure It where
  t : TypeId
  A : Option Addr
  n : Nat
  c : Nat
  vs : List Value
def It.hdr (x : It) : Value := .slice x.A x.n x.c
def Ap (x y : It) : Prop := ∀ a b, x.A = some a → y.A = some b → a.block ≠ b.block
def Fam (w : World) (lo : Nat) (L : List It) : Prop := (∀ x ∈ L, OwnV w x.t lo w.heap.size x.A x.n x.c x.vs) ∧ L.Pairwise Ap
section
variable {w w' : World} {lo : Nat} {L L' : List It} {x y : It}
theorem Ap.symm (h : Ap x y) : Ap y x := fun a b ha hb => (h b a hb ha).symm
theorem Fam.below (h : Fam w lo L) (hb : Below w.heap.size w w') : Fam w' lo L := ⟨fun x hx => OwnV.more (OwnV.below (h.1 x hx) hb (Nat.le_refl _)) (Nat.le_refl _) hb.size, h.2⟩
theorem Fam.perm (h : Fam w lo L) (hp : L.Perm L') : Fam w lo L' := ⟨fun x hx => h.1 x (hp.mem_iff.2 hx), (hp.pairwise_iff (fun h => Ap.symm h)).1 h.2⟩
theorem Fam.new (h : Fam w lo L) (hb : Below w.heap.size w w') (hlo : lo ≤ w.heap.size) (ho : OwnV w' x.t w.heap.size w'.heap.size x.A x.n x.c x.vs) : Fam w' lo (x :: L) := by
  refine ⟨fun y hy => ?_, List.Pairwise.cons (fun y hy a b ha hb => ?_) h.2⟩
  · rcases List.mem_cons.1 hy with rfl | hy
    · exact OwnV.more ho hlo (Nat.le_refl _)
    · exact (h.below hb).1 y hy
  · have h1 := (OwnV.addr ho ha).1
    have h2 := (OwnV.addr (h.1 y hy) hb).2.2
    omega
theorem Fam.own (h : Fam w lo (x :: L)) : w.ownsRow lo x.t 1 (.slice x.A x.n x.c) x.n x.vs := (h.1 x (List.mem_cons_self ..)).own
theorem Fam.head (h : Fam w lo (x :: L)) : OwnV w x.t lo w.heap.size x.A x.n x.c x.vs := h.1 x (List.mem_cons_self ..)
/-- The first grows by an append. -/
theorem Fam.push (h : Fam w lo (x :: L)) {g cap : Nat} {us : List Value} (hown : w'.ownsRow lo x.t 1 (.slice (some ⟨g, 0, none⟩) (x.n + 1) cap) (x.n + 1) us) (hgr : w.grownBy w' (Value.ownBlock (.slice x.A x.n x.c)))
    (hlies : Value.ownBlock (.slice x.A x.n x.c) = some g ∨ w.heap.size ≤ g) : Fam w' lo (⟨x.t, some ⟨g, 0, none⟩, x.n + 1, cap, us⟩ :: L) := by
  obtain ⟨A1, c1, e1, hov⟩ := ownV_of hown
  injection e1 with e11 _ e13
  subst e11 e13
  have hx := h.head
  have hp := List.pairwise_cons.1 h.2
  have hAo : ∀ k, Value.ownBlock (.slice x.A x.n x.c) = some k → ∃ a, x.A = some a ∧ a.block = k := by
    intro k hk
    rcases hx.2.2.2 with ⟨h0, _⟩ | ⟨g9, _, h0, _⟩
    · rw [h0] at hk; cases hk
    · rw [h0] at hk ⊢; injection hk with hk; exact ⟨_, rfl, hk⟩
  refine ⟨fun y hy => ?_, List.Pairwise.cons (fun y hy a b ha hb => ?_) hp.2⟩
  · rcases List.mem_cons.1 hy with rfl | hy
    · exact hov
    · have hoy := h.1 y (List.mem_cons_of_mem _ hy)
      refine ⟨hoy.1, hoy.2.1, hoy.2.2.1, ?_⟩
      rcases hoy.2.2.2 with r | ⟨gy, cs, e, a1, b1, d1, hb', r⟩
      · exact .inl r
      · refine .inr ⟨gy, cs, e, a1, Nat.lt_of_lt_of_le b1 hgr.size, Nat.lt_of_lt_of_le d1 hgr.size, (hgr.block gy d1 (fun hk => ?_)).trans hb', r⟩
        obtain ⟨a, ha, hax⟩ := hAo gy hk.symm
        exact hp.1 y hy a _ ha e hax
  · injection ha with ha
    subst ha
    show g ≠ b.block
    have hby := (OwnV.addr (h.1 y (List.mem_cons_of_mem _ hy)) hb).2.2
    rcases hlies with hk | hk
    · obtain ⟨a, ha, hax⟩ := hAo g hk
      rw [← hax]
      exact hp.1 y hy a b ha hb
    · omega
/-- A store into the first. -/
theorem Fam.set (h : Fam w lo (x :: L)) {k : Nat} (hk : k < x.n) (u : Value) : ∃ g, x.A = some ⟨g, 0, none⟩ ∧ lo ≤ g ∧ g < w.heap.size ∧ w.cell? ⟨g, k, none⟩ = x.vs[k]? ∧ w.frozen? ⟨g, k, none⟩ = false ∧
    Fam (w.setCell ⟨g, k, none⟩ u) lo (⟨x.t, x.A, x.n, x.c, x.vs.set k u⟩ :: L) := by
  obtain ⟨g, e, g1, g2, g3, hc, hf, hst⟩ := OwnV.stored h.head hk u
  have hp := List.pairwise_cons.1 h.2
  have hz : (w.setCell ⟨g, k, none⟩ u).heap.size = w.heap.size := by simp [World.setCell]
  refine ⟨g, e, g1, g3, hc, hf, fun y hy => ?_, List.Pairwise.cons (fun y hy => hp.1 y hy) hp.2⟩
  rcases List.mem_cons.1 hy with rfl | hy
  · exact OwnV.more hst (Nat.le_refl _) (Nat.le_of_eq hz.symm)
  · exact OwnV.more (OwnV.far (p := ⟨g, k, none⟩) (h.1 y (List.mem_cons_of_mem _ hy)) (fun a ha => (hp.1 y hy _ a e ha).symm) u) (Nat.le_refl _) (Nat.le_of_eq hz.symm)
/-- A table read out of its outer slice and its rows. -/
theorem Fam.rtt {x : It} {Q : List It} {rows : List (List Bool)} (ho : RV w w.heap.size x.A x.n (Q.map It.hdr)) (hq : ∀ y ∈ Q, OwnV w y.t lo w.heap.size y.A y.n y.c y.vs) (hr : Q.map It.vs = rows.map fun r => r.map Value.bool) : RTT w w.heap.size x.A x.n rows := by
  refine ⟨Q.map fun y => (y.A, y.n, y.c), ?_, ?_, ?_⟩
  · rw [List.map_map]
    exact ho
  · have h1 := ho.1
    have h2 := congrArg List.length hr
    simp at h1 h2 ⊢
    omega
  · intro j d vs hd hv
    rw [List.getElem?_map] at hd
    rw [← hr, List.getElem?_map] at hv
    cases hy : Q[j]? with
    | none => rw [hy] at hd; simp at hd
    | some y =>
      rw [hy] at hd hv
      simp at hd hv
      subst hd hv
      have := hq y (List.mem_of_getElem? hy)
      exact ⟨this.rv, this.2.1, this.2.2.1⟩
end
end Go.Proofs.YtgccpjhkgkhllaaDoor
