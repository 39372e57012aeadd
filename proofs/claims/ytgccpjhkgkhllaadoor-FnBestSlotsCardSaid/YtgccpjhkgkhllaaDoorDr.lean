/-
  A DRAW under way: the reader in block g, and nothing else of old has turned; slices of the draw's own. With 'pick', 'odd' as steps.
-/
import Derived.Test.YtgccpjhkgkhllaaDoorDraw
namespace Go.Proofs.YtgccpjhkgkhllaaDoor
open Go.RowKit
set_option linter.unusedVariables false

theorem infoDr : (Tryd.prog.info? 3).map (fun i => (i.zero, i.size, i.bytes)) = some (some (.int .i64 0), 1, 8) := by kernel_rfl

structure DS (w0 w : World) (g q : Nat) : Prop where
  rd : Rd w g q
  only : Only g (g + 1) w0 w
/-- A slice of ints of the draw's own: it lies in blocks from lo on, lo behind the reader's. -/
def Mine (w : World) (lo : Nat) (A : Option Addr) (n c : Nat) (xs : List Int) : Prop := w.ownsRow lo 3 1 (.slice A n c) n (xs.map (Value.int .i64))
section
variable {w0 w w' : World} {g q lo n c : Nat} {A : Option Addr} {xs : List Int}
theorem DS.start (h : Rd w g q) : DS w w g q := ⟨h, Only.refl _ _ _⟩
theorem DS.alloc (h : DS w0 w g q) (o : Obj) : DS w0 (w.alloc o) g q := ⟨h.rd.alloc o, h.only.alloc o⟩
theorem DS.drew (h : DS w0 w g q) : DS w0 w.drew g q := ⟨h.rd, h.only.drew⟩
theorem DS.drewN (h : DS w0 w g q) (m : Nat) : DS w0 (w.drewN m) g q := ⟨h.rd, h.only.drewN m⟩
theorem DS.lt (h : DS w0 w g q) : g < w.heap.size := h.rd.lt
theorem DS.size (h : DS w0 w g q) : w0.heap.size ≤ w.heap.size := h.only.size
theorem DS.below (h : DS w0 w g q) (hb : Below w.heap.size w w') : DS w0 w' g q := ⟨h.rd.below hb h.lt, h.only.step hb h.size⟩
theorem Mine.alloc (h : Mine w lo A n c xs) (o : Obj) : Mine (w.alloc o) lo A n c xs := World.ownsRow.alloc h o
theorem Mine.drew (h : Mine w lo A n c xs) : Mine w.drew lo A n c xs := h
theorem Mine.only (h : Mine w lo A n c xs) (ho : Only g (g + 1) w w') (hg : g < lo) : Mine w' lo A n c xs := own_only h ho (.inl hg)
theorem Mine.below (h : Mine w lo A n c xs) (hb : Below w.heap.size w w') : Mine w' lo A n c xs := by
  obtain ⟨A', c', hv, ho⟩ := ownV_of h
  injection hv with e1 _ e2
  subst e1 e2
  exact (OwnV.below ho hb (Nat.le_refl _)).own
theorem Mine.own (h : Mine w lo A n c xs) : OwnI w 3 lo w.heap.size A n c xs := by
  obtain ⟨A', c', hv, ho⟩ := ownV_of h
  injection hv with e1 _ e2
  subst e1 e2
  exact ho
theorem Mine.ri (h : Mine w lo A n c xs) : RI w w.heap.size A n xs := OwnI.ri h.own
theorem Mine.len (h : Mine w lo A n c xs) : xs.length = n := OwnI.len h.own
theorem Mine.more (h : Mine w lo A n c xs) {lo' : Nat} (hl : lo' ≤ lo) : Mine w lo' A n c xs := own_base h hl
theorem Mine.of_own {hi : Nat} (h : OwnI w 3 lo hi A n c xs) : Mine w lo A n c xs := OwnV.own h
theorem mine_lit0 (w : World) {base : Nat} (hb : base ≤ w.heap.size) : Mine (w.alloc (.cells #[] 3)) base (some ⟨w.heap.size, 0, none⟩) 0 0 [] := own_lit0 _ hb
theorem mine_nil (w : World) {base : Nat} : Mine w base none 0 0 [] := World.ownsRow_nil _ _ _ _
/-- Behind an append: the row's block was the draw's own. -/
theorem DS.grown (h : DS w0 w g q) (hm : Mine w lo A n c xs) (hg : w.grownBy w' (Value.ownBlock (.slice A n c))) (hlo : g < lo) (hw : w0.heap.size ≤ lo) (hz : lo ≤ w.heap.size) : DS w0 w' g q :=
  ⟨h.rd.below (B := lo) ((Below.refl _ _).grown hg hz (fun k hk => (World.ownsRow.lt hm k hk).1)) hlo, h.only.grown hg (fun k hk => Nat.le_trans hw (World.ownsRow.lt hm k hk).1)⟩
/-- A store into a slice of the draw's own. -/
theorem Mine.stored (h : Mine w lo A n c xs) {k : Nat} (hk : k < n) (x : Int) : ∃ b y, A = some ⟨b, 0, none⟩ ∧ lo ≤ b ∧ b < w.heap.size ∧ xs[k]? = some y ∧ w.cell? ⟨b, k, none⟩ = some (.int .i64 y) ∧ w.frozen? ⟨b, k, none⟩ = false ∧
    Mine (w.setCell ⟨b, k, none⟩ (.int .i64 x)) lo A n c (xs.set k x) := by
  obtain ⟨b, y, e, a, b', d, hx, hc, hf, ho⟩ := OwnI.stored h.own hk x
  exact ⟨b, y, e, a, d, hx, hc, hf, OwnV.own ho⟩
theorem DS.stored (h : DS w0 w g q) {b k : Nat} (hb : g < b) (hw : w0.heap.size ≤ b) (u : Value) : DS w0 (w.setCell ⟨b, k, none⟩ u) g q :=
  ⟨h.rd.below (B := g + 1) (Below.setCell (Below.refl _ _) (p := ⟨b, k, none⟩) (by show g + 1 ≤ b; omega) u) (Nat.lt_succ_self _), h.only.setNew (p := ⟨b, k, none⟩) hw u⟩

theorem ds_pick (n : Int) (h : DS w0 w g q) (hq : q ≤ 100000000) :
    Calls Tryd.prog 44 #[.pointer (some ⟨g, 0, none⟩), .int .i64 n] w fun e w' => ∃ k : Int, e = .returned (.int .i64 k) ∧ (1 ≤ n → 0 ≤ k ∧ k < n) ∧ DS w0 w' g (q + 1) ∧ Only g (g + 1) w w' ∧ w'.heap.size = w.heap.size := by
  refine (pick_any g q n _ h.rd hq).mono ?_
  rintro e w1 ⟨k, rfl, hk, _, hr, ho, hs⟩
  exact ⟨k, rfl, hk, ⟨hr, h.only.trans ho⟩, ho, hs⟩
/-- 'odd' returned a bool; the reader has picked at most once more. -/
def OddRes (w0 : World) (g q : Nat) (w : World) (e : Ending) (w' : World) : Prop := ∃ b : Bool, e = .returned (.bool b) ∧ (∃ q', q ≤ q' ∧ q' ≤ q + 1 ∧ DS w0 w' g q') ∧ Only g (g + 1) w w' ∧ w'.heap.size = w.heap.size
theorem ds_odd (n : Int) (h : DS w0 w g q) (hq : q ≤ 100000000) (hn : n ≤ 1000000000) :
    Calls Tryd.prog 45 #[.pointer (some ⟨g, 0, none⟩), .int .i64 n] w fun e w' => OddRes w0 g q w e w' := by
  by_cases h0 : 0 < n
  · go_enter Tryd.func45, Tryd.ntmps45
    go_wp2_with fail
    refine (ds_pick n h hq).mono ?_
    rintro e w1 ⟨k, rfl, hk, hd, ho, hs⟩
    have HR := hid (And.intro hd (And.intro ho hs))
    clear hd ho hs hk
    go_wp2
    go_ret
    exact ⟨_, rfl, ⟨q + 1, by omega, Nat.le_refl _, HR.out.1⟩, HR.out.2.1, HR.out.2.2⟩
  · go_enter Tryd.func45, Tryd.ntmps45
    go_wp2
    go_ret
    exact ⟨_, rfl, ⟨q, Nat.le_refl _, by omega, h⟩, Only.refl _ _ _, rfl⟩
end
/-- What a draw of a slice of ints promises. -/
def GivesI (P : List Int → Prop) (m g q : Nat) (w : World) (e : Ending) (w' : World) : Prop :=
  ∃ A n c xs, e = .returned (.slice A n c) ∧ Mine w' w.heap.size A n c xs ∧ P xs ∧ (∃ q', q ≤ q' ∧ q' ≤ q + m ∧ Rd w' g q') ∧ Only g (g + 1) w w'
end Go.Proofs.YtgccpjhkgkhllaaDoor
