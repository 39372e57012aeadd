/-
  THE HELPERS OF THE EXACT LAWS for links, walked: toLinks copies; szLinks counts; eqLinks compares; markLinks writes into every row.
-/
import Derived.Test.YtajnpmnedghckaaTabIM
import Derived.Handy
namespace Go.Proofs.Ytajnpmnedghckaa
open Go.RowKit
set_option linter.unusedVariables false

theorem bcell {W w1 : World} (hb : Below W.heap.size W w1) : (∀ b o, b < W.heap.size → w1.cell? ⟨b, o, none⟩ = W.cell? ⟨b, o, none⟩) ∧ (∀ b o, b < W.heap.size → w1.frozen? ⟨b, o, none⟩ = W.frozen? ⟨b, o, none⟩) :=
  ⟨fun b o h => hb.cell (p := ⟨b, o, none⟩) h, fun b o h => hb.frozen (p := ⟨b, o, none⟩) h⟩
theorem blk3 {w : World} {g : Nat} {t : TypeId} {a b c : Value} (h : Blk w g t #[a, b, c]) : w.cell? ⟨g, 0, none⟩ = some a ∧ w.cell? ⟨g, 1, none⟩ = some b ∧ w.cell? ⟨g, 2, none⟩ = some c :=
  ⟨(h.cell 0).trans rfl, (h.cell 1).trans rfl, (h.cell 2).trans rfl⟩
/-- Links as a value. -/
abbrev lnk (A : Option Addr) (n c : Nat) (N G : Int) : Value := .agg #[.slice A n c, .int .i64 N, .int .i64 G]
set_option maxHeartbeats 800000 in
theorem szLinks_any (A : Option Addr) (n c B : Nat) (rows : List (List Int)) (N G left : Int) (w : World) (h : RII w B A n rows) (hB : B ≤ w.heap.size) (hc : n ≤ c) (hm : c ≤ maxLen) (h0 : 0 ≤ left) (h1 : left ≤ 1048576) (hz : 0 ≤ szSSI (rows.map List.length) left) :
    Calls Try.prog 12 #[.agg #[.slice A n c, .int .i64 N, .int .i64 G], .int .i64 left] w fun e w' => e = .returned (.int .i64 (szSSI (rows.map List.length) left)) ∧ Below w.heap.size w w' := by
  have hcon := szIntSS_any A n c B rows left (w.alloc (.cells #[.slice A n c, .int .i64 N, .int .i64 G] 24)) (RVV.alloc h hB _) hc hm h0 h1
  obtain ⟨Z, HZ⟩ : ∃ Z, Hid (Z = szSSI (rows.map List.length) left) := ⟨_, hid rfl⟩
  rw [← HZ.out] at hcon hz ⊢
  have HC := hid hcon
  clear hcon
  go_enter Try.func12, Try.ntmps12
  go_wp2_with fail
  refine HC.out.mono ?_
  rintro e w1 ⟨rfl, rfl⟩
  go_wp2
  go_ret
  exact ⟨rfl, (Below.refl _ _).alloc (Nat.le_refl _) _⟩
set_option maxHeartbeats 800000 in
theorem szLinks_neg (A : Option Addr) (n c B : Nat) (rows : List (List Int)) (N G left : Int) (w : World) (h : RII w B A n rows) (hB : B ≤ w.heap.size) (hc : n ≤ c) (hm : c ≤ maxLen) (h0 : 0 ≤ left) (h1 : left ≤ 1048576) (hz : szSSI (rows.map List.length) left = -1) :
    Calls Try.prog 12 #[.agg #[.slice A n c, .int .i64 N, .int .i64 G], .int .i64 left] w fun e w' => e = .returned (.int .i64 (-1)) ∧ Below w.heap.size w w' := by
  have hcon := szIntSS_any A n c B rows left (w.alloc (.cells #[.slice A n c, .int .i64 N, .int .i64 G] 24)) (RVV.alloc h hB _) hc hm h0 h1
  rw [hz] at hcon
  have HC := hid hcon
  clear hcon hz
  go_enter Try.func12, Try.ntmps12
  go_wp2_with fail
  refine HC.out.mono ?_
  rintro e w1 ⟨rfl, rfl⟩
  go_wp2
  go_ret
  exact ⟨rfl, (Below.refl _ _).alloc (Nat.le_refl _) _⟩
set_option maxHeartbeats 800000 in
theorem eqLinks_same (A A' : Option Addr) (n n' c c' B B' : Nat) (rows : List (List Int)) (N G : Int) (w : World) (h : RII w B A n rows) (h' : RII w B' A' n' rows) (hB : B ≤ w.heap.size) (hB' : B' ≤ w.heap.size) (hn : rows.length ≤ 1000000000) (hr : ∀ r ∈ rows, r.length ≤ 1000000000) :
    Calls Try.prog 16 #[.agg #[.slice A n c, .int .i64 N, .int .i64 G], .agg #[.slice A' n' c', .int .i64 N, .int .i64 G]] w fun e w' => e = .returned (.bool true) ∧ Below w.heap.size w w' := by
  have hb2 := ((Below.refl w.heap.size w).alloc (Nat.le_refl _) (.cells #[.slice A n c, .int .i64 N, .int .i64 G] 27)).alloc (by simp) (.cells #[.slice A' n' c', .int .i64 N, .int .i64 G] 27)
  have hcon := eqIntSS_same A A' n n' c c' B B' rows _ (RVV.below h (hb2.mono hB)) (RVV.below h' (hb2.mono hB')) hn hr
  have HC := hid hcon
  have HB2 := hid hb2
  have hne1 : (N != N) = false := by simp
  have hne2 : (G != G) = false := by simp
  clear hcon hr hb2
  go_enter Try.func16, Try.ntmps16
  go_wp2_with fail
  refine HC.out.mono ?_
  rintro e w1 ⟨rfl, hb⟩
  have HB := hid (HB2.out.trans (hb.mono HB2.out.size))
  obtain ⟨hcl, hfr⟩ := bcell hb
  clear hb
  go_wp2
  go_ret
  exact ⟨rfl, HB.out⟩
set_option maxHeartbeats 800000 in
theorem markLinks_any (A : Option Addr) (n c lo hi : Nat) (rows : List (List Int)) (N G k0 : Int) (w : World) (h : OwnII w 34 3 lo hi A n c rows) (hh : hi ≤ w.heap.size) (hn : n ≤ 1048576) (hr : lenRI rows ≤ 1048576) (hk0 : 0 ≤ k0) (hk1 : k0 ≤ 1000000000) :
    Calls Try.prog 26 #[.agg #[.slice A n c, .int .i64 N, .int .i64 G], .int .i64 k0] w fun e w' => e = .returned (.int .i64 (k0 + lenRI rows)) ∧
      OwnII w' 34 3 lo hi A n c (marksRI k0 rows) ∧ Only lo hi w w' ∧ w'.heap.size = w.heap.size + 1 := by
  have hcon := markIntSS_any A n c lo hi rows k0 (w.alloc (.cells #[.slice A n c, .int .i64 N, .int .i64 G] 27)) (OwnVV.alloc h _) hn hr hk0 hk1
  have HC := hid hcon
  clear hcon
  obtain ⟨T, HT⟩ : ∃ T, Hid (T = lenRI rows) := ⟨_, hid rfl⟩
  rw [← HT.out] at HC ⊢
  go_enter Try.func26, Try.ntmps26
  go_wp2_with fail
  refine HC.out.mono ?_
  rintro e w1 ⟨rfl, ho, hon, hs⟩
  have H1 := hid (And.intro ho (And.intro (((Only.refl lo hi w).alloc (.cells #[.slice A n c, .int .i64 N, .int .i64 G] 27)).trans hon) hs))
  clear ho hon hs
  go_wp2
  go_ret
  exact ⟨rfl, H1.out.1, H1.out.2.1, by rw [H1.out.2.2]; simp⟩
set_option maxHeartbeats 800000 in
theorem toLinks_any (A : Option Addr) (n c B : Nat) (rows : List (List Int)) (N G : Int) (w : World) (h : RII w B A n rows) (hB : B ≤ w.heap.size) (hn : n ≤ 1048576) (hr : ∀ r ∈ rows, r.length ≤ 1048576) :
    Calls Try.prog 14 #[.agg #[.slice A n c, .int .i64 N, .int .i64 G]] w fun e w' => ∃ B', e = .returned (.agg #[.slice B' n n, .int .i64 N, .int .i64 G]) ∧
      OwnII w' 34 3 w.heap.size w'.heap.size B' n n rows ∧ Below w.heap.size w w' := by
  have hb2 := (((Below.refl w.heap.size w).alloc (Nat.le_refl _) (.cells #[.slice A n c, .int .i64 N, .int .i64 G] 24)).alloc (by simp) (.cells #[.slice none 0 0, .int .i64 0, .int .i64 0] 27)).alloc (by simp; omega) (.cells #[.slice none 0 0, .int .i64 0, .int .i64 0] 27)
  have hcon := toIntSS_any A n c B rows _ (RVV.below h (hb2.mono hB)) (Nat.le_trans hB hb2.size) hn hr
  have HC := hid hcon
  have HB2 := hid hb2
  clear hcon hr hb2
  go_enter Try.func14, Try.ntmps14
  go_wp2_with fail
  refine HC.out.mono ?_
  rintro e w1 ⟨rfl, ho, hb⟩
  have hb1 := hb.mono (show w.heap.size + 1 + 1 + 1 ≤ _ by simp)
  have hb2 := HB2.out.trans (hb.mono HB2.out.size)
  have hz : w.heap.size + 1 + 1 < w1.heap.size := by have := hb.size; simp at this; omega
  have k1 : Blk w1 (w.heap.size + 1) 27 #[.slice none 0 0, .int .i64 0, .int .i64 0] := by
    refine Blk.below ?_ hb1 (by omega)
    refine Blk.alloc ?_ _
    have := Blk.new (w.alloc (.cells #[.slice A n c, .int .i64 N, .int .i64 G] 24)) 27 #[.slice none 0 0, .int .i64 0, .int .i64 0]
    simpa using this
  have k2 : Blk w1 (w.heap.size + 1 + 1) 27 #[.slice none 0 0, .int .i64 0, .int .i64 0] := by
    refine Blk.below ?_ hb1 (by omega)
    have := Blk.new ((w.alloc (.cells #[.slice A n c, .int .i64 N, .int .i64 G] 24)).alloc (.cells #[.slice none 0 0, .int .i64 0, .int .i64 0] 27)) 27 #[.slice none 0 0, .int .i64 0, .int .i64 0]
    simpa using this
  have HK : Hid (∀ u, Blk ((((((w1.setCell ⟨w.heap.size + 1 + 1, 0, none⟩ u).setCell ⟨w.heap.size + 1 + 1, 1, none⟩ (.int .i64 N)).setCell ⟨w.heap.size + 1 + 1, 2, none⟩ (.int .i64 G)).setCell ⟨w.heap.size + 1, 0, none⟩ u).setCell ⟨w.heap.size + 1, 1, none⟩ (.int .i64 N)).setCell ⟨w.heap.size + 1, 2, none⟩ (.int .i64 G)) (w.heap.size + 1) 27 #[u, .int .i64 N, .int .i64 G]) := hid (fun u =>
    Blk.set_ (Blk.set_ (Blk.set_ (Blk.far (Blk.far (Blk.far k1 (p := ⟨w.heap.size + 1 + 1, 0, none⟩) (by simp) _) (p := ⟨w.heap.size + 1 + 1, 1, none⟩) (by simp) _) (p := ⟨w.heap.size + 1 + 1, 2, none⟩) (by simp) _) 0 _) 1 _) 2 _)
  have HB : Hid (∀ u, Below w.heap.size w ((((((w1.setCell ⟨w.heap.size + 1 + 1, 0, none⟩ u).setCell ⟨w.heap.size + 1 + 1, 1, none⟩ (.int .i64 N)).setCell ⟨w.heap.size + 1 + 1, 2, none⟩ (.int .i64 G)).setCell ⟨w.heap.size + 1, 0, none⟩ u).setCell ⟨w.heap.size + 1, 1, none⟩ (.int .i64 N)).setCell ⟨w.heap.size + 1, 2, none⟩ (.int .i64 G))) := hid (fun u =>
    (((((hb2.setCell (p := ⟨w.heap.size + 1 + 1, 0, none⟩) (show w.heap.size ≤ w.heap.size + 1 + 1 by omega) _).setCell (p := ⟨w.heap.size + 1 + 1, 1, none⟩) (show w.heap.size ≤ w.heap.size + 1 + 1 by omega) _).setCell (p := ⟨w.heap.size + 1 + 1, 2, none⟩) (show w.heap.size ≤ w.heap.size + 1 + 1 by omega) _).setCell (p := ⟨w.heap.size + 1, 0, none⟩) (show w.heap.size ≤ w.heap.size + 1 by omega) _).setCell (p := ⟨w.heap.size + 1, 1, none⟩) (show w.heap.size ≤ w.heap.size + 1 by omega) _).setCell (p := ⟨w.heap.size + 1, 2, none⟩) (show w.heap.size ≤ w.heap.size + 1 by omega) _)
  have HO : Hid (∀ u, OwnII ((((((w1.setCell ⟨w.heap.size + 1 + 1, 0, none⟩ u).setCell ⟨w.heap.size + 1 + 1, 1, none⟩ (.int .i64 N)).setCell ⟨w.heap.size + 1 + 1, 2, none⟩ (.int .i64 G)).setCell ⟨w.heap.size + 1, 0, none⟩ u).setCell ⟨w.heap.size + 1, 1, none⟩ (.int .i64 N)).setCell ⟨w.heap.size + 1, 2, none⟩ (.int .i64 G)) 34 3 w.heap.size w1.heap.size (some ⟨w.heap.size + 1 + 1 + 1, 0, none⟩) n n rows) := hid (fun u => by
    have h0 : (((w.alloc (.cells #[.slice A n c, .int .i64 N, .int .i64 G] 24)).alloc (.cells #[.slice none 0 0, .int .i64 0, .int .i64 0] 27)).alloc (.cells #[.slice none 0 0, .int .i64 0, .int .i64 0] 27)).heap.size = w.heap.size + 1 + 1 + 1 := by simp
    rw [h0] at ho
    refine OwnVV.more (OwnVV.keep ho (by simp [World.setCell]) ?_) (by omega) (Nat.le_refl _)
    intro q q1 q2 q3
    have e : ∀ (W : World) (p : Addr) (u : Value), p.block < q → (W.setCell p u).heap[q]? = W.heap[q]? := fun W p u hp => Below.heap_setCell _ _ _ _ (by omega)
    rw [e _ _ _ (by show w.heap.size + 1 < q; omega), e _ _ _ (by show w.heap.size + 1 < q; omega), e _ _ _ (by show w.heap.size + 1 < q; omega), e _ _ _ (by show w.heap.size + 1 + 1 < q; omega), e _ _ _ (by show w.heap.size + 1 + 1 < q; omega), e _ _ _ (by show w.heap.size + 1 + 1 < q; omega)])
  have HS : Hid (∀ u, ((((((w1.setCell ⟨w.heap.size + 1 + 1, 0, none⟩ u).setCell ⟨w.heap.size + 1 + 1, 1, none⟩ (.int .i64 N)).setCell ⟨w.heap.size + 1 + 1, 2, none⟩ (.int .i64 G)).setCell ⟨w.heap.size + 1, 0, none⟩ u).setCell ⟨w.heap.size + 1, 1, none⟩ (.int .i64 N)).setCell ⟨w.heap.size + 1, 2, none⟩ (.int .i64 G)).heap.size = w1.heap.size) := hid (fun u => by simp [World.setCell])
  obtain ⟨hcl, hfr⟩ := bcell hb
  clear hb ho hb1 hb2 k1 k2
  go_wp2
  refine bodyPost_ret (v := .agg #[.slice (some ⟨w.heap.size + 1 + 1 + 1, 0, none⟩) n n, .int .i64 N, .int .i64 G]) (results_cell_row rfl _ _ (w.heap.size + 1) _ _ _ _ rfl (HK.out _) Try.underlying27 rfl (by kernel_rfl)) rfl ⟨_, rfl, ?_, HB.out _⟩
  rw [HS.out]
  exact HO.out _
end Go.Proofs.Ytajnpmnedghckaa
