/-
  The draws of links, walked: DrawLinksValid, DrawLeastPowers.
-/
import Derived.Test.YtajnpmnedghckaaDLinks
namespace Go.Proofs.Ytajnpmnedghckaa
open Go.RowKit
set_option linter.unusedVariables false

/-- The call returned links of its own; nothing that was there has turned. -/
def DrawnL (w : World) (e : Ending) (w' : World) : Prop :=
  ∃ A n c rows N G, e = .returned (.agg #[.slice A n c, .int .i64 N, .int .i64 G]) ∧ OwnII w' 34 3 w.heap.size w'.heap.size A n c rows ∧ n ≤ 10 ∧ Below w.heap.size w w'
set_option maxHeartbeats 1600000 in
theorem drawLinksValid_any (A : Option Addr) (n c B : Nat) (bs : List Int) (w : World) (h : RB w B A n bs) (hB : B ≤ w.heap.size) (hc : n ≤ c) (hn : n ≤ 1048576) (hb : ∀ x ∈ bs, 0 ≤ x ∧ x ≤ 255) :
    Calls Try.prog 17 #[.slice A n c] w fun e w' => DrawnL w e w' := by
  have hg : (w.alloc (.cells #[.slice none 0 0, .int .i64 0, .int .i64 0] 27)).heap.size = w.heap.size + 1 := by simp
  have ho := l20Open_any A n c B bs (w.alloc (.cells #[.slice none 0 0, .int .i64 0, .int .i64 0] 27)) (RV.alloc h hB _) (by omega) hc hn hb
  have kR := Blk.new w 27 #[.slice none 0 0, .int .i64 0, .int .i64 0]
  have BW := (Below.refl w.heap.size w).alloc (Nat.le_refl _) (.cells #[.slice none 0 0, .int .i64 0, .int .i64 0] 27)
  rw [hg] at ho
  clear hb h hg
  go_enter Try.func17, Try.ntmps17
  go_wp2_with fail
  refine ho.mono ?_
  rintro e w1 ⟨rfl, hr, hb1, hs1⟩
  have kR1 := Blk.below kR hb1 (Nat.lt_succ_self _)
  have hz1 := hb1.size
  have BW1 := BW.trans (hb1.mono (by simp))
  clear ho kR hb1 BW
  go_wp2_with fail
  refine (l20Links_any _ 0 2 _ hr (by omega) (by omega)).mono ?_
  rintro e w2 ⟨A2, n2, c2, rows, N, G, rfl, tab, hn2, ⟨q', _, _, hr2⟩, ho2⟩
  have kR2 := Blk.only kR1 ho2 (by omega)
  have hw1 : w.heap.size < w1.heap.size := kR1.lt
  have BW2 := BW1.trans (ho2.below (B := w.heap.size) (by omega) (by omega))
  obtain ⟨y0, y1, y2⟩ := blk3 kR2
  have f0 := Blk.frozen kR2 0
  have f1 := Blk.frozen kR2 1
  have f2 := Blk.frozen kR2 2
  have HKR := hid (show Blk _ w.heap.size 27 #[.slice A2 n2 c2, .int .i64 N, .int .i64 G] from Blk.set_ (Blk.set_ (Blk.set_ kR2 0 (.slice A2 n2 c2)) 1 (.int .i64 N)) 2 (.int .i64 G))
  have HF := hid (show DrawnL w (.returned (.agg #[.slice A2 n2 c2, .int .i64 N, .int .i64 G])) (((w2.setCell ⟨w.heap.size, 0, none⟩ (.slice A2 n2 c2)).setCell ⟨w.heap.size, 1, none⟩ (.int .i64 N)).setCell ⟨w.heap.size, 2, none⟩ (.int .i64 G)) from
    ⟨A2, n2, c2, rows, N, G, rfl, OwnVV.more (OwnVV.set3 (b := w.heap.size) tab hw1 (.slice A2 n2 c2) (.int .i64 N) (.int .i64 G)) (by omega) (Nat.le_of_eq (by simp [World.setCell])), hn2,
     ((BW2.setCell (p := ⟨w.heap.size, 0, none⟩) (Nat.le_refl _) _).setCell (p := ⟨w.heap.size, 1, none⟩) (Nat.le_refl _) _).setCell (p := ⟨w.heap.size, 2, none⟩) (Nat.le_refl _) _⟩)
  clear kR1 kR2 tab ho2 hr hr2 BW1 BW2
  go_wp2
  refine bodyPost_ret (v := .agg #[.slice A2 n2 c2, .int .i64 N, .int .i64 G]) (results_cell_row rfl _ _ w.heap.size _ _ _ _ rfl HKR.out Try.underlying27 rfl (by kernel_rfl)) rfl HF.out
set_option maxHeartbeats 1600000 in
theorem drawLeastPowers_any (A : Option Addr) (n c B : Nat) (bs : List Int) (w : World) (h : RB w B A n bs) (hB : B ≤ w.heap.size) (hc : n ≤ c) (hn : n ≤ 1048576) (hb : ∀ x ∈ bs, 0 ≤ x ∧ x ≤ 255) :
    Calls Try.prog 31 #[.slice A n c] w fun e w' => DrawnL w e w' := by
  have hg : (w.alloc (.cells #[.slice none 0 0, .int .i64 0, .int .i64 0] 27)).heap.size = w.heap.size + 1 := by simp
  have ho := l20Open_any A n c B bs (w.alloc (.cells #[.slice none 0 0, .int .i64 0, .int .i64 0] 27)) (RV.alloc h hB _) (by omega) hc hn hb
  have kR := Blk.new w 27 #[.slice none 0 0, .int .i64 0, .int .i64 0]
  have BW := (Below.refl w.heap.size w).alloc (Nat.le_refl _) (.cells #[.slice none 0 0, .int .i64 0, .int .i64 0] 27)
  rw [hg] at ho
  clear hb h hg
  go_enter Try.func31, Try.ntmps31
  go_wp2_with fail
  refine ho.mono ?_
  rintro e w1 ⟨rfl, hr, hb1, hs1⟩
  have kR1 := Blk.below kR hb1 (Nat.lt_succ_self _)
  have hz1 := hb1.size
  have BW1 := BW.trans (hb1.mono (by simp))
  clear ho kR hb1 BW
  go_wp2_with fail
  refine (l20Links_any _ 0 9 _ hr (by omega) (by omega)).mono ?_
  rintro e w2 ⟨A2, n2, c2, rows, N, G, rfl, tab, hn2, ⟨q', _, _, hr2⟩, ho2⟩
  have kR2 := Blk.only kR1 ho2 (by omega)
  have hw1 : w.heap.size < w1.heap.size := kR1.lt
  have BW2 := BW1.trans (ho2.below (B := w.heap.size) (by omega) (by omega))
  obtain ⟨y0, y1, y2⟩ := blk3 kR2
  have f0 := Blk.frozen kR2 0
  have f1 := Blk.frozen kR2 1
  have f2 := Blk.frozen kR2 2
  have HKR := hid (show Blk _ w.heap.size 27 #[.slice A2 n2 c2, .int .i64 N, .int .i64 G] from Blk.set_ (Blk.set_ (Blk.set_ kR2 0 (.slice A2 n2 c2)) 1 (.int .i64 N)) 2 (.int .i64 G))
  have HF := hid (show DrawnL w (.returned (.agg #[.slice A2 n2 c2, .int .i64 N, .int .i64 G])) (((w2.setCell ⟨w.heap.size, 0, none⟩ (.slice A2 n2 c2)).setCell ⟨w.heap.size, 1, none⟩ (.int .i64 N)).setCell ⟨w.heap.size, 2, none⟩ (.int .i64 G)) from
    ⟨A2, n2, c2, rows, N, G, rfl, OwnVV.more (OwnVV.set3 (b := w.heap.size) tab hw1 (.slice A2 n2 c2) (.int .i64 N) (.int .i64 G)) (by omega) (Nat.le_of_eq (by simp [World.setCell])), hn2,
     ((BW2.setCell (p := ⟨w.heap.size, 0, none⟩) (Nat.le_refl _) _).setCell (p := ⟨w.heap.size, 1, none⟩) (Nat.le_refl _) _).setCell (p := ⟨w.heap.size, 2, none⟩) (Nat.le_refl _) _⟩)
  clear kR1 kR2 tab ho2 hr hr2 BW1 BW2
  go_wp2
  refine bodyPost_ret (v := .agg #[.slice A2 n2 c2, .int .i64 N, .int .i64 G]) (results_cell_row rfl _ _ w.heap.size _ _ _ _ rfl HKR.out Try.underlying27 rfl (by kernel_rfl)) rfl HF.out
end Go.Proofs.Ytajnpmnedghckaa
