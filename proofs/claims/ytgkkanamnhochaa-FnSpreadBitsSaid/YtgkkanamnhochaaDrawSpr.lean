/-
  DrawSpreadBits, walked.
-/
import Derived.Test.YtgkkanamnhochaaDrawBits
import Derived.OpenShut
namespace Go.Proofs.Ytgkkanamnhochaa
open Go.RowKit
set_option linter.unusedVariables false

/-- The call returned a slice of ints of its own and an int; nothing that was there has turned. -/
def DrawnSI (P : List Int → Prop) (Q : Int → Prop) (w : World) (e : Ending) (w' : World) : Prop :=
  ∃ A n c xs k, e = .returned (.tuple #[.slice A n c, .int .i64 k]) ∧ OwnI w' 3 w.heap.size w'.heap.size A n c xs ∧ P xs ∧ Q k ∧ Below w.heap.size w w'
theorem below_open {w w1 w2 : World} (hb : Below w.heap.size w w1) (ho : Only w.heap.size (w.heap.size + 1) w1 w2) : Below w.heap.size w w2 :=
  hb.trans (ho.below (Nat.le_refl _) hb.size)

set_option maxHeartbeats 1600000 in
theorem drawSpreadBits_any (A : Option Addr) (n c B : Nat) (bs : List Int) (w : World) (h : RB w B A n bs) (hB : B ≤ w.heap.size) (hc : n ≤ c) (hn : n ≤ 1048576) (hb : ∀ x ∈ bs, 0 ≤ x ∧ x ≤ 255) :
    Calls Try.prog 31 #[.slice A n c] w fun e w' => DrawnSI (fun xs => xs.length ≤ 2000) (fun k => -1 ≤ k ∧ k ≤ 16) w e w' := by
  have ho := l20Open_any A n c B bs w h hB hc hn hb
  have hmk : ∀ w, (Instr.makeSlice 22 (.int .i64 33) (.int .i64 33)).run Try.prog w = .ok (.slice (some ⟨w.heap.size, 0, none⟩) 33 33) (w.alloc (.cells (madeCells #[.int .i64 0] 33) 3)) :=
    fun w => run_make_row' (P := Try.prog) 22 3 (.int .i64 0) 8 Try.underlying22 infoD rfl .i64 .i64 33 (by omega) (by omega) w
  have HMK := hid hmk
  clear hb hmk h
  go_enter Try.func31, Try.ntmps31
  go_wp2_with fail
  refine ho.mono ?_
  rintro e w1 ⟨rfl, hr, hb1, hs1⟩
  have hsz : w.heap.size ≤ w1.heap.size := hb1.size
  clear ho
  go_wp2_with fail
  refine (l20Bits_any _ 0 6 12 _ hr (by omega) (by omega) (by omega) (by omega)).mono ?_
  rintro e w2 ⟨A', n', c', xs, rfl, hown, hlen, ⟨q, hq, hr2⟩, ho2⟩
  have H2 := hid (And.intro hown (And.intro hlen (And.intro ho2 hr2)))
  clear hown hlen ho2 hr
  go_wp2_with fail
  refine (odd_any _ q 14 _ hr2 (by omega) (by omega)).mono ?_
  rintro e w3 ⟨b, rfl, ⟨q3, hq3, hr3⟩, ho3, hs3⟩
  have hsz2 := H2.out.2.2.1.size
  have o3 : OwnI w3 3 w1.heap.size w2.heap.size A' n' c' xs := OwnV.only H2.out.1 ho3 (.inr (by omega))
  have hO3 := H2.out.2.2.1.trans ho3
  have hbs := below_open hb1 hO3
  have H3 := hid (And.intro o3 (And.intro hbs (And.intro hr3 H2.out.2.1)))
  clear hr2 o3 hO3 hbs hr3 H2 ho3 hb1
  have hz23 : w2.heap.size ≤ w3.heap.size := by rw [hs3]; exact Nat.le_refl _
  have hz3 : w1.heap.size ≤ w3.heap.size := by rw [hs3]; exact hsz2
  clear hs3
  cases b
  · have R3 := H3.out.2.2.1
    have OW := H3.out.1
    have BL := H3.out.2.1
    go_wp2_with fail
    refine (pick_any _ q3 8 _ R3 (by omega)).mono ?_
    rintro e w4 ⟨k4, rfl, hk4, _, hr4, ho4, hs4⟩
    obtain ⟨d0, d1⟩ := hk4 (by omega)
    clear hk4 hs4
    go_wp2_with fail
    refine (pick_any _ (q3 + 1) 12 _ hr4 (by omega)).mono ?_
    rintro e w5 ⟨k5, rfl, hk5, _, hr5, ho5, hs5⟩
    obtain ⟨e0, e1⟩ := hk5 (by omega)
    clear hk5 hs5 hr4
    go_wp2_with fail
    refine (pick_any _ (q3 + 2) 12 _ hr5 (by omega)).mono ?_
    rintro e w6 ⟨k6, rfl, hk6, _, hr6, ho6, hs6⟩
    obtain ⟨f0, f1⟩ := hk6 (by omega)
    have hO6 := (ho4.trans ho5).trans ho6
    have hsz6 := hO6.size
    have H6 := hid (And.intro (OwnV.only OW hO6 (.inr (by omega))) (below_open BL hO6))
    clear hk6 hs6 hr5 hr6 ho4 ho5 ho6 hO6
    go_wp2
    go_ret2
    exact ⟨_, _, _, _, _, rfl, H6.out.1.more (by omega) (by omega), H3.out.2.2.2, by constructor <;> omega, H6.out.2⟩
  · have R3 := Rd.alloc H3.out.2.2.1 (.cells (madeCells #[.int .i64 0] 33) 3)
    have OW : OwnI (w3.alloc (.cells (madeCells #[.int .i64 0] 33) 3)) 3 w3.heap.size (w3.heap.size + 1) (some ⟨w3.heap.size, 0, none⟩) 33 33 (List.replicate 33 0) := ownV_blk (blk_made w3 _ 33 (0 : Int) rfl) (Nat.le_refl _) (by omega) (by simp) (by unfold maxLen; omega)
    have BL := H3.out.2.1.alloc (by omega) (.cells (madeCells #[.int .i64 0] 33) 3)
    have hmk := HMK.out
    have hsa : (w3.alloc (.cells (madeCells #[.int .i64 0] 33) 3)).heap.size = w3.heap.size + 1 := by simp
    go_wp2_with fail
    refine (pick_any _ q3 8 _ R3 (by omega)).mono ?_
    rintro e w4 ⟨k4, rfl, hk4, _, hr4, ho4, hs4⟩
    obtain ⟨d0, d1⟩ := hk4 (by omega)
    clear hk4 hs4
    go_wp2_with fail
    refine (pick_any _ (q3 + 1) 12 _ hr4 (by omega)).mono ?_
    rintro e w5 ⟨k5, rfl, hk5, _, hr5, ho5, hs5⟩
    obtain ⟨e0, e1⟩ := hk5 (by omega)
    clear hk5 hs5 hr4
    go_wp2_with fail
    refine (pick_any _ (q3 + 2) 12 _ hr5 (by omega)).mono ?_
    rintro e w6 ⟨k6, rfl, hk6, _, hr6, ho6, hs6⟩
    obtain ⟨f0, f1⟩ := hk6 (by omega)
    have hO6 := (ho4.trans ho5).trans ho6
    have hsz6 := hO6.size
    have H6 := hid (And.intro (OwnV.only OW hO6 (.inr (by omega))) (below_open BL hO6))
    clear hk6 hs6 hr5 hr6 ho4 ho5 ho6 hO6
    go_wp2
    go_ret2
    exact ⟨_, _, _, _, _, rfl, H6.out.1.more (by omega) (by omega), by simp, by constructor <;> omega, H6.out.2⟩
end Go.Proofs.Ytgkkanamnhochaa
