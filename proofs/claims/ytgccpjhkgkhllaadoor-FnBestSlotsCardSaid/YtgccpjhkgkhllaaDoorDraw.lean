/-
  The drawn inputs' reader, opened; 'odd'; the fixed answer 'alive'; 'sameInts'. Walked.
-/
import Derived.Test.YtgccpjhkgkhllaaDoorRd
namespace Go.Proofs.YtgccpjhkgkhllaaDoor
open Go.RowKit
set_option linter.unusedVariables false

theorem l20Open_any (A : Option Addr) (n c B : Nat) (bs : List Int) (w : World) (h : RB w B A n bs) (hB : B ≤ w.heap.size) (hc : n ≤ c) (hn : n ≤ 1048576) (hb : ∀ x ∈ bs, 0 ≤ x ∧ x ≤ 255) :
    Calls Tryd.prog 29 #[.slice A n c] w fun e w' => e = .returned (.pointer (some ⟨w.heap.size, 0, none⟩)) ∧ Rd w' w.heap.size 0 ∧ Below w.heap.size w w' ∧ w'.heap.size = w.heap.size + 1 := by
  by_cases hl : n ≤ 2000
  · go_enter Tryd.func29, Tryd.ntmps29
    go_wp2
    go_ret
    exact ⟨rfl, ⟨A, n, c, bs, Blk.new _ _ _, RV.more (RV.alloc h hB _) hB, hl, hb⟩, (Below.refl _ _).alloc (Nat.le_refl _) _, by simp⟩
  · obtain ⟨b, o, rfl, hbB, hcell⟩ := h.2 (by omega)
    have hlen := RB.len h
    have h' : RB w B (some ⟨b, o, none⟩) 2000 (bs.take 2000) := by
      refine ⟨by simp [hlen]; omega, fun _ => ⟨b, o, rfl, hbB, fun j u hu => hcell j u ?_⟩⟩
      rw [List.getElem?_map] at hu ⊢
      rw [List.getElem?_take] at hu
      split at hu
      · exact hu
      · simp at hu
    have hb' : ∀ x ∈ bs.take 2000, 0 ≤ x ∧ x ≤ 255 := fun x hx => hb x (List.mem_of_mem_take hx)
    have HH := hid (And.intro h' hb')
    clear h' hb' hb hlen hcell
    have hl2 : 2000 < n := by omega
    go_enter Tryd.func29, Tryd.ntmps29
    go_wp2
    go_ret
    exact ⟨rfl, ⟨_, 2000, _, _, Blk.new _ _ _, RV.more (RV.alloc HH.out.1 hB _) hB, Nat.le_refl _, HH.out.2⟩, (Below.refl _ _).alloc (Nat.le_refl _) _, by simp⟩

/-- The call returned a bool, and the reader has picked at most once more. -/
def PickedB (g p : Nat) (w : World) (e : Ending) (w' : World) : Prop :=
  ∃ b : Bool, e = .returned (.bool b) ∧ (∃ q, q ≤ p + 1 ∧ Rd w' g q) ∧ Only g (g + 1) w w' ∧ w'.heap.size = w.heap.size
theorem odd_any (g p : Nat) (n : Int) (w : World) (h : Rd w g p) (hp : p ≤ 100000000) (hn : n ≤ 1000000000) :
    Calls Tryd.prog 45 #[.pointer (some ⟨g, 0, none⟩), .int .i64 n] w fun e w' => PickedB g p w e w' := by
  by_cases h0 : 0 < n
  · go_enter Tryd.func45, Tryd.ntmps45
    go_wp2_with fail
    refine (pick_any g p n _ h hp).mono ?_
    rintro e w1 ⟨k, rfl, hk, _, hr, ho, hs⟩
    have HR := hid (And.intro hr (And.intro ho hs))
    obtain ⟨k0, k1⟩ := hk (by omega)
    clear hr ho hs hk
    go_wp2
    go_ret
    exact ⟨_, rfl, ⟨p + 1, Nat.le_refl _, HR.out.1⟩, HR.out.2.1, HR.out.2.2⟩
  · go_enter Tryd.func45, Tryd.ntmps45
    go_wp2
    go_ret
    exact ⟨_, rfl, ⟨p, by omega, h⟩, Only.refl _ _ _, rfl⟩
end Go.Proofs.YtgccpjhkgkhllaaDoor
