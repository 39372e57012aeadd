/-
  The table without its last station; slices laid new. No function in sight.
-/
import Derived.Test.YtgccpjhkgkhllaaDoorSloA
import Derived.Test.YtgccpjhkgkhllaaDoorFam
namespace Go.Proofs.YtgccpjhkgkhllaaDoor
open Go.RowKit
set_option linter.unusedVariables false

/-- The table without its last station. -/
def smallT (rows : List (List Bool)) (m : Nat) : List (List Bool) := (rows.take m).map (·.take m)
theorem cf_small {rows : List (List Bool)} {m i j : Nat} (hi : i < m) (hj : j < m) (hm : m ≤ rows.length) : cf (smallT rows m) i j = cf rows i j := by
  unfold cf smallT
  simp only [List.getD_eq_getElem?_getD, List.getElem?_map, List.getElem?_take, if_pos hi]
  cases hx : rows[i]? with
  | none => have := List.getElem?_eq_none_iff.1 hx; omega
  | some r => simp [List.getElem?_take, if_pos hj]
theorem small_ok {rows : List (List Bool)} {m : Nat} (h : ConfOk rows) (hm : m ≤ rows.length) : ConfOk (smallT rows m) := by
  have hl : (smallT rows m).length = m := by unfold smallT; simp; omega
  refine ⟨by rw [hl]; have := h.1; omega, fun i r hr => ?_, fun i j hi hj => ?_⟩
  · rw [hl]
    unfold smallT at hr
    rw [List.getElem?_map, List.getElem?_take] at hr
    split at hr
    · cases hx : rows[i]? with
      | none => rw [hx] at hr; simp at hr
      | some q => rw [hx] at hr; simp at hr; subst hr; rw [List.length_take, h.2.1 i q hx]; omega
    · simp at hr
  · rw [hl] at hi hj
    have := h.2.2 i j (by omega) (by omega)
    exact ⟨by rw [cf_small hi hj hm, cf_small hj hi hm]; exact this.1, fun e => by rw [cf_small hi hj hm]; exact this.2 e⟩
theorem RV.takeN {w : World} {B n m : Nat} {A : Option Addr} {vs : List Value} (h : RV w B A n vs) (hm : m ≤ n) : RV w B A m (vs.take m) :=
  ⟨by rw [List.length_take, h.1]; omega, fun hn => by
    obtain ⟨b, o, e, hb, hc⟩ := h.2 (by omega)
    exact ⟨b, o, e, hb, fun j u hu => hc j u (by
      rw [List.getElem?_take] at hu
      split at hu
      · exact hu
      · cases hu)⟩⟩
theorem ownV_lit (w : World) (t : TypeId) : OwnV (w.alloc (.cells #[] t)) t w.heap.size (w.alloc (.cells #[] t)).heap.size (some ⟨w.heap.size, 0, none⟩) 0 0 [] :=
  ownV_blk (vs := []) (Blk.new w t #[]) (Nat.le_refl _) (by simp) rfl (by unfold maxLen; omega)
end Go.Proofs.YtgccpjhkgkhllaaDoor
