/-
  APPENDS AS STEPS OF A REGION THAT DRAWS ITS ORDER: 'append(T{}, xs...)'; 'append(T{x}, xs...)'. No function in sight.
-/
import Derived.Test.YtgccpjhkgkhllaaDoorTab
import Derived.ArgAppend
import Derived.Deep.RegionLaw
namespace Go.Proofs.YtgccpjhkgkhllaaDoor
open Go.RowKit
set_option linter.unusedVariables false

section
variable {P : Program} {w : World} {ops : Array Oper} {o : Oper} {a : Act} {K : Act → World → Prop} {Q : Exit → Act → World → Prop} {E : Prop}
theorem run_append_zero (w : World) (t ty e : TypeId) (i : TypeInfo) (ht : P.underlying t = some (.slice e)) (hi : P.info? e = some i) (b : Addr) (n c : Nat) (A1 : Option Addr) (c1 : Nat) (hnc : n ≤ c) :
    (Builtin.append_ #[t, t] ty #[.slice (some b) n c, .slice A1 0 c1]).run P w = .ok (.slice (some b) n c) w := by
  cases A1 <;> simp [Builtin.append_, run_underlying ht, sizeOf, typeInfo, hi, Builtin.lenOf, Builtin.firstCells, hnc, storeCells, loadCells, loadCellsFrom]
/-- 'append(T{}, xs...)', xs not empty. -/
theorem step_copyA (hgd : o.guard = none) (s x : Operand) (t : TypeId)
    (ho : o.op = .call { callee := .builtin .append, args := #[s, x], argTypes := #[t, t] })
    (e : TypeId) (i : TypeInfo) (z : Value) (bytes : Nat) (ht : P.underlying t = some (.slice e)) (hi : P.info? e = some i) (hz : i.zero = some z)
    (hsize : i.size = 1) (hby : i.bytes = bytes) (hzs : z.cells.size = 1) (hb64 : bytes ≤ 1000) (g : Nat) (hs : a.eval s = .slice (some ⟨g, 0, none⟩) 0 0)
    (B : Nat) (A1 : Option Addr) (m c1 : Nat) (news : List Value) (hx : a.eval x = .slice A1 m c1) (hr : RV w B A1 m news) (h1 : ∀ u ∈ news, u.oneCell' = true) (hm0 : 0 < m) (hm : m ≤ 1000000000)
    (h : ∀ A' c' w', OwnV w' e w.heap.size w'.heap.size A' m c' news → Below w.heap.size w w' → K (a.put o.dst (.slice A' m c')) w') :
    if Region.wanted o (yielded ops a.tmps) = true then Oper.wp P o a w K Q else E := by
  obtain ⟨b, off, rfl, hb, hc⟩ := hr.2 hm0
  have hbytes : (0 + m) * bytes ≤ 140737488355328 := by
    have := Nat.mul_le_mul (show 0 + m ≤ 1000000000 by omega) hb64
    omega
  have hw : Region.wanted o (yielded ops a.tmps) = true := by simp [Region.wanted, hgd]
  rw [if_pos hw]
  obtain ⟨v', w', hrun, r1, r2⟩ := run_append_arg_grows (P := P) w t o.type e i z 1 bytes ht hi hz hsize hby hzs (by omega) ⟨g, 0, none⟩ 0 0 [] rfl (fun j u hu => by simp at hu) ⟨b, off, none⟩ m c1 news (by rw [hr.1, Nat.mul_one])
    (fun j u hu => by
      have := hc j u hu
      unfold Addr.add
      split <;> simp_all) (by omega) (by unfold maxLen; omega) hbytes
  unfold Oper.wp
  simp [execOp, ho, resolve, invoke, builtin, hs, hx, hrun, Result.andThen]
  obtain ⟨A', c', rfl, hv⟩ := ownV_of (n := m) (vs := news) (by simpa using r1)
  exact h A' c' w' hv (below_of_grown r2 (Nat.le_refl _) (fun k hk => by cases hk))
/-- 'append(T{u}, xs...)'. -/
theorem step_spread (hgd : o.guard = none) (s x : Operand) (t : TypeId)
    (ho : o.op = .call { callee := .builtin .append, args := #[s, x], argTypes := #[t, t] })
    (e : TypeId) (i : TypeInfo) (z : Value) (bytes : Nat) (ht : P.underlying t = some (.slice e)) (hi : P.info? e = some i) (hz : i.zero = some z)
    (hsize : i.size = 1) (hby : i.bytes = bytes) (hzs : z.cells.size = 1) (hb64 : bytes ≤ 1000) (g : Nat) (u : Value) (hs : a.eval s = .slice (some ⟨g, 0, none⟩) 1 1) (hcu : w.cell? ⟨g, 0, none⟩ = some u) (hu : u.oneCell' = true) (hg : g < w.heap.size)
    (B : Nat) (A1 : Option Addr) (m c1 : Nat) (news : List Value) (hx : a.eval x = .slice A1 m c1) (hr : RV w B A1 m news) (h1 : ∀ v ∈ news, v.oneCell' = true) (hm : m ≤ 1000000000)
    (h : ∀ A' c' w', RV w' w'.heap.size A' (1 + m) (u :: news) → Below w.heap.size w w' → (∀ p, A' = some p → p.block = g ∨ w.heap.size ≤ p.block) → 1 + m ≤ c' → c' ≤ maxLen → K (a.put o.dst (.slice A' (1 + m) c')) w') :
    if Region.wanted o (yielded ops a.tmps) = true then Oper.wp P o a w K Q else E := by
  have hw : Region.wanted o (yielded ops a.tmps) = true := by simp [Region.wanted, hgd]
  rw [if_pos hw]
  rcases Nat.eq_zero_or_pos m with h0 | h0
  · subst h0
    have hnn : news = [] := List.eq_nil_of_length_eq_zero hr.1
    subst hnn
    have hrun := run_append_zero (P := P) w t o.type e i ht hi ⟨g, 0, none⟩ 1 1 A1 c1 (Nat.le_refl _)
    unfold Oper.wp
    simp [execOp, ho, resolve, invoke, builtin, hs, hx, hrun, Result.andThen]
    refine h (some ⟨g, 0, none⟩) 1 w ⟨rfl, fun _ => ⟨g, 0, rfl, hg, fun j v hv => ?_⟩⟩ (Below.refl _ _) (fun p hp => by injection hp with hp; subst hp; exact .inl rfl) (Nat.le_refl _) (by unfold maxLen; omega)
    match j, hv with
    | 0, hv => simp at hv; subst hv; exact hcu
  · obtain ⟨b, off, rfl, hb, hc⟩ := hr.2 h0
    have hbytes : (1 + m) * bytes ≤ 140737488355328 := by
      have := Nat.mul_le_mul (show 1 + m ≤ 1000000001 by omega) hb64
      omega
    obtain ⟨v', w', hrun, r1, r2⟩ := run_append_arg_grows (P := P) w t o.type e i z 1 bytes ht hi hz hsize hby hzs (by omega) ⟨g, 0, none⟩ 1 1 [u] rfl
      (fun j v hv => by
        match j, hv with
        | 0, hv => simp at hv; subst hv; simpa [Addr.add] using hcu) ⟨b, off, none⟩ m c1 news (by rw [hr.1, Nat.mul_one])
      (fun j u hu => by
        have := hc j u hu
        unfold Addr.add
        split <;> simp_all) (by omega) (by unfold maxLen; omega) hbytes
    unfold Oper.wp
    simp [execOp, ho, resolve, invoke, builtin, hs, hx, hrun, Result.andThen]
    obtain ⟨A', c', rfl, hv⟩ := ownV_of (n := 1 + m) (vs := u :: news) r1
    exact h A' c' w' (RV.more hv.rv (Nat.le_refl _)) (below_of_grown r2 (Nat.le_refl _) (fun k hk => by cases hk)) (fun p hp => .inr (hv.addr hp).1) hv.2.1 hv.2.2.1
end
/-- A store elsewhere. -/
theorem RV.farSet {w : World} {B n : Nat} {A : Option Addr} {vs : List Value} (h : RV w B A n vs) {p : Addr} (hp : ∀ a, A = some a → a.block ≠ p.block) (u : Value) : RV (w.setCell p u) B A n vs :=
  ⟨h.1, fun hn => by
    obtain ⟨b, o, e, hb, hc⟩ := h.2 hn
    exact ⟨b, o, e, hb, fun j v hv => (World.cell?_setCell_other w p _ u (fun he => by have := hp _ e; subst he; exact this rfl)).trans (hc j v hv)⟩⟩
/-- The rest of a slice: 't[1:]'. -/
theorem RV.tail {w : World} {B n c : Nat} {A : Option Addr} {v : Value} {vs : List Value} (h : RV w B A n (v :: vs)) (hc : n ≤ c) : RV w B (if c = 1 then A else A.map (·.add 1)) (n - 1) vs := by
  have hl := h.1
  rw [List.length_cons] at hl
  refine ⟨by omega, fun hn => ?_⟩
  obtain ⟨b, o, e, hb, hcl⟩ := h.2 (by omega)
  refine ⟨b, o + 1, ?_, hb, fun j u hu => ?_⟩
  · rw [if_neg (by omega), e]; rfl
  · have := hcl (j + 1) u (by simpa using hu)
    rw [show o + 1 + j = o + (j + 1) by omega]
    exact this
end Go.Proofs.YtgccpjhkgkhllaaDoor
