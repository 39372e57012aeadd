/-
  markBoolSS, walked.
-/
import Derived.Test.YtgccpjhkgkhllaaDoorTabT
namespace Go.Proofs.YtgccpjhkgkhllaaDoor
open Go.RowKit
set_option linter.unusedVariables false

/-- The rows, marked with k, k+1, .. -/
def marksRT : Int → List (List Bool) → List (List Bool)
  | _, [] => []
  | k, r :: rs => marksT k r.length :: marksRT (k + r.length) rs
def lenRT : List (List Bool) → Int
  | [] => 0
  | r :: rs => r.length + lenRT rs
theorem lenRT_nn : ∀ rows : List (List Bool), 0 ≤ lenRT rows := by
  intro rows
  induction rows with
  | nil => exact Int.le_refl _
  | cons r rs ih => rw [lenRT]; omega
theorem lenRT_snoc (rs : List (List Bool)) (r : List Bool) : lenRT (rs ++ [r]) = lenRT rs + r.length := by
  induction rs with
  | nil => simp [lenRT]
  | cons x rs ih => simp only [List.cons_append, lenRT, ih]; omega
theorem lenRT_take (rows : List (List Bool)) (k : Nat) : lenRT (rows.take k) ≤ lenRT rows := by
  have h : lenRT (rows.take k ++ rows.drop k) = lenRT (rows.take k) + lenRT (rows.drop k) := by
    generalize rows.drop k = b
    induction rows.take k with
    | nil => simp [lenRT]
    | cons x rs ih => simp only [List.cons_append, lenRT, ih]; omega
  rw [List.take_append_drop] at h
  have := lenRT_nn (rows.drop k)
  omega
theorem lenRT_sum : ∀ rows : List (List Bool), lenRT rows = ((rows.map List.length).sum : Nat) := by
  intro rows
  induction rows with
  | nil => rfl
  | cons r rs ih => simp only [lenRT, List.map_cons, List.sum_cons, ih]; omega
theorem marksRT_get : ∀ (rows : List (List Bool)) (k : Int) (j : Nat) (r : List Bool), rows[j]? = some r → (marksRT k rows)[j]? = some (marksT (k + lenRT (rows.take j)) r.length) := by
  intro rows
  induction rows with
  | nil => intro k j r h; simp at h
  | cons x rs ih =>
    intro k j r h
    cases j with
    | zero => simp at h; subst h; simp [marksRT, lenRT]
    | succ j =>
      simp at h
      rw [marksRT, List.getElem?_cons_succ, ih _ _ _ h, List.take_succ_cons, lenRT]
      congr 2
      omega
theorem marksRT_len : ∀ (rows : List (List Bool)) (k : Int), (marksRT k rows).length = rows.length := by
  intro rows
  induction rows with
  | nil => intro k; rfl
  | cons x rs ih => intro k; simp [marksRT, ih]
theorem mix_setT {α : Type} (ms rows : List α) (k : Nat) (m : α) (hm : ms[k]? = some m) (hl : ms.length = rows.length) :
    (ms.take k ++ rows.drop k).set k m = ms.take (k + 1) ++ rows.drop (k + 1) := by
  have hk := (List.getElem?_eq_some_iff.1 hm).1
  have h1 : (ms.take k).length = k := by rw [List.length_take]; omega
  rw [List.set_append_right _ _ (by omega), h1, Nat.sub_self, List.drop_eq_getElem_cons (by omega), List.set_cons_zero, take_snoc _ _ _ hm, List.append_assoc]
  rfl
set_option maxHeartbeats 800000 in
theorem markBoolSS_any (A : Option Addr) (n c lo hi : Nat) (rows : List (List Bool)) (k0 : Int) (w : World) (h : OwnTT w 26 4 lo hi A n c rows) (hn : n ≤ 1048576) (hr : lenRT rows ≤ 1048576) (hk0 : 0 ≤ k0) (hk1 : k0 ≤ 1000000000) :
    Calls Tryd.prog 22 #[.slice A n c, .int .i64 k0] w fun e w' => e = .returned (.int .i64 (k0 + lenRT rows)) ∧
      OwnTT w' 26 4 lo hi A n c (marksRT k0 rows) ∧ Only lo hi w w' ∧ w'.heap.size = w.heap.size := by
  have HL := hid (OwnTT.len h)
  obtain ⟨T, HT⟩ : ∃ T, Hid (T = lenRT rows) := ⟨_, hid rfl⟩
  have hT : T ≤ 1048576 := by rw [HT.out]; exact hr
  clear hr
  go_enter Tryd.func22, Tryd.ntmps22
  go_wp2
  go_loopw [1, 5] (fun kk i wr => ∃ (j : Nat) (S : Int), j ≤ n ∧ i = .int .i64 j ∧ kk = .int .i64 (k0 + S) ∧ 0 ≤ S ∧ S ≤ 1048576 ∧ Hid (S = lenRT (rows.take j)) ∧ OwnTT wr 26 4 lo hi A n c ((marksRT k0 rows).take j ++ rows.drop j) ∧ Only lo hi w wr ∧ Hid (wr.heap.size = w.heap.size))
    (fun _ i _ => n - (intOf i).toNat)
  case atStart => exact ⟨0, 0, Nat.zero_le _, rfl, by simp, Int.le_refl _, by omega, hid rfl, by simpa using h, Only.refl _ _ _, hid rfl⟩
  case round =>
    obtain ⟨j, S, hj, rfl, rfl, S0, S1, HSS, hown, honly, HS⟩ := hrel
    by_cases hlt : j < n
    · obtain ⟨g, A', n', c', vs, rfl, g1, g2, hv, hcl, hro, hne, hset⟩ := OwnVV.row hown hlt
      have hjr : j < rows.length := by rw [HL.out]; exact hlt
      have hrow : rows[j]? = some rows[j] := List.getElem?_eq_getElem hjr
      have hvs : vs = rows[j].map Value.bool := by
        rw [List.getElem?_map, List.getElem?_append_right (by rw [List.length_take]; omega), List.length_take, marksRT_len, Nat.min_eq_left (by omega), Nat.sub_self, List.getElem?_drop, Nat.add_zero, hrow] at hv
        simpa using hv.symm
      subst hvs
      obtain ⟨r, Hr⟩ : ∃ r, Hid (r = rows[j]) := ⟨_, hid rfl⟩
      rw [← Hr.out] at hrow hro hv
      have hrl : r.length = n' := by have := hro.len; simpa using this
      have htake : lenRT (rows.take (j + 1)) = S + n' := by rw [take_snoc _ _ _ hrow, lenRT_snoc, hrl, HSS.out]
      have hS2 : S + n' ≤ 1048576 := by have := lenRT_take rows (j + 1); have := HT.out; omega
      have hmk := marksRT_get rows k0 j r hrow
      rw [← HSS.out, hrl] at hmk
      have HF := hid (And.intro htake (And.intro hmk (And.intro hset honly)))
      clear htake hmk hset honly hrow hrl hv
      -- the row's own block
      have hro' : ∃ lo' hi', OwnV wr 4 lo' hi' A' n' c' (r.map Value.bool) ∧ lo ≤ lo' ∧ hi' ≤ hi ∧ ∀ q, lo' ≤ q → q < hi' → ∃ a, A' = some a ∧ a.block = q := by
        rcases hro with ⟨q1, q2, q3, q4⟩
        rcases q4 with ⟨e1, e2, e3⟩ | ⟨g', cs, e1, e2, e3, e4, e5, e6⟩
        · exact ⟨lo, lo, ⟨q1, q2, q3, .inl ⟨e1, e2, e3⟩⟩, Nat.le_refl _, by omega, fun q h1 h2 => by omega⟩
        · exact ⟨g', g' + 1, ⟨q1, q2, q3, .inr ⟨g', cs, e1, Nat.le_refl _, Nat.lt_succ_self _, e4, e5, e6⟩⟩, e2, by omega, fun q h1 h2 => ⟨_, e1, by simp; omega⟩⟩
      obtain ⟨lo', hi', hr2, hlo', hhi', hq⟩ := hro'
      have hcon := markBoolS_any A' n' c' lo' hi' r (k0 + S) wr hr2 (by omega) (by omega) (by omega)
      have HC := hid hcon
      have HQ := hid hq
      clear hcon hq hr2 hro hown
      go_wp2_with fail
      refine HC.out.mono ?_
      rintro e w1 ⟨rfl, ho1, hon1, hs1⟩
      have h2 := HF.out.2.2.1 w1 ((marksT (k0 + S) n').map Value.bool) (by omega) (fun q hq1 hq2 => hon1.block q hq1 (fun ⟨u1, u2⟩ => by
        obtain ⟨a, ha, hab⟩ := HQ.out q u1 u2
        exact hq2 a ha hab)) (ho1.more hlo' hhi')
      have hon2 : Only lo hi w w1 := HF.out.2.2.2.trans ⟨hon1.os, hon1.tape, hon1.output, hon1.size, fun q hq1 hq2 => hon1.block q hq1 (by omega)⟩
      have H2 := hid (And.intro h2 hon2)
      have H3 := hid hs1
      clear h2 hon2 hs1 ho1 hon1
      go_wp2
      go_roundw
      case rel => exact ⟨j + 1, S + n', by omega, by go_num, by go_num, by omega, by omega, hid HF.out.1.symm, by
        have h2 := H2.out.1
        unfold OwnTT
        rw [← List.map_set, mix_setT _ _ _ _ HF.out.2.1 (marksRT_len rows k0)] at h2
        exact h2, H2.out.2, hid (by rw [H3.out, HS.out])⟩
      case measure => simp [intOf]; omega
    · have e : j = n := by omega
      subst e
      clear hlt
      have hST : S = T := by rw [HSS.out, HT.out, List.take_of_length_le (by rw [HL.out]; omega)]
      have HST := hid hST
      have HO := hid (And.intro hown honly)
      clear hST hown honly
      go_wp2
      go_ret
      have h3 := HO.out.1
      rw [List.take_of_length_le (by rw [marksRT_len, HL.out]; omega), List.drop_eq_nil_of_le (by rw [HL.out]; omega), List.append_nil] at h3
      exact ⟨by rw [← HT.out, ← HST.out]; rfl, h3, HO.out.2, HS.out⟩
end Go.Proofs.YtgccpjhkgkhllaaDoor
