/-
  POWERS, PLAIN: what a receiver needs, a step, the least fixed point. No program in sight.
-/
import Derived.Test.YtajnpmnedghckaaPowA
namespace Go.Proofs.Ytajnpmnedghckaa
open Go.RowKit
set_option linter.unusedVariables false

def gn (rows : List (List Int)) (i j : Nat) : Int := (rows.getD i []).getD j 0
def pw (ps : List Int) (k : Nat) : Int := ps.getD k 0
theorem gn_of {rows : List (List Int)} {i j : Nat} {r : List Int} {x : Int} (h : rows[i]? = some r) (hx : r[j]? = some x) : gn rows i j = x := by
  unfold gn
  rw [List.getD_eq_getElem?_getD, List.getD_eq_getElem?_getD, h]
  simp [hx]
theorem pw_of {ps : List Int} {k : Nat} {x : Int} (hx : ps[k]? = some x) : pw ps k = x := by
  unfold pw
  rw [List.getD_eq_getElem?_getD, hx]; rfl
/-- The disturbing power at receiver i of the first k senders. -/
def dsum (rows : List (List Int)) (ps : List Int) (i : Nat) : Nat → Int
  | 0 => 0
  | k + 1 => dsum rows ps i k + if k = i then 0 else gn rows i k * pw ps k
def want (rows : List (List Int)) (N G : Int) (ps : List Int) (i : Nat) : Int := G * (N + dsum rows ps i ps.length)
def PowOk (rows : List (List Int)) (N G : Int) (ps : List Int) : Prop := LinksOk rows N G ∧ ps.length = rows.length ∧ ∀ k, k < ps.length → 0 ≤ pw ps k ∧ pw ps k ≤ 10000
def MeetOk (rows : List (List Int)) (N G : Int) (ps : List Int) : Prop := PowOk rows N G ps ∧ ∀ i, i < ps.length → want rows N G ps i ≤ 10 * gn rows i i * pw ps i
def needV (rows : List (List Int)) (N G : Int) (ps : List Int) (i : Nat) : Int := (want rows N G ps i + 10 * gn rows i i - 1) / (10 * gn rows i i)
def stepV (rows : List (List Int)) (N G : Int) (ps : List Int) (i : Nat) : Int := min (needV rows N G ps i) 10000
def stepL (rows : List (List Int)) (N G : Int) (ps : List Int) : List Int := (List.range ps.length).map (stepV rows N G ps)
open Classical in
noncomputable def powB (rows : List (List Int)) (N G : Int) (ps : List Int) : Bool := decide (PowOk rows N G ps)
open Classical in
noncomputable def meetB (rows : List (List Int)) (N G : Int) (ps : List Int) : Bool := decide (MeetOk rows N G ps)
open Classical in
noncomputable def stepI (rows : List (List Int)) (N G : Int) (ps : List Int) : List Int := if PowOk rows N G ps then stepL rows N G ps else []
section
variable {rows : List (List Int)} {N G : Int} {ps : List Int}
open Classical in
theorem powB_yes (h : PowOk rows N G ps) : powB rows N G ps = true := by unfold powB; exact decide_eq_true h
open Classical in
theorem powB_no (h : ¬ PowOk rows N G ps) : powB rows N G ps = false := by unfold powB; exact decide_eq_false h
open Classical in
theorem meetB_yes (h : MeetOk rows N G ps) : meetB rows N G ps = true := by unfold meetB; exact decide_eq_true h
open Classical in
theorem meetB_no (h : ¬ MeetOk rows N G ps) : meetB rows N G ps = false := by unfold meetB; exact decide_eq_false h
open Classical in
theorem meetB_iff : meetB rows N G ps = true ↔ MeetOk rows N G ps := by unfold meetB; exact decide_eq_true_iff
open Classical in
theorem stepI_yes (h : PowOk rows N G ps) : stepI rows N G ps = stepL rows N G ps := by unfold stepI; exact if_pos h
open Classical in
theorem stepI_no (h : ¬ PowOk rows N G ps) : stepI rows N G ps = [] := by unfold stepI; exact if_neg h
end

section
variable {rows : List (List Int)} {N G : Int} {ps qs : List Int} {i j k : Nat}
theorem row_at (h : LinksOk rows N G) (hi : i < rows.length) : ∃ r, rows[i]? = some r ∧ GainOk rows.length i r :=
  ⟨rows[i], List.getElem?_eq_getElem hi, h.2.2.2.2.2.2 i _ (List.getElem?_eq_getElem hi)⟩
theorem gn_bd (h : LinksOk rows N G) (hi : i < rows.length) (hj : j < rows.length) : 0 ≤ gn rows i j ∧ gn rows i j ≤ 1000 := by
  obtain ⟨r, hr, hl, _, hb⟩ := row_at h hi
  have hx : r[j]? = some (r[j]'(by omega)) := List.getElem?_eq_getElem (by omega)
  rw [gn_of hr hx]
  exact hb _ (List.getElem_mem _)
theorem gn_self (h : LinksOk rows N G) (hi : i < rows.length) : 1 ≤ gn rows i i ∧ gn rows i i ≤ 1000 := by
  have hb := gn_bd h hi hi
  obtain ⟨r, hr, hl, h0, _⟩ := row_at h hi
  have hx : r[i]? = some (r[i]'(by omega)) := List.getElem?_eq_getElem (by omega)
  have e : gn rows i i = r.getD i 0 := by rw [gn_of hr hx, List.getD_eq_getElem?_getD, hx]; rfl
  rw [← e] at h0
  omega
theorem mul_bd {a b A B : Int} (ha : 0 ≤ a) (ha' : a ≤ A) (hb : 0 ≤ b) (hb' : b ≤ B) : 0 ≤ a * b ∧ a * b ≤ A * B :=
  ⟨Int.mul_nonneg ha hb, Int.le_trans (Int.mul_le_mul_of_nonneg_right ha' hb) (Int.mul_le_mul_of_nonneg_left hb' (by omega))⟩
theorem dsum_bd (h : LinksOk rows N G) (hi : i < rows.length) (hp : ∀ k, k < rows.length → 0 ≤ pw ps k ∧ pw ps k ≤ 10000) : ∀ k, k ≤ rows.length → 0 ≤ dsum rows ps i k ∧ dsum rows ps i k ≤ k * 10000000
  | 0, _ => by simp [dsum]
  | k + 1, hk => by
    have ih := dsum_bd h hi hp k (by omega)
    have g := gn_bd h hi (show k < rows.length by omega)
    have p := hp k (by omega)
    have m := mul_bd g.1 g.2 p.1 p.2
    rw [dsum]
    split
    · omega
    · push_cast; omega
theorem want_bd (h : LinksOk rows N G) (hi : i < rows.length) (hp : ∀ k, k < rows.length → 0 ≤ pw ps k ∧ pw ps k ≤ 10000) (hl : ps.length = rows.length) : 1 ≤ want rows N G ps i ∧ want rows N G ps i ≤ 5000100000 := by
  have d := dsum_bd h hi hp ps.length (by omega)
  obtain ⟨h1, h2, h3, h4, h5, h6, _⟩ := h
  unfold want
  have hd : dsum rows ps i ps.length ≤ 50000000 := by rw [hl] at d ⊢; omega
  have a : 1 * 1 ≤ G * (N + dsum rows ps i ps.length) := Int.mul_le_mul (by omega) (by omega) (by omega) (by omega)
  have m := mul_bd (show 0 ≤ G by omega) (show G ≤ 100 by omega) (show 0 ≤ N + dsum rows ps i ps.length by omega) (show N + dsum rows ps i ps.length ≤ 50001000 by omega)
  omega
/-- Pointwise not more. -/
def Le (ps qs : List Int) : Prop := ps.length = qs.length ∧ ∀ k, k < ps.length → pw ps k ≤ pw qs k
theorem Le.refl (ps : List Int) : Le ps ps := ⟨rfl, fun _ _ => Int.le_refl _⟩
theorem Le.trans {a b c : List Int} (h : Le a b) (h' : Le b c) : Le a c := ⟨h.1.trans h'.1, fun k hk => Int.le_trans (h.2 k hk) (h'.2 k (by rw [← h.1]; exact hk))⟩
theorem Le.anti {a b : List Int} (h : Le a b) (h' : Le b a) : a = b := by
  apply List.ext_getElem h.1
  intro k hk hk'
  have e1 := h.2 k hk
  have e2 := h'.2 k hk'
  unfold pw at e1 e2
  simp only [List.getD_eq_getElem?_getD, List.getElem?_eq_getElem hk, List.getElem?_eq_getElem hk', Option.getD_some] at e1 e2
  omega
theorem dsum_mono (h : LinksOk rows N G) (hi : i < rows.length) (hle : ∀ k, k < rows.length → pw ps k ≤ pw qs k) : ∀ k, k ≤ rows.length → dsum rows ps i k ≤ dsum rows qs i k
  | 0, _ => Int.le_refl _
  | k + 1, hk => by
    have ih := dsum_mono h hi hle k (by omega)
    have g := gn_bd h hi (show k < rows.length by omega)
    have m := Int.mul_le_mul_of_nonneg_left (hle k (by omega)) g.1
    rw [dsum, dsum]
    split <;> omega
theorem want_mono (h : LinksOk rows N G) (hi : i < rows.length) (hl : ps.length = rows.length) (hle : Le ps qs) : want rows N G ps i ≤ want rows N G qs i := by
  unfold want
  have d := dsum_mono h hi (fun k hk => hle.2 k (by omega)) ps.length (by omega)
  rw [← hle.1]
  exact Int.mul_le_mul_of_nonneg_left (by omega) (by have := h.2.2.2.2.1; omega)
theorem need_le (u v p : Int) (hu : 0 < u) : (v + u - 1) / u ≤ p ↔ v ≤ u * p := by
  rw [← Int.lt_add_one_iff, Int.ediv_lt_iff_lt_mul hu]
  have : (p + 1) * u = u * p + u := by rw [Int.add_mul, Int.mul_comm p u]; omega
  omega
theorem stepL_len : (stepL rows N G ps).length = ps.length := by simp [stepL]
theorem pw_step (hk : k < ps.length) : pw (stepL rows N G ps) k = stepV rows N G ps k := by
  unfold pw stepL
  simp [List.getD_eq_getElem?_getD, hk]
theorem need_mono (h : LinksOk rows N G) (hi : i < rows.length) (hl : ps.length = rows.length) (hle : Le ps qs) : needV rows N G ps i ≤ needV rows N G qs i := by
  have g := gn_self h hi
  have m := want_mono h hi hl hle
  unfold needV
  exact Int.ediv_le_ediv (by omega) (by omega)
theorem step_mono (h : LinksOk rows N G) (hl : ps.length = rows.length) (hle : Le ps qs) : Le (stepL rows N G ps) (stepL rows N G qs) := by
  refine ⟨by rw [stepL_len, stepL_len]; exact hle.1, fun k hk => ?_⟩
  rw [stepL_len] at hk
  rw [pw_step hk, pw_step (by rw [← hle.1]; exact hk)]
  have := need_mono h (show k < rows.length by omega) hl hle
  unfold stepV
  omega
theorem stepV_bd (h : PowOk rows N G ps) (hi : i < ps.length) : 1 ≤ stepV rows N G ps i ∧ stepV rows N G ps i ≤ 10000 := by
  have g := gn_self h.1 (show i < rows.length by rw [← h.2.1]; exact hi)
  have wb := want_bd h.1 (show i < rows.length by rw [← h.2.1]; exact hi) (fun k hk => h.2.2 k (by rw [h.2.1]; exact hk)) h.2.1
  have : ¬ needV rows N G ps i ≤ 0 := by
    unfold needV
    rw [need_le _ _ _ (by omega)]
    omega
  unfold stepV
  omega
theorem step_ok (h : PowOk rows N G ps) : PowOk rows N G (stepL rows N G ps) := by
  refine ⟨h.1, by rw [stepL_len]; exact h.2.1, fun k hk => ?_⟩
  rw [stepL_len] at hk
  rw [pw_step hk]
  have := stepV_bd h hk
  omega
/-- Powers that suffice need not be increased. -/
theorem meet_step (h : MeetOk rows N G ps) : Le (stepL rows N G ps) ps := by
  refine ⟨stepL_len, fun k hk => ?_⟩
  rw [stepL_len] at hk
  rw [pw_step hk]
  have g := gn_self h.1.1 (show k < rows.length by rw [← h.1.2.1]; exact hk)
  have : needV rows N G ps k ≤ pw ps k := by
    unfold needV
    rw [need_le _ _ _ (by omega)]
    exact h.2 k hk
  unfold stepV
  omega
/-- A fixed point of the step that needs no more than the most reaches the target. -/
theorem fix_meet (h : PowOk rows N G ps) (hf : stepL rows N G ps = ps) (hn : ∀ k, k < ps.length → needV rows N G ps k ≤ 10000) : MeetOk rows N G ps := by
  refine ⟨h, fun k hk => ?_⟩
  have g := gn_self h.1 (show k < rows.length by rw [← h.2.1]; exact hk)
  have e := pw_step (rows := rows) (N := N) (G := G) hk
  rw [hf] at e
  have hn' := hn k hk
  have : needV rows N G ps k ≤ pw ps k := by rw [e]; unfold stepV; omega
  unfold needV at this
  rwa [need_le _ _ _ (by omega)] at this
/-- The powers that the k-th step gives, from zeros. -/
def itL (rows : List (List Int)) (N G : Int) : Nat → List Int
  | 0 => List.replicate rows.length 0
  | k + 1 => stepL rows N G (itL rows N G k)
theorem pw_zero (n : Nat) : pw (List.replicate n 0) k = 0 := by
  unfold pw
  rw [List.getD_eq_getElem?_getD, List.getElem?_replicate]
  split <;> rfl
theorem it_ok (h : LinksOk rows N G) : ∀ k, PowOk rows N G (itL rows N G k)
  | 0 => ⟨h, by simp [itL], fun k _ => by rw [itL, pw_zero]; omega⟩
  | k + 1 => step_ok (it_ok h k)
theorem it_len (h : LinksOk rows N G) (k : Nat) : (itL rows N G k).length = rows.length := (it_ok h k).2.1
theorem zero_le_ok (h : PowOk rows N G ps) : Le (itL rows N G 0) ps := by
  refine ⟨by simp [itL, h.2.1], fun k hk => ?_⟩
  rw [itL, pw_zero]
  rw [itL, List.length_replicate] at hk
  exact (h.2.2 k (by rw [h.2.1]; exact hk)).1
theorem it_up (h : LinksOk rows N G) : ∀ k, Le (itL rows N G k) (itL rows N G (k + 1))
  | 0 => zero_le_ok (it_ok h 1)
  | k + 1 => step_mono h (it_len h k) (it_up h k)
theorem it_mono (h : LinksOk rows N G) {a : Nat} : ∀ d, Le (itL rows N G a) (itL rows N G (a + d))
  | 0 => Le.refl _
  | d + 1 => (it_mono h d).trans (it_up h (a + d))
theorem it_fix (hf : stepL rows N G (itL rows N G k) = itL rows N G k) : ∀ d, itL rows N G (k + d) = itL rows N G k
  | 0 => rfl
  | d + 1 => by show stepL rows N G (itL rows N G (k + d)) = _; rw [it_fix hf d, hf]
theorem it_uniq {a b : Nat} (ha : stepL rows N G (itL rows N G a) = itL rows N G a) (hb : stepL rows N G (itL rows N G b) = itL rows N G b) : itL rows N G a = itL rows N G b := by
  rcases Nat.le_total a b with h | h
  · obtain ⟨d, rfl⟩ := Nat.exists_eq_add_of_le h
    exact (it_fix ha d).symm
  · obtain ⟨d, rfl⟩ := Nat.exists_eq_add_of_le h
    exact it_fix hb d
open Classical in
/-- The least powers, where some step changes nothing. -/
noncomputable def leastL (rows : List (List Int)) (N G : Int) : List Int :=
  if h : ∃ k, LinksOk rows N G ∧ stepL rows N G (itL rows N G k) = itL rows N G k then itL rows N G (Classical.choose h) else []
theorem leastL_eq (hk : LinksOk rows N G) (h : stepL rows N G (itL rows N G k) = itL rows N G k) : leastL rows N G = itL rows N G k := by
  have hx : ∃ k, LinksOk rows N G ∧ stepL rows N G (itL rows N G k) = itL rows N G k := ⟨k, hk, h⟩
  unfold leastL
  rw [dif_pos hx]
  exact it_uniq (Classical.choose_spec hx).2 h
theorem leastL_no (hk : ¬ LinksOk rows N G) : leastL rows N G = [] := by
  unfold leastL
  exact dif_neg (fun ⟨_, h, _⟩ => hk h)
/-- The sum of powers, that every step that changes something raises. -/
def tot (ps : List Int) : Nat → Int
  | 0 => 0
  | k + 1 => tot ps k + pw ps k
theorem tot_bd (hp : ∀ k, k < ps.length → 0 ≤ pw ps k ∧ pw ps k ≤ 10000) : ∀ k, k ≤ ps.length → 0 ≤ tot ps k ∧ tot ps k ≤ k * 10000
  | 0, _ => by simp [tot]
  | k + 1, hk => by have := tot_bd hp k (by omega); have := hp k (by omega); rw [tot]; push_cast; omega
theorem tot_le (hle : ∀ k, k < qs.length → pw ps k ≤ pw qs k) : ∀ k, k ≤ qs.length → tot ps k ≤ tot qs k
  | 0, _ => Int.le_refl _
  | k + 1, hk => by have := tot_le hle k (by omega); have := hle k (by omega); rw [tot, tot]; omega
theorem tot_lt (hle : ∀ k, k < qs.length → pw ps k ≤ pw qs k) {a : Nat} (hlt : pw ps a < pw qs a) : ∀ k, k ≤ qs.length → a < k → tot ps k < tot qs k
  | 0, _, h => by omega
  | k + 1, hk, h => by
    rw [tot, tot]
    have := hle k (by omega)
    by_cases hak : a = k
    · subst hak; have := tot_le hle a (by omega); omega
    · have := tot_lt hle hlt k (by omega) (by omega); omega
theorem tot_step (hle : Le ps qs) (hne : ps ≠ qs) : tot ps ps.length < tot qs qs.length := by
  have : ∃ a, a < qs.length ∧ pw ps a < pw qs a := by
    refine Classical.byContradiction fun hn => hne (hle.anti ⟨hle.1.symm, fun k hk => ?_⟩)
    exact Int.not_lt.1 fun h => hn ⟨k, hk, h⟩
  obtain ⟨a, ha, hlt⟩ := this
  rw [hle.1]
  exact tot_lt (fun k hk => hle.2 k (by rw [hle.1]; exact hk)) hlt _ (Nat.le_refl _) ha
theorem tot_it (h : LinksOk rows N G) (k : Nat) : 0 ≤ tot (itL rows N G k) (itL rows N G k).length ∧ tot (itL rows N G k) (itL rows N G k).length ≤ 50000 := by
  have o := it_ok h k
  have t := tot_bd o.2.2 _ (Nat.le_refl _)
  have : (itL rows N G k).length ≤ 5 := by rw [it_len h]; exact h.2.1
  omega
theorem it_exists (h : LinksOk rows N G) : ∃ k, stepL rows N G (itL rows N G k) = itL rows N G k := by
  refine Classical.byContradiction fun hn => ?_
  have hall : ∀ k : Nat, (k : Int) ≤ tot (itL rows N G k) (itL rows N G k).length := by
    intro k
    induction k with
    | zero => exact (tot_it h 0).1
    | succ k ih =>
      have := tot_step (it_up h k) (fun e => hn ⟨k, e.symm⟩)
      push_cast; omega
  have h1 := hall 50001
  have h2 := (tot_it h 50001).2
  omega
/-- What the least powers are: an iterate that a step does not change. -/
theorem least_ok (h : LinksOk rows N G) : PowOk rows N G (leastL rows N G) ∧ stepL rows N G (leastL rows N G) = leastL rows N G := by
  obtain ⟨k, hk⟩ := it_exists h
  rw [leastL_eq h hk]
  exact ⟨it_ok h k, hk⟩
theorem it_least (h : MeetOk rows N G qs) : ∀ k, Le (itL rows N G k) qs
  | 0 => zero_le_ok h.1
  | k + 1 => (step_mono h.1.1 (it_len h.1.1 k) (it_least h k)).trans (meet_step h)
theorem least_le (h : MeetOk rows N G qs) : Le (leastL rows N G) qs := by
  obtain ⟨k, hk⟩ := it_exists h.1.1
  rw [leastL_eq h.1.1 hk]
  exact it_least h k
theorem least_meet (h : MeetOk rows N G qs) : MeetOk rows N G (leastL rows N G) := by
  obtain ⟨o, f⟩ := least_ok h.1.1
  refine fix_meet o f fun k hk => ?_
  have hle := least_le h
  have hm := need_mono h.1.1 (show k < rows.length by rw [← o.2.1]; exact hk) o.2.1 hle
  have g := gn_self h.1.1 (show k < rows.length by rw [← o.2.1]; exact hk)
  have hq : needV rows N G qs k ≤ pw qs k := by
    unfold needV
    rw [need_le _ _ _ (by omega)]
    exact h.2 k (by rw [← hle.1]; exact hk)
  have := (h.1.2.2 k (by rw [← hle.1]; exact hk)).2
  omega
theorem least_pos (h : LinksOk rows N G) (hk : k < (leastL rows N G).length) : 1 ≤ pw (leastL rows N G) k := by
  obtain ⟨o, f⟩ := least_ok h
  have := (stepV_bd o hk).1
  rw [← pw_step hk, f] at this
  exact this
end
/-- A lower target, or less noise, is reached by the same powers. -/
theorem meet_less {rows : List (List Int)} {N G N' G' : Int} {ps : List Int} (h : MeetOk rows N G ps) (hN : 1 ≤ N') (hG : 1 ≤ G') (hN' : N' ≤ N) (hG' : G' ≤ G) : MeetOk rows N' G' ps := by
  obtain ⟨⟨hl, h2, h3⟩, h4⟩ := h
  have hl' : LinksOk rows N' G' := ⟨hl.1, hl.2.1, hN, by have := hl.2.2.2.1; omega, hG, by have := hl.2.2.2.2.2.1; omega, hl.2.2.2.2.2.2⟩
  refine ⟨⟨hl', h2, h3⟩, fun i hi => Int.le_trans ?_ (h4 i hi)⟩
  have d := dsum_bd hl (show i < rows.length by omega) (fun k hk => h3 k (by omega)) ps.length (by omega)
  unfold want
  refine Int.le_trans (Int.mul_le_mul_of_nonneg_left (show N' + dsum rows ps i ps.length ≤ N + dsum rows ps i ps.length by omega) (by omega)) (Int.mul_le_mul_of_nonneg_right hG' (by have := hl.2.2.1; omega))
end Go.Proofs.Ytajnpmnedghckaa
