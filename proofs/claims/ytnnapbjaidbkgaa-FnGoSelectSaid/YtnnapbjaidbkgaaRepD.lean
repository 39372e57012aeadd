/-
  THE ROUNDS OF A SENDER over any receiver: what repeatLost computes; going back and selective repetition are two of them.
-/
import Derived.Test.YtnnapbjaidbkgaaRepB
namespace Go.Proofs.Ytnnapbjaidbkgaa
open Go.RowKit
set_option linter.unusedVariables false

section
variable {S : Type} (acc : S → Nat → Bool) (step : S → Nat → S) (lost : List Bool)
def gF : List Nat → S → List Int → S × List Int
  | [], d, s => (d, s)
  | m :: ms, d, s => gF ms (if lostB lost s.length = true then d else step d m) (s ++ [(m : Int)])
def toSend (n win : Nat) (b : Nat) (d : S) : List Nat := (List.range' b (min (b + win) n - b)).filter fun j => !acc d j
def gO (n win : Nat) : Nat → Nat → S → List Int → Option (List Int)
  | 0, b, _, s => if b < n then none else some s
  | f + 1, b, d, s => if b < n then (if 300 ≤ s.length then none else
      gO n win f (firstN n (acc (gF step lost (toSend acc n win b d) d s).1) n b) (gF step lost (toSend acc n win b d) d s).1 (gF step lost (toSend acc n win b d) d s).2) else some s
theorem gF_len : ∀ (ms : List Nat) (d : S) (s : List Int), (gF step lost ms d s).2.length = s.length + ms.length := by
  intro ms
  induction ms with
  | nil => intro d s; rfl
  | cons m ms ih => intro d s; rw [gF, ih]; simp; omega
theorem toSend_len (n win b : Nat) (d : S) : (toSend acc n win b d).length ≤ win := by
  unfold toSend
  have := List.length_filter_le (fun j => !acc d j) (List.range' b (min (b + win) n - b))
  rw [List.length_range'] at this
  omega
theorem toSend_mem {n win b : Nat} {d : S} {m : Nat} (h : m ∈ toSend acc n win b d) : b ≤ m ∧ m < n := by
  unfold toSend at h
  have := (List.mem_filter.1 h).1
  rw [List.mem_range'_1] at this
  omega
theorem toSend_pos {n win b : Nat} {d : S} (hb : b < n) (hw : 1 ≤ win) (hd : acc d b = false) : 1 ≤ (toSend acc n win b d).length := by
  have : b ∈ toSend acc n win b d := by
    unfold toSend
    rw [List.mem_filter, List.mem_range'_1]
    exact ⟨by omega, by simp [hd]⟩
  exact List.length_pos_of_mem this
end
theorem firstN_mid (n : Nat) (d : Nat → Bool) : ∀ (f b : Nat), b ≤ n → n ≤ f + b → b ≤ firstN n d f b ∧ firstN n d f b ≤ n ∧ (∀ j, b ≤ j → j < firstN n d f b → d j = true) ∧ (firstN n d f b < n → d (firstN n d f b) = false) := by
  intro f
  induction f with
  | zero => intro b h1 h2; rw [firstN]; exact ⟨Nat.le_refl _, h1, fun j h3 h4 => by omega, fun h => by omega⟩
  | succ f ih =>
    intro b h1 h2
    rw [firstN]
    split
    · rename_i h
      obtain ⟨a, b', c, e⟩ := ih (b + 1) (by omega) (by omega)
      refine ⟨by omega, b', fun j hj1 hj2 => ?_, e⟩
      by_cases hjb : j = b
      · subst hjb; exact h.2
      · exact c j (by omega) hj2
    · rename_i h
      refine ⟨Nat.le_refl _, h1, fun j h3 h4 => by omega, fun hb => ?_⟩
      cases hd : d b
      · rfl
      · exact absurd ⟨hb, hd⟩ h
theorem firstN_lt (n nx b : Nat) (h1 : b ≤ nx) (h2 : nx ≤ n) : firstN n (fun j => decide (j < nx)) n b = nx := by
  obtain ⟨a, b', c, e⟩ := firstN_mid n (fun j => decide (j < nx)) n b (by omega) (by omega)
  by_cases hlt : firstN n (fun j => decide (j < nx)) n b < n
  · have := e hlt
    simp at this
    by_cases hle : firstN n (fun j => decide (j < nx)) n b ≤ nx
    · omega
    · have := c nx h1 (by omega)
      simp at this
  · by_cases hle : nx < n
    · have := c nx h1 (by omega)
      simp at this
    · omega
/-- The receiver that accepts in order. -/
def accIn (nx m : Nat) : Bool := decide (m < nx)
def stepIn (nx m : Nat) : Nat := if nx = m then m + 1 else nx
def accAny (d : Nat → Bool) (m : Nat) : Bool := d m
def stepAny (d : Nat → Bool) (m : Nat) : Nat → Bool := updB d m true
theorem gF_in (lost : List Bool) : ∀ (m k nx : Nat) (s : List Int), gF stepIn lost (List.range' k m) nx s = gbR lost m k nx s := by
  intro m
  induction m with
  | zero => intro k nx s; rfl
  | succ m ih =>
    intro k nx s
    rw [List.range'_succ, gF, gbR, ih]
    congr 1
    unfold stepIn
    cases lostB lost s.length <;> simp
theorem toSend_in (n win b : Nat) : toSend accIn n win b b = List.range' b (min (b + win) n - b) := by
  unfold toSend accIn
  rw [List.filter_eq_self]
  intro j hj
  rw [List.mem_range'_1] at hj
  simp
  omega
theorem gO_in (n win : Nat) (lost : List Bool) : ∀ (f b : Nat) (s : List Int), gO accIn stepIn lost n win f b b s = gbO n win lost f b s := by
  intro f
  induction f with
  | zero => intro b s; rfl
  | succ f ih =>
    intro b s
    rw [gO, gbO]
    by_cases hb : b < n
    · rw [if_pos hb, if_pos hb, toSend_in, gF_in]
      have := gbR_next lost (min (b + win) n - b) b b s (Nat.le_refl _)
      have e : firstN n (accIn (gbR lost (min (b + win) n - b) b b s).1) n b = (gbR lost (min (b + win) n - b) b b s).1 := firstN_lt n _ b (by omega) (by omega)
      rw [e, ih]
    · rw [if_neg hb, if_neg hb]
theorem gF_any (lost : List Bool) : ∀ (ms : List Nat) (d : Nat → Bool) (s : List Int), gF stepAny lost ms d s = sfold lost ms d s := by
  intro ms
  induction ms with
  | nil => intro d s; rfl
  | cons m ms ih => intro d s; rw [gF, sfold, ih]; rfl
theorem gO_any (n win : Nat) (lost : List Bool) : ∀ (f b : Nat) (d : Nat → Bool) (s : List Int), gO accAny stepAny lost n win f b d s = srO n win lost f b d s := by
  intro f
  induction f with
  | zero => intro b d s; rfl
  | succ f ih =>
    intro b d s
    rw [gO, srO]
    have e : gF stepAny lost (toSend accAny n win b d) d s = srR lost (min (b + win) n - b) b d s := by
      rw [gF_any, srR_fold lost (min (b + win) n - b) b d d s (fun j _ => rfl)]
      rfl
    rw [e, ih]
    rfl
theorem firstN_false (n : Nat) : ∀ f, firstN n (fun _ => false) f 0 = 0 := by
  intro f
  cases f <;> simp [firstN]
end Go.Proofs.Ytnnapbjaidbkgaa
