/-
  THE PLAIN MODEL AND THE PLAIN LAWS of going back and of selective repetition.
-/
import Derived.Test.YtnnapbjaidbkgaaRepA
namespace Go.Proofs.Ytnnapbjaidbkgaa
open Go.RowKit
set_option linter.unusedVariables false

/-- A round of going back: messages k, k+1, .., m of them; nx is what the receiver waits for. -/
def gbR (lost : List Bool) : Nat → Nat → Nat → List Int → Nat × List Int
  | 0, _, nx, s => (nx, s)
  | m + 1, k, nx, s => gbR lost m (k + 1) (if lostB lost s.length = false ∧ nx = k then k + 1 else nx) (s ++ [(k : Int)])
def gbO (n win : Nat) (lost : List Bool) : Nat → Nat → List Int → Option (List Int)
  | 0, b, s => if b < n then none else some s
  | f + 1, b, s => if b < n then (if 300 ≤ s.length then none else gbO n win lost f (gbR lost (min (b + win) n - b) b b s).1 (gbR lost (min (b + win) n - b) b b s).2) else some s
def goOut : Option (List Int) → List Int × Bool
  | some s => (s, true)
  | none => ([], false)
def goBack (n win : Int) (lost : List Bool) : List Int × Bool := if 0 ≤ n ∧ n ≤ 30 ∧ 1 ≤ win ∧ win ≤ 8 then goOut (gbO n.toNat win.toNat lost 301 0 []) else ([], false)
/-- A round of selective repetition; d says which messages are accepted. -/
def updB (d : Nat → Bool) (k : Nat) (v : Bool) : Nat → Bool := fun j => if j = k then v else d j
def srR (lost : List Bool) : Nat → Nat → (Nat → Bool) → List Int → (Nat → Bool) × List Int
  | 0, _, d, s => (d, s)
  | m + 1, k, d, s => if d k = true then srR lost m (k + 1) d s else srR lost m (k + 1) (updB d k (!lostB lost s.length)) (s ++ [(k : Int)])
/-- The first message from b on that is not accepted. -/
def firstN (n : Nat) (d : Nat → Bool) : Nat → Nat → Nat
  | 0, b => b
  | f + 1, b => if b < n ∧ d b = true then firstN n d f (b + 1) else b
def srO (n win : Nat) (lost : List Bool) : Nat → Nat → (Nat → Bool) → List Int → Option (List Int)
  | 0, b, _, s => if b < n then none else some s
  | f + 1, b, d, s => if b < n then (if 300 ≤ s.length then none else
      srO n win lost f (firstN n (srR lost (min (b + win) n - b) b d s).1 n b) (srR lost (min (b + win) n - b) b d s).1 (srR lost (min (b + win) n - b) b d s).2) else some s
def selRep (n win : Int) (lost : List Bool) : List Int × Bool := if 0 ≤ n ∧ n ≤ 30 ∧ 1 ≤ win ∧ win ≤ 8 then goOut (srO n.toNat win.toNat lost 301 0 (fun _ => false) []) else ([], false)

section
variable (lost : List Bool)
theorem gbR_list : ∀ (m k nx : Nat) (s : List Int), (gbR lost m k nx s).2 = s ++ (List.range' k m).map Int.ofNat := by
  intro m
  induction m with
  | zero => intro k nx s; simp [gbR]
  | succ m ih => intro k nx s; rw [gbR, ih, List.range'_succ]; simp
theorem gbR_len (m k nx : Nat) (s : List Int) : (gbR lost m k nx s).2.length = s.length + m := by rw [gbR_list]; simp
theorem gbR_next : ∀ (m k nx : Nat) (s : List Int), nx ≤ k → nx ≤ (gbR lost m k nx s).1 ∧ (gbR lost m k nx s).1 ≤ k + m := by
  intro m
  induction m with
  | zero => intro k nx s h; simp [gbR]; omega
  | succ m ih =>
    intro k nx s h
    rw [gbR]
    split
    · have := ih (k + 1) (k + 1) (s ++ [(k : Int)]) (Nat.le_refl _); omega
    · have := ih (k + 1) nx (s ++ [(k : Int)]) (by omega); omega
theorem gbR_clean : ∀ (m k : Nat) (s : List Int), (gbR [] m k k s).1 = k + m := by
  intro m
  induction m with
  | zero => intro k s; simp [gbR]
  | succ m ih =>
    intro k s
    rw [gbR, if_pos ⟨by simp [lostB], rfl⟩, ih]
    omega
/-- What holds of the numbers sent while b messages are accepted. -/
def GbInv (n b : Nat) (s : List Int) : Prop := (∀ x ∈ s, 0 ≤ x ∧ x < (n : Int)) ∧ (∀ j, j < b → (j : Int) ∈ s) ∧ s.length ≤ 308 ∧ b ≤ n ∧ (b = n → 0 < n → s.getLast? = some ((n : Int) - 1))
theorem gbR_inv (n win b : Nat) (s : List Int) (hb : b < n) (hw : 1 ≤ win) (hw8 : win ≤ 8) (hs : s.length < 300) (h : GbInv n b s) :
    GbInv n (gbR lost (min (b + win) n - b) b b s).1 (gbR lost (min (b + win) n - b) b b s).2 ∧ s.length + 1 ≤ (gbR lost (min (b + win) n - b) b b s).2.length := by
  obtain ⟨h1, h2, h3, h4, h5⟩ := h
  have hn := gbR_next lost (min (b + win) n - b) b b s (Nat.le_refl _)
  have hl := gbR_len lost (min (b + win) n - b) b b s
  have hL := gbR_list lost (min (b + win) n - b) b b s
  refine ⟨⟨?_, ?_, by omega, by omega, ?_⟩, by omega⟩
  · intro x hx
    rw [hL, List.mem_append] at hx
    rcases hx with hx | hx
    · exact h1 x hx
    · rw [List.mem_map] at hx
      obtain ⟨y, hy, rfl⟩ := hx
      rw [List.mem_range'_1] at hy
      simp only [Int.ofNat_eq_natCast]
      omega
  · intro j hj
    rw [hL, List.mem_append]
    by_cases hjb : j < b
    · exact .inl (h2 j hjb)
    · right
      rw [List.mem_map]
      exact ⟨j, by rw [List.mem_range'_1]; omega, rfl⟩
  · intro he _
    rw [hL]
    obtain ⟨m, hm⟩ : ∃ m, min (b + win) n - b = m + 1 := ⟨min (b + win) n - b - 1, by omega⟩
    rw [hm, List.range'_concat]
    simp
    omega
theorem gbO_inv (n win : Nat) (hw : 1 ≤ win) (hw8 : win ≤ 8) : ∀ (f b : Nat) (s s' : List Int), GbInv n b s → gbO n win lost f b s = some s' → GbInv n n s' := by
  intro f
  induction f with
  | zero =>
    intro b s s' h e
    rw [gbO] at e
    split at e
    · cases e
    · injection e with e; subst e
      have := h.2.2.2.1
      obtain rfl : b = n := by omega
      exact h
  | succ f ih =>
    intro b s s' h e
    rw [gbO] at e
    split at e
    · split at e
      · cases e
      · exact ih _ _ _ (gbR_inv lost n win b s (by omega) hw hw8 (by omega) h).1 e
    · injection e with e; subst e
      have := h.2.2.2.1
      obtain rfl : b = n := by omega
      exact h
theorem gbO_clean (n win : Nat) (hn : n ≤ 30) (hw : 1 ≤ win) : ∀ (f b : Nat), n ≤ f + b → b ≤ n → gbO n win [] f b ((List.range b).map Int.ofNat) = some ((List.range n).map Int.ofNat) := by
  intro f
  induction f with
  | zero =>
    intro b h hb
    rw [gbO, if_neg (by omega)]
    obtain rfl : b = n := by omega
    rfl
  | succ f ih =>
    intro b h hb
    rw [gbO]
    by_cases hbn : b < n
    · rw [if_pos hbn, if_neg (by simp; omega), gbR_clean, gbR_list, ← List.map_append]
      have e : List.range b ++ List.range' b (min (b + win) n - b) = List.range (b + (min (b + win) n - b)) := by
        rw [List.range_eq_range', List.range_eq_range']
        have := @List.range'_append_1 0 b (min (b + win) n - b)
        rwa [Nat.zero_add] at this
      have e' : List.range b ++ List.range' b (min (b + win) n - b) = List.range (b + (min (b + win) n - b)) := e
      rw [e']
      exact ih _ (by omega) (by omega)
    · rw [if_neg hbn]
      obtain rfl : b = n := by omega
      rfl
theorem goBack_clean (n win : Int) (h0 : 0 ≤ n) (h1 : n ≤ 30) (h2 : 1 ≤ win) (h3 : win ≤ 8) : goBack n win [] = ((List.range n.toNat).map Int.ofNat, true) := by
  rw [goBack, if_pos ⟨h0, h1, h2, h3⟩, show ([] : List Int) = (List.range 0).map Int.ofNat by simp, gbO_clean n.toNat win.toNat (by omega) (by omega) 301 0 (by omega) (by omega)]
  rfl
theorem goBack_cases (n win : Int) : goBack n win lost = ([], false) ∨ (0 ≤ n ∧ n ≤ 30 ∧ 1 ≤ win ∧ win ≤ 8 ∧ ∃ s, goBack n win lost = (s, true) ∧ GbInv n.toNat n.toNat s) := by
  by_cases hv : 0 ≤ n ∧ n ≤ 30 ∧ 1 ≤ win ∧ win ≤ 8
  · obtain ⟨h0, h1, h2, h3⟩ := hv
    have he : goBack n win lost = goOut (gbO n.toNat win.toNat lost 301 0 []) := by rw [goBack, if_pos ⟨h0, h1, h2, h3⟩]
    cases hs : gbO n.toNat win.toNat lost 301 0 [] with
    | none => rw [hs] at he; exact .inl he
    | some s =>
      rw [hs] at he
      refine .inr ⟨h0, h1, h2, h3, s, he, gbO_inv lost n.toNat win.toNat (by omega) (by omega) 301 0 [] s ⟨by simp, fun j hj => by omega, by simp, by omega, fun e he => ?_⟩ hs⟩
      omega
  · exact .inl (by rw [goBack, if_neg hv])
/-- How many of the first t transmissions are lost. -/
def goneC : Nat → Nat
  | 0 => 0
  | t + 1 => goneC t + if lostB lost t = true then 1 else 0
theorem goneC_le : ∀ t, goneC lost t ≤ t := by
  intro t
  induction t with
  | zero => exact Nat.le_refl _
  | succ t ih => rw [goneC]; split <;> omega
theorem goneC_far (t : Nat) : ∀ j, lost.length ≤ t → goneC lost (t + j) = goneC lost t := by
  intro j
  induction j with
  | zero => intro _; rfl
  | succ j ih =>
    intro h
    have e : lostB lost (t + j) = false := by rw [lostB, List.getD_eq_getElem?_getD, List.getElem?_eq_none (by omega)]; rfl
    rw [← Nat.add_assoc, goneC, if_neg (by rw [e]; exact Bool.false_ne_true), ih h]
    rfl
theorem gbO_one (n : Nat) : ∀ (f b : Nat) (s s' : List Int), b ≤ n → s.length = b + goneC lost s.length → gbO n 1 lost f b s = some s' → s'.length = n + goneC lost s'.length := by
  intro f
  induction f with
  | zero =>
    intro b s s' hb h e
    rw [gbO] at e
    split at e
    · cases e
    · injection e with e; subst e; omega
  | succ f ih =>
    intro b s s' hb h e
    rw [gbO] at e
    split at e
    · split at e
      · cases e
      · rename_i hbn h300
        have hm : min (b + 1) n - b = 1 := by omega
        rw [hm, gbR, gbR] at e
        refine ih _ _ _ ?_ ?_ e
        · dsimp only; split <;> omega
        · dsimp only
          rw [List.length_append, List.length_singleton, goneC]
          cases hl : lostB lost s.length <;> simp <;> omega
    · injection e with e; subst e; omega
theorem goBack_one (n : Int) : (goBack n 1 lost).2 = true → 0 ≤ n → ((goBack n 1 lost).1.length : Int) = n + goneC lost (goBack n 1 lost).1.length := by
  intro h h0
  unfold goBack at h ⊢
  split at h
  · rename_i hv
    rw [if_pos hv]
    cases hs : gbO n.toNat (1 : Int).toNat lost 301 0 [] with
    | none => rw [hs] at h; cases h
    | some s =>
      have := gbO_one lost n.toNat 301 0 [] s (by omega) rfl hs
      show (s.length : Int) = _
      simp only [goOut]
      omega
  · cases h
theorem goBack_len (n win : Int) : (goBack n win lost).1.length ≤ 308 := by
  rcases goBack_cases lost n win with h | ⟨_, _, _, _, s, h, hi⟩
  · rw [h]; simp
  · rw [h]; exact hi.2.2.1

/-- What holds of the numbers sent, d the messages accepted: how many were lost; the last transmission of each tells whether it is accepted. -/
def cntD (d : Nat → Bool) : Nat → Nat
  | 0 => 0
  | n + 1 => cntD d n + if d n = true then 1 else 0
/-- Whether the last transmission of message j is not lost. -/
def lastOk (lost : List Bool) : Nat → List Int → (Nat → Bool) → (Nat → Bool)
  | _, [], d => d
  | t, x :: xs, d => lastOk lost (t + 1) xs (updB d x.toNat (!lostB lost t))
theorem lastOk_snoc (x : Int) : ∀ (xs : List Int) (t : Nat) (d : Nat → Bool), lastOk lost t (xs ++ [x]) d = updB (lastOk lost t xs d) x.toNat (!lostB lost (t + xs.length)) := by
  intro xs
  induction xs with
  | nil => intro t d; simp [lastOk]
  | cons y ys ih => intro t d; simp only [List.cons_append, lastOk, ih, List.length_cons]; rw [show t + 1 + ys.length = t + (ys.length + 1) by omega]
theorem cntD_updB (d : Nat → Bool) (k : Nat) (v : Bool) (hd : d k = false) : ∀ n, cntD (updB d k v) n = cntD d n + if k < n ∧ v = true then 1 else 0 := by
  intro n
  induction n with
  | zero => simp [cntD]
  | succ n ih =>
    simp only [cntD, ih]
    by_cases hk : n = k
    · subst hk
      simp [updB, hd]
    · have e : updB d k v n = d n := by simp [updB, hk]
      rw [e]
      by_cases h1 : k < n
      · simp [h1, show k < n + 1 by omega]; omega
      · simp [h1, show ¬ k < n + 1 by omega]
theorem cntD_le (d : Nat → Bool) : ∀ n, cntD d n ≤ n := by
  intro n
  induction n with
  | zero => exact Nat.le_refl _
  | succ n ih => rw [cntD]; split <;> omega
theorem cntD_all (d : Nat → Bool) : ∀ n, (∀ j, j < n → d j = true) → cntD d n = n := by
  intro n
  induction n with
  | zero => intro _; rfl
  | succ n ih => intro h; rw [cntD, ih (fun j hj => h j (by omega)), if_pos (h n (by omega))]
def SrInv (n : Nat) (d : Nat → Bool) (s : List Int) : Prop := (∀ x ∈ s, 0 ≤ x ∧ x < (n : Int)) ∧ s.length = cntD d n + goneC lost s.length ∧ (∀ j, lastOk lost 0 s (fun _ => false) j = d j)
theorem srR_inv (n : Nat) : ∀ (m k : Nat) (d : Nat → Bool) (s : List Int), k + m ≤ n → SrInv lost n d s → SrInv lost n (srR lost m k d s).1 (srR lost m k d s).2 ∧ s.length ≤ (srR lost m k d s).2.length ∧ (srR lost m k d s).2.length ≤ s.length + m := by
  intro m
  induction m with
  | zero => intro k d s _ h; exact ⟨h, Nat.le_refl _, Nat.le_refl _⟩
  | succ m ih =>
    intro k d s hk h
    rw [srR]
    split
    · obtain ⟨a, b, c⟩ := ih (k + 1) d s (by omega) h
      exact ⟨a, b, by omega⟩
    · rename_i hd
      have hd' : d k = false := by simpa using hd
      obtain ⟨h1, h2, h3⟩ := h
      have hI : SrInv lost n (updB d k (!lostB lost s.length)) (s ++ [(k : Int)]) := by
        refine ⟨?_, ?_, ?_⟩
        · intro x hx
          rw [List.mem_append, List.mem_singleton] at hx
          rcases hx with hx | rfl
          · exact h1 x hx
          · omega
        · rw [List.length_append, List.length_singleton, goneC, cntD_updB d k _ hd']
          have hkn : k < n := by omega
          cases lostB lost s.length <;> simp [hkn] <;> omega
        · intro j
          rw [lastOk_snoc, Nat.zero_add]
          show updB _ (Int.toNat (k : Int)) _ j = _
          rw [Int.toNat_natCast]
          unfold updB
          split
          · rfl
          · exact h3 j
      obtain ⟨a, b, c⟩ := ih (k + 1) _ _ (by omega) hI
      rw [List.length_append, List.length_singleton] at b c
      exact ⟨a, by omega, by omega⟩
theorem srR_first (m k : Nat) (d : Nat → Bool) (s : List Int) (hd : d k = false) (hm : 0 < m) : k + m ≤ 1000 → s.length + 1 ≤ (srR lost m k d s).2.length := by
  intro _
  obtain ⟨m, rfl⟩ : ∃ m', m = m' + 1 := ⟨m - 1, by omega⟩
  have hle : ∀ (m k : Nat) (d : Nat → Bool) (s : List Int), s.length ≤ (srR lost m k d s).2.length := by
    intro m
    induction m with
    | zero => intro k d s; exact Nat.le_refl _
    | succ m ih =>
      intro k d s
      rw [srR]
      split
      · exact ih _ _ _
      · have := ih (k + 1) (updB d k (!lostB lost s.length)) (s ++ [(k : Int)])
        rw [List.length_append, List.length_singleton] at this
        omega
  rw [srR, if_neg (by rw [hd]; exact Bool.false_ne_true)]
  have := hle m (k + 1) (updB d k (!lostB lost s.length)) (s ++ [(k : Int)])
  rw [List.length_append, List.length_singleton] at this
  exact this
end
theorem firstN_props (n : Nat) (d : Nat → Bool) : ∀ (f b : Nat), b ≤ n → n ≤ f + b → (∀ j, j < b → d j = true) → b ≤ firstN n d f b ∧ firstN n d f b ≤ n ∧ (∀ j, j < firstN n d f b → d j = true) ∧ (firstN n d f b < n → d (firstN n d f b) = false) := by
  intro f
  induction f with
  | zero => intro b h1 h2 h3; rw [firstN]; exact ⟨Nat.le_refl _, h1, h3, fun h => by omega⟩
  | succ f ih =>
    intro b h1 h2 h3
    rw [firstN]
    split
    · rename_i h
      obtain ⟨a, b', c, e⟩ := ih (b + 1) (by omega) (by omega) (fun j hj => by
        by_cases hjb : j = b
        · subst hjb; exact h.2
        · exact h3 j (by omega))
      exact ⟨by omega, b', c, e⟩
    · rename_i h
      refine ⟨Nat.le_refl _, h1, h3, fun hb => ?_⟩
      cases hd : d b
      · rfl
      · exact absurd ⟨hb, hd⟩ h
theorem srR_keep (lost : List Bool) : ∀ (m k : Nat) (d : Nat → Bool) (s : List Int) (j : Nat), d j = true → (srR lost m k d s).1 j = true := by
  intro m
  induction m with
  | zero => intro k d s j h; exact h
  | succ m ih =>
    intro k d s j h
    rw [srR]
    split
    · exact ih _ _ _ _ h
    · rename_i hk
      refine ih _ _ _ _ ?_
      unfold updB
      split
      · rename_i e; subst e; exact absurd h hk
      · exact h
section
variable (lost : List Bool)
theorem srO_inv (n win : Nat) (hn : n ≤ 30) (hw : 1 ≤ win) (hw8 : win ≤ 8) : ∀ (f b : Nat) (d : Nat → Bool) (s s' : List Int), b ≤ n → (∀ j, j < b → d j = true) → s.length ≤ 308 → SrInv lost n d s → srO n win lost f b d s = some s' → (∃ d', SrInv lost n d' s' ∧ ∀ j, j < n → d' j = true) ∧ s'.length ≤ 308 := by
  intro f
  induction f with
  | zero =>
    intro b d s s' hb hd hs h e
    rw [srO] at e
    split at e
    · cases e
    · injection e with e; subst e
      exact ⟨⟨d, h, fun j hj => hd j (by omega)⟩, hs⟩
  | succ f ih =>
    intro b d s s' hb hd hs h e
    rw [srO] at e
    split at e
    · split at e
      · cases e
      · rename_i hbn h300
        obtain ⟨a, b1, c⟩ := srR_inv lost n (min (b + win) n - b) b d s (by omega) h
        obtain ⟨p1, p2, p3, p4⟩ := firstN_props n (srR lost (min (b + win) n - b) b d s).1 n b hb (by omega) (fun j hj => srR_keep lost _ _ _ _ _ (hd j hj))
        exact ih _ _ _ _ p2 p3 (by omega) a e
    · injection e with e; subst e
      exact ⟨⟨d, h, fun j hj => hd j (by omega)⟩, hs⟩
theorem selRep_cases (n win : Int) : selRep n win lost = ([], false) ∨ (0 ≤ n ∧ n ≤ 30 ∧ 1 ≤ win ∧ win ≤ 8 ∧ ∃ s, selRep n win lost = (s, true) ∧ s.length ≤ 308 ∧ (∀ x ∈ s, 0 ≤ x ∧ x < n) ∧ (s.length : Int) = n + goneC lost s.length ∧ ∀ j : Nat, (j : Int) < n → lastOk lost 0 s (fun _ => false) j = true) := by
  by_cases hv : 0 ≤ n ∧ n ≤ 30 ∧ 1 ≤ win ∧ win ≤ 8
  · obtain ⟨h0, h1, h2, h3⟩ := hv
    have he : selRep n win lost = goOut (srO n.toNat win.toNat lost 301 0 (fun _ => false) []) := by rw [selRep, if_pos ⟨h0, h1, h2, h3⟩]
    cases hs : srO n.toNat win.toNat lost 301 0 (fun _ => false) [] with
    | none => rw [hs] at he; exact .inl he
    | some s =>
      rw [hs] at he
      have hc0 : ∀ m, cntD (fun _ => false) m = 0 := by
        intro m
        induction m with
        | zero => rfl
        | succ m ih => simp [cntD, ih]
      obtain ⟨⟨d', ⟨i1, i2, i3⟩, hd⟩, hl⟩ := srO_inv lost n.toNat win.toNat (by omega) (by omega) (by omega) 301 0 (fun _ => false) [] s (by omega) (fun j hj => by omega) (by simp) ⟨by simp, by simp [hc0, goneC], fun j => by simp [lastOk]⟩ hs
      refine .inr ⟨h0, h1, h2, h3, s, he, hl, fun x hx => by have := i1 x hx; omega, ?_, fun j hj => by rw [i3]; exact hd j (by omega)⟩
      rw [cntD_all _ _ hd] at i2
      omega
  · exact .inl (by rw [selRep, if_neg hv])
theorem selRep_len (n win : Int) : (selRep n win lost).1.length ≤ 308 := by
  rcases selRep_cases lost n win with h | ⟨_, _, _, _, s, h, hl, _⟩
  · rw [h]; simp
  · rw [h]; exact hl
theorem srR_clean : ∀ (m k : Nat) (d : Nat → Bool) (s : List Int), (∀ j, k ≤ j → d j = false) → (srR [] m k d s).2 = s ++ (List.range' k m).map Int.ofNat ∧ (∀ j, (srR [] m k d s).1 j = (d j || (decide (k ≤ j) && decide (j < k + m)))) := by
  intro m
  induction m with
  | zero => intro k d s h; simp [srR]; intro j h1 h2; omega
  | succ m ih =>
    intro k d s h
    rw [srR, if_neg (by rw [h k (Nat.le_refl _)]; exact Bool.false_ne_true)]
    obtain ⟨a, b⟩ := ih (k + 1) (updB d k (!lostB [] s.length)) (s ++ [(k : Int)]) (fun j hj => by unfold updB; rw [if_neg (by omega)]; exact h j (by omega))
    refine ⟨by rw [a, List.range'_succ]; simp, fun j => ?_⟩
    rw [b]
    unfold updB
    by_cases hj : j = k
    · subst hj; simp [lostB]
    · rw [if_neg hj]
      have e1 : decide (k + 1 ≤ j) = decide (k ≤ j) := by simp; omega
      have e2 : decide (j < k + 1 + m) = decide (j < k + (m + 1)) := by simp; omega
      rw [e1, e2]
theorem srO_clean (n win : Nat) (hn : n ≤ 30) (hw : 1 ≤ win) : ∀ (f b : Nat) (d : Nat → Bool), n ≤ f + b → b ≤ n → (∀ j, d j = decide (j < b)) → srO n win [] f b d ((List.range b).map Int.ofNat) = some ((List.range n).map Int.ofNat) := by
  intro f
  induction f with
  | zero =>
    intro b d h hb hd
    rw [srO, if_neg (by omega)]
    obtain rfl : b = n := by omega
    rfl
  | succ f ih =>
    intro b d h hb hd
    rw [srO]
    by_cases hbn : b < n
    · obtain ⟨a, c⟩ := srR_clean (min (b + win) n - b) b d ((List.range b).map Int.ofNat) (fun j hj => by rw [hd]; simp; omega)
      rw [if_pos hbn, if_neg (by simp; omega), a, ← List.map_append]
      have hdj : ∀ j, (srR [] (min (b + win) n - b) b d ((List.range b).map Int.ofNat)).1 j = decide (j < b + (min (b + win) n - b)) := by
        intro j
        rw [c, hd, Bool.eq_iff_iff]
        simp
        omega
      generalize (srR [] (min (b + win) n - b) b d ((List.range b).map Int.ofNat)).1 = d' at hdj
      obtain ⟨p1, p2, p3, p4⟩ := firstN_props n d' n b hb (by omega) (fun j hj => by rw [hdj]; simp; omega)
      have hf : firstN n d' n b = b + (min (b + win) n - b) := by
        by_cases hlt : firstN n d' n b < n
        · have := p4 hlt
          rw [hdj] at this
          simp at this
          by_cases hle : firstN n d' n b ≤ b + (min (b + win) n - b)
          · omega
          · have := p3 (b + (min (b + win) n - b)) (by omega)
            rw [hdj] at this
            simp at this
        · by_cases hle : b + (min (b + win) n - b) < n
          · have := p3 (b + (min (b + win) n - b)) (by omega)
            rw [hdj] at this
            simp at this
          · omega
      have e : List.range b ++ List.range' b (min (b + win) n - b) = List.range (b + (min (b + win) n - b)) := by
        rw [List.range_eq_range', List.range_eq_range']
        have := @List.range'_append_1 0 b (min (b + win) n - b)
        rwa [Nat.zero_add] at this
      rw [e, hf]
      exact ih _ _ (by omega) (by omega) hdj
    · rw [if_neg hbn]
      obtain rfl : b = n := by omega
      rfl
theorem selRep_clean (n win : Int) (h0 : 0 ≤ n) (h1 : n ≤ 30) (h2 : 1 ≤ win) (h3 : win ≤ 8) : selRep n win [] = ((List.range n.toNat).map Int.ofNat, true) := by
  rw [selRep, if_pos ⟨h0, h1, h2, h3⟩, show ([] : List Int) = (List.range 0).map Int.ofNat by simp, srO_clean n.toNat win.toNat (by omega) (by omega) 301 0 _ (by omega) (by omega) (fun j => by simp)]
  rfl
/-- The messages to be sent in a round are fixed at its start: one after the other, the state of the others does not matter. -/
def sfold (lost : List Bool) : List Nat → (Nat → Bool) → List Int → (Nat → Bool) × List Int
  | [], d, s => (d, s)
  | m :: ms, d, s => sfold lost ms (if lostB lost s.length = true then d else updB d m true) (s ++ [(m : Int)])
theorem updB_same (d : Nat → Bool) (k : Nat) (v : Bool) (h : d k = v) : updB d k v = d := by
  funext j
  unfold updB
  split
  · rename_i e; subst e; exact h.symm
  · rfl
theorem srR_fold : ∀ (m k : Nat) (d e : Nat → Bool) (s : List Int), (∀ j, k ≤ j → d j = e j) → srR lost m k d s = sfold lost ((List.range' k m).filter fun j => !e j) d s := by
  intro m
  induction m with
  | zero => intro k d e s h; simp [srR, sfold]
  | succ m ih =>
    intro k d e s h
    rw [srR, List.range'_succ]
    have hk := h k (Nat.le_refl _)
    cases he : e k
    · rw [he] at hk
      rw [if_neg (by rw [hk]; exact Bool.false_ne_true), List.filter_cons, if_pos (by simp [he]), sfold]
      rw [ih (k + 1) _ e _ (fun j hj => by unfold updB; rw [if_neg (by omega)]; exact h j (by omega))]
      congr 1
      cases lostB lost s.length
      · simp
      · simp [updB_same d k false hk]
    · rw [he] at hk
      rw [if_pos hk, List.filter_cons, if_neg (by simp [he])]
      exact ih (k + 1) d e s (fun j hj => h j (by omega))
end
end Go.Proofs.Ytnnapbjaidbkgaa
