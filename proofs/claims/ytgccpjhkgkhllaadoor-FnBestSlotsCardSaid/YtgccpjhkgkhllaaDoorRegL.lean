/-
  wp_region_g, what is known of the world speaking of which operations have come up. No program in sight.
-/
import Derived.Test.YtgccpjhkgkhllaaDoorReg
namespace Go.Proofs.YtgccpjhkgkhllaaDoor
open Go
set_option linter.unusedVariables false

section
variable {P : Program} {ops : Array Oper} {Q : Exit → Act → World → Prop}
/-- What is known while the operations of a region come up. -/
def RegInvL (ops : Array Oper) (F : Nat → (Nat → Value) → World → Prop) (S : (Nat → Bool) → (Nat → Value) → World → Prop) (a0 : Act) (listed : Array Bool) (a : Act) (w : World) : Prop :=
  listed.size = ops.size ∧
  (∀ j o, ops[j]? = some o → listed.getD j false = true → ∀ e ∈ o.after, Region.binds .any e = true → listed.getD e.on false = true) ∧
  ∃ x, a = fillAct ops x a0 ops.size ∧ S (fun j => listed.getD j false) x w ∧ ∀ j, listed.getD j false = true → F j x w

theorem wp_region_factsL {id : Nat} {a : Act} {w : World} (hm : P.follows .mixedOrders = true) (A : List (List Nat)) (hA : regOk ops A = true)
    (F : Nat → (Nat → Value) → World → Prop) (S : (Nat → Bool) → (Nat → Value) → World → Prop) (R : World → World → Prop)
    (h0 : ∀ x, S (fun _ => false) x { w with drawn := w.drawn + 1 })
    (hloc : ∀ j, j < ops.size → ∀ x x' w w', (∀ d, d = j ∨ d ∈ A.getD j [] → x' d = x d) → R w w' → F j x w → F j x' w')
    (hob : ∀ i, i < ops.size → ∀ L : Nat → Bool, L i = false → (∀ d ∈ A.getD i [], L d = true) → (∀ j d, L j = true → d ∈ A.getD j [] → L d = true) → ∀ x w, S L x w → (∀ d ∈ A.getD i [], F d x w) → ∀ K : Act → World → Prop,
      (∀ v w', S (fun j => j == i || L j) (upd x i v) w' → R w w' → F i (upd x i v) w' → K ((fillAct ops x a ops.size).put (dstOf ops i) v) w') → wpOp P ops Q i K (fillAct ops x a ops.size) w)
    (hend : ∀ x w L, (∀ j, j < ops.size → L j = true) → S L x w → (∀ j, j < ops.size → F j x w) → Q .normal (fillAct ops x a ops.size) w) : (Code.region id ops true).wp P Q a w := by
  refine wp_region_any hm ?_
  have hd : ∀ j k, j < k → ∀ d, dstOf ops k = some d → dstOf ops j ≠ some d := by
    intro j k hjk d hk
    rcases Nat.lt_or_ge k ops.size with hlt | hge
    · have h1 := List.all_eq_true.1 hA k (List.mem_range.2 hlt)
      rw [Bool.and_eq_true] at h1
      have h2 := List.all_eq_true.1 h1.1 j (List.mem_range.2 hjk)
      rw [hk] at h2
      simpa using h2
    · rw [dstOf, Array.getElem?_eq_none hge] at hk; cases hk
  have main : ∀ fuel listed a' w', fuel ≤ ops.size → RegInvL ops F S a listed a' w' → (listed.toList.countP fun b => !b) = fuel → wpAny P .any ops Q fuel listed a' w' := by
    have fin : ∀ fuel listed a' w', RegInvL ops F S a listed a' w' → (listed.toList.countP fun b => !b) = fuel → Region.ready .any ops listed = [] → Q .normal a' w' := by
      intro fuel listed a' w' hI hc hr
      obtain ⟨hs, hcl, x, rfl, hS, hF⟩ := hI
      have all : ∀ j, j < ops.size → listed.getD j false = true := by
        intro j
        induction j using Nat.strongRecOn with
        | _ j ih =>
          intro hj
          cases hl : listed.getD j false with
          | true => rfl
          | false =>
            have hmem : j ∈ Region.ready .any ops listed := by
              rw [mem_ready]
              refine ⟨?_, ops[j], Array.getElem?_eq_getElem hj, fun e he hb => ?_⟩
              · simp only [Array.getD_eq_getD_getElem?, Array.getElem?_eq_getElem (show j < listed.size by omega), Option.getD_some] at hl ⊢; exact hl
              · have h1 := List.all_eq_true.1 hA j (List.mem_range.2 hj)
                rw [Bool.and_eq_true] at h1
                have h2 := h1.2
                rw [Array.getElem?_eq_getElem hj] at h2
                simp only [Bool.and_eq_true] at h2
                have := Array.all_eq_true_iff_forall_mem.1 h2.1 e he
                have hlt : e.on < j := by simpa [hb] using this
                exact ih e.on hlt (by omega)
            rw [hr] at hmem
            cases hmem
      have h0 : fuel = 0 := by
        rw [← hc, List.countP_eq_zero]
        intro b hb
        obtain ⟨j, hj, rfl⟩ := List.mem_iff_getElem.1 hb
        have := all j (by simpa [hs] using hj)
        simp only [Array.getD_eq_getD_getElem?, Array.getElem?_eq_getElem (show j < listed.size by simpa using hj), Option.getD_some] at this
        simp [this]
      subst h0
      exact hend x w' _ all hS fun j hj => hF j (all j hj)
    intro fuel
    induction fuel with
    | zero =>
      intro listed a' w' hf hI hc
      have hr : Region.ready .any ops listed = [] := by
        apply List.eq_nil_iff_forall_not_mem.2
        intro j hj
        rw [mem_ready] at hj
        have h1 := hj.1
        obtain ⟨o, ho, _⟩ := hj.2
        have hlt : j < listed.size := by rw [hI.1]; exact (Array.getElem?_eq_some_iff.1 ho).1
        rw [List.countP_eq_zero] at hc
        have := hc listed[j] (by simp)
        simp only [Array.getD_eq_getD_getElem?, Array.getElem?_eq_getElem hlt, Option.getD_some] at h1
        rw [h1] at this
        exact this rfl
      exact ⟨hr, fin _ _ _ _ hI hc hr⟩
    | succ fuel ih =>
      intro listed a' w' hf hI hc
      refine ⟨fin _ _ _ _ hI hc, fun i hi => ?_⟩
      obtain ⟨hs, hcl, x, rfl, hS, hF⟩ := hI
      rw [mem_ready] at hi
      obtain ⟨hun, o, ho, hdeps⟩ := hi
      have hlt : i < ops.size := (Array.getElem?_eq_some_iff.1 ho).1
      have hlt' : i < listed.size := by omega
      have hunl : listed[i] = false := by
        simpa only [Array.getD_eq_getD_getElem?, Array.getElem?_eq_getElem hlt', Option.getD_some] using hun
      have hanc := reg_anc hA hcl i hlt (fun o' ho' => by rw [ho] at ho'; injection ho' with ho'; subst ho'; exact hdeps)
      refine hob i hlt _ (by simp only [Array.getD_eq_getD_getElem?, Array.getElem?_eq_getElem hlt', Option.getD_some]; exact hunl) (fun d hd' => hanc d hd') (fun j d hj hd' => reg_anc hA hcl j (by rcases Nat.lt_or_ge j listed.size with h | h; exact (by omega); exact (by simp [Array.getElem?_eq_none h] at hj)) (fun o' ho' => hcl j o' ho' hj) d hd') x w' hS (fun d hd' => hF d (hanc d hd')) _ ?_
      intro v w'' hS' hR hFi
      rw [fill_put x a i v hd ops.size hlt]
      have hLL : (fun j => j == i || listed.getD j false) = (fun j => (listed.setIfInBounds i true).getD j false) := by
        funext j
        by_cases hji : j = i
        · subst hji; simp [hlt']
        · rw [getD_set_ne false (Ne.symm hji)]; simp [hji]
      rw [hLL] at hS'
      refine ih _ _ _ (by omega) ⟨by simpa using hs, ?_, upd x i v, rfl, hS', ?_⟩ ?_
      · intro j o' ho' hl e he hb
        by_cases hji : j = i
        · subst hji
          rw [ho] at ho'; injection ho' with ho'; subst ho'
          exact getD_set_true (hdeps e he hb)
        · rw [getD_set_ne false (Ne.symm hji)] at hl
          exact getD_set_true (hcl j o' ho' hl e he hb)
      · intro j hl
        by_cases hji : j = i
        · subst hji; exact hFi
        · rw [getD_set_ne false (Ne.symm hji)] at hl
          have hj : j < ops.size := by
            rcases Nat.lt_or_ge j listed.size with h | h
            · omega
            · simp [Array.getElem?_eq_none h] at hl
          refine hloc j hj x _ w' w'' ?_ hR (hF j hl)
          intro d hd'
          refine upd_ne x v ?_
          rintro rfl
          rcases hd' with rfl | hd'
          · exact hji rfl
          · have := reg_anc hA hcl j hj (fun o' ho' => hcl j o' ho' hl) d hd'
            simp only [Array.getD_eq_getD_getElem?, Array.getElem?_eq_getElem hlt', Option.getD_some, hunl] at this
            cases this
      · have : ∀ (l : List Bool) (k : Nat) (hk : k < l.length), l[k] = false → (l.set k true).countP (fun b => !b) + 1 = l.countP (fun b => !b) := by
          intro l
          induction l with
          | nil => intro k hk; simp at hk
          | cons b l ihl =>
            intro k hk hb
            cases k with
            | zero => simp at hb; subst hb; simp
            | succ k =>
              simp at hb hk
              have := ihl k hk hb
              simp only [List.set_cons_succ, List.countP_cons]
              omega
        have h1 := this listed.toList i (by simpa using hlt') (by simpa using hunl)
        rw [Array.toList_setIfInBounds]
        omega
  have h0' : ∀ x, S (fun j => (Array.replicate ops.size false).getD j false) x { w with drawn := w.drawn + 1 } := by
    have e : (fun j => (Array.replicate ops.size false).getD j false) = fun _ => false := by
      funext j
      rw [Array.getD_eq_getD_getElem?, Array.getElem?_replicate]
      split <;> rfl
    intro x; rw [e]; exact h0 x
  have hstart := main ops.size (Array.replicate ops.size false) a { w with drawn := w.drawn + 1 } (Nat.le_refl _) ⟨by simp, ?_, _, (fill_start a ops.size).symm, h0' _, ?_⟩ ?_
  · exact hstart
  · intro j o _ hl
    rcases Nat.lt_or_ge j ops.size with h | h
    · simp [h] at hl
    · simp [Nat.not_lt.2 h] at hl
  · intro j hl
    rcases Nat.lt_or_ge j ops.size with h | h
    · simp [h] at hl
    · simp [Nat.not_lt.2 h] at hl
  · rw [Array.toList_replicate, List.countP_replicate]; simp

theorem wp_region_gL {id : Nat} {a : Act} {w : World} (hm : P.follows .mixedOrders = true) (A : List (List Nat)) (hA : regOk ops A = true) (n : Nat) (hn : ops.size = n) (ds : List (Option Tmp)) (hds : ops.toList.map (·.dst) = ds)
    (G : List (Value → (Nat → Value) → World → Prop)) (S : (Nat → Bool) → (Nat → Value) → World → Prop) (R : World → World → Prop)
    (hRr : ∀ w, R w w) (h0 : ∀ x, S (fun _ => false) x w.drew)
    (hloc : AllLt n fun j => ∀ v x x' w w', (∀ d ∈ A.getD j [], x' d = x d) → R w w' → G.getD j (fun _ _ _ => True) v x w → G.getD j (fun _ _ _ => True) v x' w')
    (hob : AllLt n fun i => ∀ L : Nat → Bool, L i = false → (∀ d ∈ A.getD i [], L d = true) → (∀ j d, L j = true → d ∈ A.getD j [] → L d = true) → ∀ x w, S L x w → (∀ d ∈ A.getD i [], G.getD d (fun _ _ _ => True) (x d) x w) → ∀ K : Act → World → Prop,
      (∀ v w', S (fun j => j == i || L j) (upd x i v) w' → R w w' → G.getD i (fun _ _ _ => True) v x w' → K ((fillL ds 0 x a).put (ds.getD i none) v) w') → wpOp P ops Q i K (fillL ds 0 x a) w)
    (hend : ∀ x w L, (∀ j, j < n → L j = true) → S L x w → (∀ j, j < n → G.getD j (fun _ _ _ => True) (x j) x w) → Q .normal (fillL ds 0 x a) w) : (Code.region id ops true).wp P Q a w := by
  have hall : ∀ x, fillL ds 0 x a = fillAct ops x a ops.size := fun x => by
    rw [← fillL_eq hds x a ops.size (Nat.le_refl _), List.take_of_length_le]
    rw [← hds]; simp
  have hlt : ∀ i, i < n → ∀ d ∈ A.getD i [], d ≠ i := by
    intro i hi d hd
    have h1 := List.all_eq_true.1 hA i (List.mem_range.2 (by omega))
    rw [Bool.and_eq_true] at h1
    rintro rfl
    -- it would wait for itself: then it could never come up; ruled out by reg_anc on the set of all that come before it
    have key := reg_anc hA (listed := ((Array.range ops.size).map fun j => decide (j < d))) (fun j o ho hl e he hb => by
      have hj : j < ops.size := (Array.getElem?_eq_some_iff.1 ho).1
      have h2 := List.all_eq_true.1 hA j (List.mem_range.2 hj)
      rw [Bool.and_eq_true] at h2
      have h3 := h2.2
      rw [ho] at h3
      simp only [Bool.and_eq_true] at h3
      have h4 := Array.all_eq_true_iff_forall_mem.1 h3.1 e he
      have h5 : e.on < j := by simpa [hb] using h4
      have hjd : j < d := by simpa [hj] using hl
      simp [show e.on < ops.size by omega, show e.on < d by omega]) d (by omega) (fun o ho e he hb => by
        have h3 := h1.2
        rw [ho] at h3
        simp only [Bool.and_eq_true] at h3
        have h4 := Array.all_eq_true_iff_forall_mem.1 h3.1 e he
        have h5 : e.on < d := by simpa [hb] using h4
        simp [show e.on < ops.size by omega, show e.on < d by omega]) d hd
    simp [show d < ops.size by omega] at key
  refine wp_region_factsL hm A hA (fun j x w => G.getD j (fun _ _ _ => True) (x j) x w) S R h0 ?_ ?_ ?_
  · intro j hj x x' w w' hx hR hF
    have := hloc.get j (by omega) (x j) x x' w w' (fun d hd => hx d (.inr hd)) hR hF
    rw [← hx j (.inl rfl)] at this
    exact this
  · intro i hi L hL hLa hLc x w' hS hd K hK
    have := hob.get i (by omega) L hL hLa hLc x w' hS hd K ?_
    · rw [hall] at this; exact this
    · intro v w'' hS' hR hG
      rw [hall]
      have hdst : ds.getD i none = dstOf ops i := by
        rw [← hds]
        simp [dstOf, hi]
      rw [hdst]
      refine hK v w'' hS' hR ?_
      show G.getD i (fun _ _ _ => True) (upd x i v i) (upd x i v) w''
      rw [upd_self]
      exact hloc.get i (by omega) v x _ w'' w'' (fun d hd => upd_ne x v (hlt i (by omega) d hd)) (hRr _) hG
  · intro x w' L hL hS hF
    have := hend x w' L (fun j hj => hL j (by omega)) hS (fun j hj => hF j (by omega))
    rw [hall] at this
    exact this
end
end Go.Proofs.YtgccpjhkgkhllaaDoor
