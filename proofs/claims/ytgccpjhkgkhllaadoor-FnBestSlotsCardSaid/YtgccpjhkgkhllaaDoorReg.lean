/-
  A REGION THAT DRAWS ITS ORDER, BY FACTS: each operation is shown once, out of what is known of those that it waits for; no branching over orders. No program in sight.
-/
import Derived.Orders
import Derived.WalkKit
import Derived.Deep.Draws
namespace Go.Proofs.YtgccpjhkgkhllaaDoor
open Go
set_option linter.unusedVariables false

/-- x, but v at i. -/
def upd (x : Nat → Value) (i : Nat) (v : Value) : Nat → Value := fun j => if j = i then v else x j
theorem upd_self (x : Nat → Value) (i : Nat) (v : Value) : upd x i v i = v := if_pos rfl
theorem upd_ne (x : Nat → Value) {i j : Nat} (v : Value) (h : j ≠ i) : upd x i v j = x j := if_neg h

/-- The slot of operation k. -/
def dstOf (ops : Array Oper) (k : Nat) : Option Tmp := (ops[k]?).bind (·.dst)
/-- The frame a, the slots of the first operations filled by x. -/
def fillAct (ops : Array Oper) (x : Nat → Value) (a : Act) : Nat → Act
  | 0 => a
  | k + 1 => (fillAct ops x a k).put (dstOf ops k) (x k)

/-- A is a list, for each operation, of some that it waits for; each operation waits for earlier ones alone; each has a slot of its own. -/
def regOk (ops : Array Oper) (A : List (List Nat)) : Bool :=
  (List.range ops.size).all fun i =>
    ((List.range i).all fun j => match dstOf ops i with | some d => dstOf ops j != some d | none => true) &&
    (match ops[i]? with
     | some o => o.after.all (fun e => !Region.binds .any e || decide (e.on < i)) && (A.getD i []).all fun d => o.after.any fun e => Region.binds .any e && (e.on == d || (A.getD e.on []).contains d)
     | none => false)

section
variable {P : Program} {ops : Array Oper} {Q : Exit → Act → World → Prop}

theorem put_put (a : Act) (d : Option Tmp) (u v : Value) : (a.put d u).put d v = a.put d v := by
  cases d with
  | none => rfl
  | some d => simp [Act.put]
theorem fill_far (x : Nat → Value) (a : Act) (i : Nat) (v : Value) : ∀ k, k ≤ i → fillAct ops (upd x i v) a k = fillAct ops x a k := by
  intro k
  induction k with
  | zero => intro _; rfl
  | succ k ih =>
    intro hk
    rw [fillAct, fillAct, ih (by omega), upd_ne x v (by omega)]
theorem fill_put (x : Nat → Value) (a : Act) (i : Nat) (v : Value) (hd : ∀ j k, j < k → ∀ d, dstOf ops k = some d → dstOf ops j ≠ some d) :
    ∀ k, i < k → (fillAct ops x a k).put (dstOf ops i) v = fillAct ops (upd x i v) a k := by
  intro k
  induction k with
  | zero => intro h; omega
  | succ k ih =>
    intro hk
    rw [fillAct, fillAct]
    by_cases hik : i = k
    · subst hik
      rw [put_put, fill_far x a i v i (Nat.le_refl _), upd_self]
    · rw [upd_ne x v (by omega), Act.put_comm _ _ _ (fun d h => hd i k (by omega) d h), ih (by omega)]
theorem fill_start (a : Act) : ∀ k, fillAct ops (fun j => match dstOf ops j with | some d => (a.tmps[d]?).getD undef | none => undef) a k = a := by
  intro k
  induction k with
  | zero => rfl
  | succ k ih =>
    rw [fillAct, ih]
    cases hd : dstOf ops k with
    | none => rfl
    | some d =>
      simp only [Act.put]
      have : a.tmps.setIfInBounds d ((a.tmps[d]?).getD undef) = a.tmps := by
        rcases Nat.lt_or_ge d a.tmps.size with h | h
        · rw [Array.getElem?_eq_getElem h]
          simp only [Option.getD_some]
          apply Array.ext_getElem?
          intro j
          rw [Array.getElem?_setIfInBounds]
          split
          · rename_i hj; subst hj; simp [h]
          · rfl
        · rw [Array.setIfInBounds_eq_of_size_le h]
      rw [this]

/-- What is known while the operations of a region come up. -/
def RegInv (ops : Array Oper) (F : Nat → (Nat → Value) → World → Prop) (S : World → Prop) (a0 : Act) (listed : Array Bool) (a : Act) (w : World) : Prop :=
  listed.size = ops.size ∧
  (∀ j o, ops[j]? = some o → listed.getD j false = true → ∀ e ∈ o.after, Region.binds .any e = true → listed.getD e.on false = true) ∧
  ∃ x, a = fillAct ops x a0 ops.size ∧ S w ∧ ∀ j, listed.getD j false = true → F j x w

theorem reg_anc {A : List (List Nat)} (hA : regOk ops A = true) {listed : Array Bool}
    (hcl : ∀ j o, ops[j]? = some o → listed.getD j false = true → ∀ e ∈ o.after, Region.binds .any e = true → listed.getD e.on false = true) :
    ∀ i, i < ops.size → (∀ o, ops[i]? = some o → ∀ e ∈ o.after, Region.binds .any e = true → listed.getD e.on false = true) → ∀ d ∈ A.getD i [], listed.getD d false = true := by
  intro i
  induction i using Nat.strongRecOn with
  | _ i ih =>
    intro hi hdep d hd
    have h1 := List.all_eq_true.1 hA i (List.mem_range.2 hi)
    rw [Bool.and_eq_true] at h1
    have h2 := h1.2
    have ho : ops[i]? = some ops[i] := Array.getElem?_eq_getElem hi
    rw [ho] at h2
    simp only [Bool.and_eq_true] at h2
    obtain ⟨h3, h4⟩ := h2
    have h5 := List.all_eq_true.1 h4 d hd
    obtain ⟨e, he, h6⟩ := Array.any_eq_true'.1 h5
    simp only [Bool.and_eq_true, Bool.or_eq_true, beq_iff_eq] at h6
    obtain ⟨hb, h7⟩ := h6
    have hl := hdep _ ho e he hb
    have hlt : e.on < i := by
      have := Array.all_eq_true_iff_forall_mem.1 h3 e he
      simpa [hb] using this
    rcases h7 with h7 | h7
    · rw [← h7]; exact hl
    · exact ih e.on hlt (by omega) (fun o ho' => hcl _ o ho' hl) d (List.contains_iff_mem.1 h7)

theorem wp_region_facts {id : Nat} {a : Act} {w : World} (hm : P.follows .mixedOrders = true) (A : List (List Nat)) (hA : regOk ops A = true)
    (F : Nat → (Nat → Value) → World → Prop) (S : Nat → World → Prop) (R : World → World → Prop)
    (h0 : S 0 { w with drawn := w.drawn + 1 })
    (hloc : ∀ j, j < ops.size → ∀ x x' w w', (∀ d, d = j ∨ d ∈ A.getD j [] → x' d = x d) → R w w' → F j x w → F j x' w')
    (hob : ∀ i, i < ops.size → ∀ c, c < ops.size → ∀ x w, S c w → (∀ d ∈ A.getD i [], F d x w) → ∀ K : Act → World → Prop,
      (∀ v w', S (c + 1) w' → R w w' → F i (upd x i v) w' → K ((fillAct ops x a ops.size).put (dstOf ops i) v) w') → wpOp P ops Q i K (fillAct ops x a ops.size) w)
    (hend : ∀ x w, S ops.size w → (∀ j, j < ops.size → F j x w) → Q .normal (fillAct ops x a ops.size) w) : (Code.region id ops true).wp P Q a w := by
  refine wp_region_any hm ?_
  have hd : ∀ j k, j < k → ∀ d, dstOf ops k = some d → dstOf ops j ≠ some d := by
    intro j k hjk d hk
    rcases Nat.lt_or_ge k ops.size with hlt | hge
    · have h1 := List.all_eq_true.1 hA k (List.mem_range.2 hlt)
      rw [Bool.and_eq_true] at h1
      have h2 := List.all_eq_true.1 h1.1 j (List.mem_range.2 hjk)
      rw [hk] at h2
      simpa using h2
    · rw [dstOf, Array.getElem?_eq_none hge] at hk; cases hk
  have main : ∀ fuel listed a' w', fuel ≤ ops.size → RegInv ops F (S (ops.size - fuel)) a listed a' w' → (listed.toList.countP fun b => !b) = fuel → wpAny P .any ops Q fuel listed a' w' := by
    have fin : ∀ fuel listed a' w', RegInv ops F (S (ops.size - fuel)) a listed a' w' → (listed.toList.countP fun b => !b) = fuel → Region.ready .any ops listed = [] → Q .normal a' w' := by
      intro fuel listed a' w' hI hc hr
      obtain ⟨hs, hcl, x, rfl, hS, hF⟩ := hI
      have all : ∀ j, j < ops.size → listed.getD j false = true := by
        intro j
        induction j using Nat.strongRecOn with
        | _ j ih =>
          intro hj
          cases hl : listed.getD j false with
          | true => rfl
          | false =>
            have hmem : j ∈ Region.ready .any ops listed := by
              rw [mem_ready]
              refine ⟨?_, ops[j], Array.getElem?_eq_getElem hj, fun e he hb => ?_⟩
              · simp only [Array.getD_eq_getD_getElem?, Array.getElem?_eq_getElem (show j < listed.size by omega), Option.getD_some] at hl ⊢; exact hl
              · have h1 := List.all_eq_true.1 hA j (List.mem_range.2 hj)
                rw [Bool.and_eq_true] at h1
                have h2 := h1.2
                rw [Array.getElem?_eq_getElem hj] at h2
                simp only [Bool.and_eq_true] at h2
                have := Array.all_eq_true_iff_forall_mem.1 h2.1 e he
                have hlt : e.on < j := by simpa [hb] using this
                exact ih e.on hlt (by omega)
            rw [hr] at hmem
            cases hmem
      have h0 : fuel = 0 := by
        rw [← hc, List.countP_eq_zero]
        intro b hb
        obtain ⟨j, hj, rfl⟩ := List.mem_iff_getElem.1 hb
        have := all j (by simpa [hs] using hj)
        simp only [Array.getD_eq_getD_getElem?, Array.getElem?_eq_getElem (show j < listed.size by simpa using hj), Option.getD_some] at this
        simp [this]
      subst h0
      exact hend x w' hS fun j hj => hF j (all j hj)
    intro fuel
    induction fuel with
    | zero =>
      intro listed a' w' hf hI hc
      have hr : Region.ready .any ops listed = [] := by
        apply List.eq_nil_iff_forall_not_mem.2
        intro j hj
        rw [mem_ready] at hj
        have h1 := hj.1
        obtain ⟨o, ho, _⟩ := hj.2
        have hlt : j < listed.size := by rw [hI.1]; exact (Array.getElem?_eq_some_iff.1 ho).1
        rw [List.countP_eq_zero] at hc
        have := hc listed[j] (by simp)
        simp only [Array.getD_eq_getD_getElem?, Array.getElem?_eq_getElem hlt, Option.getD_some] at h1
        rw [h1] at this
        exact this rfl
      exact ⟨hr, fin _ _ _ _ hI hc hr⟩
    | succ fuel ih =>
      intro listed a' w' hf hI hc
      refine ⟨fin _ _ _ _ hI hc, fun i hi => ?_⟩
      obtain ⟨hs, hcl, x, rfl, hS, hF⟩ := hI
      rw [mem_ready] at hi
      obtain ⟨hun, o, ho, hdeps⟩ := hi
      have hlt : i < ops.size := (Array.getElem?_eq_some_iff.1 ho).1
      have hlt' : i < listed.size := by omega
      have hunl : listed[i] = false := by
        simpa only [Array.getD_eq_getD_getElem?, Array.getElem?_eq_getElem hlt', Option.getD_some] using hun
      have hanc := reg_anc hA hcl i hlt (fun o' ho' => by rw [ho] at ho'; injection ho' with ho'; subst ho'; exact hdeps)
      refine hob i hlt (ops.size - (fuel + 1)) (by omega) x w' hS (fun d hd' => hF d (hanc d hd')) _ ?_
      intro v w'' hS' hR hFi
      rw [fill_put x a i v hd ops.size hlt]
      rw [show ops.size - (fuel + 1) + 1 = ops.size - fuel by omega] at hS'
      refine ih _ _ _ (by omega) ⟨by simpa using hs, ?_, upd x i v, rfl, hS', ?_⟩ ?_
      · intro j o' ho' hl e he hb
        by_cases hji : j = i
        · subst hji
          rw [ho] at ho'; injection ho' with ho'; subst ho'
          exact getD_set_true (hdeps e he hb)
        · rw [getD_set_ne false (Ne.symm hji)] at hl
          exact getD_set_true (hcl j o' ho' hl e he hb)
      · intro j hl
        by_cases hji : j = i
        · subst hji; exact hFi
        · rw [getD_set_ne false (Ne.symm hji)] at hl
          have hj : j < ops.size := by
            rcases Nat.lt_or_ge j listed.size with h | h
            · omega
            · simp [Array.getElem?_eq_none h] at hl
          refine hloc j hj x _ w' w'' ?_ hR (hF j hl)
          intro d hd'
          refine upd_ne x v ?_
          rintro rfl
          rcases hd' with rfl | hd'
          · exact hji rfl
          · have := reg_anc hA hcl j hj (fun o' ho' => hcl j o' ho' hl) d hd'
            simp only [Array.getD_eq_getD_getElem?, Array.getElem?_eq_getElem hlt', Option.getD_some, hunl] at this
            cases this
      · have : ∀ (l : List Bool) (k : Nat) (hk : k < l.length), l[k] = false → (l.set k true).countP (fun b => !b) + 1 = l.countP (fun b => !b) := by
          intro l
          induction l with
          | nil => intro k hk; simp at hk
          | cons b l ihl =>
            intro k hk hb
            cases k with
            | zero => simp at hb; subst hb; simp
            | succ k =>
              simp at hb hk
              have := ihl k hk hb
              simp only [List.set_cons_succ, List.countP_cons]
              omega
        have h1 := this listed.toList i (by simpa using hlt') (by simpa using hunl)
        rw [Array.toList_setIfInBounds]
        omega
  have hstart := main ops.size (Array.replicate ops.size false) a { w with drawn := w.drawn + 1 } (Nat.le_refl _) ⟨by simp, ?_, _, (fill_start a ops.size).symm, by rw [Nat.sub_self]; exact h0, ?_⟩ ?_
  · exact hstart
  · intro j o _ hl
    rcases Nat.lt_or_ge j ops.size with h | h
    · simp [h] at hl
    · simp [Nat.not_lt.2 h] at hl
  · intro j hl
    rcases Nat.lt_or_ge j ops.size with h | h
    · simp [h] at hl
    · simp [Nat.not_lt.2 h] at hl
  · rw [Array.toList_replicate, List.countP_replicate]; simp

/-- An operation of the region, carried out where it is wanted, passed over elsewhere. -/
theorem wpOp_ob {i : Nat} {o : Oper} {a : Act} {w : World} {K : Act → World → Prop} (ho : ops[i]? = some o)
    (h : if Region.wanted o (yielded ops a.tmps) = true then o.wp P a w K Q else K (a.put o.dst undef) w) : wpOp P ops Q i K a w := by
  unfold wpOp
  rw [ho]
  dsimp only
  split
  · rename_i hw; rw [if_pos hw] at h; exact .inl h
  · rename_i hw; rw [if_neg hw] at h; exact h
theorem wpOp_plain {i : Nat} {o : Oper} {a : Act} {w : World} {K : Act → World → Prop} (ho : ops[i]? = some o) (hg : o.guard = none) (h : o.wp P a w K Q) : wpOp P ops Q i K a w :=
  wpOp_ob ho (by rw [Region.wanted, hg]; exact h)
theorem wpOp_yes {i g t : Nat} {b : Bool} {o : Oper} {a : Act} {w : World} {K : Act → World → Prop} (ho : ops[i]? = some o) (hg : o.guard = some (g, b)) (hd : dstOf ops g = some t) (hv : a.tmps[t]? = some (.bool b)) (h : o.wp P a w K Q) : wpOp P ops Q i K a w := by
  refine wpOp_ob ho ?_
  have : Region.wanted o (yielded ops a.tmps) = true := by
    rw [Region.wanted, hg]
    simp only [yielded]
    rw [show (ops[g]?).bind (·.dst) = some t from hd]
    simp only [Option.bind_some, hv, beq_self_eq_true]
  rw [if_pos this]
  exact h
theorem wpOp_no {i g t : Nat} {b : Bool} {o : Oper} {a : Act} {w : World} {K : Act → World → Prop} (ho : ops[i]? = some o) (hg : o.guard = some (g, b)) (hd : dstOf ops g = some t) (hv : a.tmps[t]? = some (.bool (!b))) (h : K (a.put o.dst undef) w) : wpOp P ops Q i K a w := by
  refine wpOp_ob ho ?_
  have : Region.wanted o (yielded ops a.tmps) = false := by
    rw [Region.wanted, hg]
    simp only [yielded]
    rw [show (ops[g]?).bind (·.dst) = some t from hd]
    simp only [Option.bind_some, hv]
    cases b <;> rfl
  rw [if_neg (by rw [this]; exact Bool.false_ne_true)]
  exact h

/-- The frame a, the slots of ds filled by x, from number i on. -/
def fillL : List (Option Tmp) → Nat → (Nat → Value) → Act → Act
  | [], _, _, a => a
  | d :: ds, i, x, a => fillL ds (i + 1) x (a.put d (x i))
def AllLt : Nat → (Nat → Prop) → Prop
  | 0, _ => True
  | n + 1, p => AllLt n p ∧ p n
theorem AllLt.get {p : Nat → Prop} : ∀ {n : Nat}, AllLt n p → ∀ i, i < n → p i := by
  intro n
  induction n with
  | zero => intro _ i h; omega
  | succ n ih =>
    intro h i hi
    by_cases hin : i = n
    · subst hin; exact h.2
    · exact ih h.1 i (by omega)
theorem fillL_snoc (d : Option Tmp) : ∀ (ds : List (Option Tmp)) (i : Nat) (x : Nat → Value) (a : Act), fillL (ds ++ [d]) i x a = (fillL ds i x a).put d (x (i + ds.length)) := by
  intro ds
  induction ds with
  | nil => intro i x a; rfl
  | cons e ds ih =>
    intro i x a
    rw [List.cons_append, fillL, ih, fillL, List.length_cons, show i + 1 + ds.length = i + (ds.length + 1) by omega]
theorem fillL_eq {ds : List (Option Tmp)} (hds : ops.toList.map (·.dst) = ds) (x : Nat → Value) (a : Act) : ∀ k, k ≤ ops.size → fillL (ds.take k) 0 x a = fillAct ops x a k := by
  intro k
  induction k with
  | zero => intro _; rfl
  | succ k ih =>
    intro hk
    have hl : k < ds.length := by rw [← hds, List.length_map, Array.length_toList]; omega
    rw [List.take_add_one, List.getElem?_eq_getElem hl]
    show fillL (ds.take k ++ [ds[k]]) 0 x a = _
    rw [fillL_snoc, ih (by omega), fillAct, List.length_take, Nat.zero_add, Nat.min_eq_left (by omega)]
    congr 1
    subst hds
    simp only [List.getElem_map, Array.getElem_toList, dstOf, Array.getElem?_eq_getElem (show k < ops.size by omega), Option.bind_some]
theorem wp_region_g {id : Nat} {a : Act} {w : World} (hm : P.follows .mixedOrders = true) (A : List (List Nat)) (hA : regOk ops A = true) (n : Nat) (hn : ops.size = n) (ds : List (Option Tmp)) (hds : ops.toList.map (·.dst) = ds)
    (G : List (Value → (Nat → Value) → World → Prop)) (S : Nat → World → Prop) (R : World → World → Prop)
    (hRr : ∀ w, R w w) (h0 : S 0 w.drew)
    (hloc : AllLt n fun j => ∀ v x x' w w', (∀ d ∈ A.getD j [], x' d = x d) → R w w' → G.getD j (fun _ _ _ => True) v x w → G.getD j (fun _ _ _ => True) v x' w')
    (hob : AllLt n fun i => ∀ c, c < n → ∀ x w, S c w → (∀ d ∈ A.getD i [], G.getD d (fun _ _ _ => True) (x d) x w) → ∀ K : Act → World → Prop,
      (∀ v w', S (c + 1) w' → R w w' → G.getD i (fun _ _ _ => True) v x w' → K ((fillL ds 0 x a).put (ds.getD i none) v) w') → wpOp P ops Q i K (fillL ds 0 x a) w)
    (hend : ∀ x w, S n w → (∀ j, j < n → G.getD j (fun _ _ _ => True) (x j) x w) → Q .normal (fillL ds 0 x a) w) : (Code.region id ops true).wp P Q a w := by
  have hall : ∀ x, fillL ds 0 x a = fillAct ops x a ops.size := fun x => by
    rw [← fillL_eq hds x a ops.size (Nat.le_refl _), List.take_of_length_le]
    rw [← hds]; simp
  have hlt : ∀ i, i < n → ∀ d ∈ A.getD i [], d ≠ i := by
    intro i hi d hd
    have h1 := List.all_eq_true.1 hA i (List.mem_range.2 (by omega))
    rw [Bool.and_eq_true] at h1
    rintro rfl
    -- it would wait for itself: then it could never come up; ruled out by reg_anc on the set of all that come before it
    have key := reg_anc hA (listed := ((Array.range ops.size).map fun j => decide (j < d))) (fun j o ho hl e he hb => by
      have hj : j < ops.size := (Array.getElem?_eq_some_iff.1 ho).1
      have h2 := List.all_eq_true.1 hA j (List.mem_range.2 hj)
      rw [Bool.and_eq_true] at h2
      have h3 := h2.2
      rw [ho] at h3
      simp only [Bool.and_eq_true] at h3
      have h4 := Array.all_eq_true_iff_forall_mem.1 h3.1 e he
      have h5 : e.on < j := by simpa [hb] using h4
      have hjd : j < d := by simpa [hj] using hl
      simp [show e.on < ops.size by omega, show e.on < d by omega]) d (by omega) (fun o ho e he hb => by
        have h3 := h1.2
        rw [ho] at h3
        simp only [Bool.and_eq_true] at h3
        have h4 := Array.all_eq_true_iff_forall_mem.1 h3.1 e he
        have h5 : e.on < d := by simpa [hb] using h4
        simp [show e.on < ops.size by omega, show e.on < d by omega]) d hd
    simp [show d < ops.size by omega] at key
  refine wp_region_facts hm A hA (fun j x w => G.getD j (fun _ _ _ => True) (x j) x w) S R h0 ?_ ?_ ?_
  · intro j hj x x' w w' hx hR hF
    have := hloc.get j (by omega) (x j) x x' w w' (fun d hd => hx d (.inr hd)) hR hF
    rw [← hx j (.inl rfl)] at this
    exact this
  · intro i hi c hc x w' hS hd K hK
    have := hob.get i (by omega) c (by omega) x w' hS hd K ?_
    · rw [hall] at this; exact this
    · intro v w'' hS' hR hG
      rw [hall]
      have hdst : ds.getD i none = dstOf ops i := by
        rw [← hds]
        simp [dstOf, hi]
      rw [hdst]
      refine hK v w'' hS' hR ?_
      show G.getD i (fun _ _ _ => True) (upd x i v i) (upd x i v) w''
      rw [upd_self]
      exact hloc.get i (by omega) v x _ w'' w'' (fun d hd => upd_ne x v (hlt i (by omega) d hd)) (hRr _) hG
  · intro x w' hS hF
    have := hend x w' (by rw [← hn]; exact hS) (fun j hj => hF j (by omega))
    rw [hall] at this
    exact this
end
end Go.Proofs.YtgccpjhkgkhllaaDoor
