/-
  THE RUN OF THE SENDERS, slot by slot, in plain Lean: what one slot does; what the heap of the senders that still wait holds. No program in sight.
-/
import Derived.Test.YtnebmfdjcikegaaHeap
import Derived.Test.YtnebmfdjcikegaaHf
namespace Go.Proofs.Ytnebmfdjcikegaa
open Go.RowKit
set_option linter.unusedVariables false

structure Sd where
  wh : Int
  seed : Int
  f : Int
  out : Int
abbrev SdF := Nat → Sd
def pend (t : Int) (s : Sd) : Bool := decide (s.out < 0) && decide (s.wh = t)
def failD (t : Int) (s : Sd) : Sd := ⟨t + 1 + backoff (nextSeed s.seed) (min (s.f + 1) 100), nextSeed s.seed, s.f + 1, s.out⟩
def winD (t : Int) (s : Sd) : Sd := ⟨s.wh, s.seed, s.f, t⟩
def listP (n : Nat) (t : Int) (σ : SdF) : List Nat := (List.range n).filter fun k => pend t (σ k)
def updD (c : Nat) (t : Int) (s : Sd) : Sd := if c = 1 then winD t s else failD t s
def partS (l : List Nat) (t : Int) (σ : SdF) (i : Nat) : SdF := fun k => if k ∈ l.take i then updD l.length t (σ k) else σ k
def stepS (n : Nat) (t : Int) (σ : SdF) : SdF := partS (listP n t σ) t σ (listP n t σ).length
def itS (n : Nat) (σ : SdF) : Nat → SdF
  | 0 => σ
  | t + 1 => stepS n t (itS n σ t)
def initS (xs : List Int) : SdF := fun k => ⟨0, xs.getD k 0, 0, -1⟩
def outs (n : Nat) (σ : SdF) : List Int := (List.range n).map fun k => (σ k).out
def whs (n : Nat) (σ : SdF) : List Int := (List.range n).map fun k => (σ k).wh
def seeds (n : Nat) (σ : SdF) : List Int := (List.range n).map fun k => (σ k).seed
def fls (n : Nat) (σ : SdF) : List Int := (List.range n).map fun k => (σ k).f
theorem map_range_set {n k : Nat} {f : Nat → Int} {v : Int} (hk : k < n) : ((List.range n).map f).set k v = (List.range n).map fun j => if j = k then v else f j := by
  apply List.ext_getElem?
  intro j
  rw [List.getElem?_set, List.getElem?_map, List.getElem?_map, List.length_map, List.length_range]
  by_cases h : k = j
  · subst h
    simp [hk]
  · rw [if_neg h]
    by_cases hj : j < n
    · simp [hj, Ne.symm h]
    · simp [hj]
theorem map_range_get {n k : Nat} {f : Nat → Int} {x : Int} (h : ((List.range n).map f)[k]? = some x) : x = f k ∧ k < n := by
  rw [List.getElem?_map] at h
  by_cases hk : k < n
  · simp [hk] at h
    exact ⟨h.symm, hk⟩
  · simp [hk] at h
theorem mem_listP {n k : Nat} {t : Int} {σ : SdF} : k ∈ listP n t σ ↔ k < n ∧ pend t (σ k) = true := by
  unfold listP
  simp
theorem stepS_at (n : Nat) (t : Int) (σ : SdF) (k : Nat) : stepS n t σ k = if k < n ∧ pend t (σ k) = true then updD (listP n t σ).length t (σ k) else σ k := by
  unfold stepS partS
  rw [List.take_length]
  by_cases h : k < n ∧ pend t (σ k) = true
  · rw [if_pos h, if_pos (mem_listP.2 h)]
  · rw [if_neg h, if_neg (fun h' => h (mem_listP.1 h'))]
theorem listP_nodup (n : Nat) (t : Int) (σ : SdF) : (listP n t σ).Nodup := List.Pairwise.filter _ List.nodup_range
theorem partS_next {l : List Nat} (hl : l.Nodup) {t : Int} {σ : SdF} {i k : Nat} (h : l[i]? = some k) : partS l t σ i k = σ k ∧ partS l t σ (i + 1) = fun j => if j = k then updD l.length t (σ k) else partS l t σ i j := by
  have hn : k ∉ l.take i := by
    intro hm
    obtain ⟨j, hj⟩ := List.getElem?_of_mem hm
    rw [List.getElem?_take] at hj
    split at hj
    · rename_i hji
      have h1 : j < l.length := by
        rcases Nat.lt_or_ge j l.length with h1 | h1
        · exact h1
        · rw [List.getElem?_eq_none h1] at hj; cases hj
      have := (List.getElem?_inj h1 hl).1 (hj.trans h.symm)
      omega
    · cases hj
  refine ⟨by unfold partS; rw [if_neg hn], ?_⟩
  funext j
  unfold partS
  rw [take_snoc l i k h]
  by_cases hj : j = k
  · subst hj
    rw [if_pos (by simp), if_pos rfl]
  · rw [if_neg hj]
    by_cases hm : j ∈ l.take i
    · rw [if_pos (by simp [hm]), if_pos hm]
    · rw [if_neg (by simp [hm, hj]), if_neg hm]

/-- In range. -/
def GoodD (n t : Nat) (σ : SdF) : Prop := ∀ k, k < n → (0 ≤ (σ k).seed ∧ (σ k).seed ≤ 2047) ∧ (0 ≤ (σ k).f ∧ (σ k).f ≤ t) ∧ ((σ k).out < 0 → (t : Int) ≤ (σ k).wh ∧ (σ k).wh ≤ t + 64)
theorem good_fail {t : Nat} {s : Sd} (h1 : 0 ≤ s.seed) (h2 : s.seed ≤ 2047) (h3 : 0 ≤ s.f) : (0 ≤ (failD t s).seed ∧ (failD t s).seed ≤ 2047) ∧ ((t : Int) + 1 ≤ (failD t s).wh ∧ (failD t s).wh ≤ t + 1 + 63) := by
  have hs := nextSeed_in h1 h2
  have hb := backoff_in (a := min (s.f + 1) 100) hs.1 hs.2 (by omega) (by omega)
  refine ⟨hs, ?_⟩
  show (t : Int) + 1 ≤ t + 1 + backoff (nextSeed s.seed) (min (s.f + 1) 100) ∧ t + 1 + backoff (nextSeed s.seed) (min (s.f + 1) 100) ≤ (t : Int) + 1 + 63
  omega
theorem pend_iff {t : Int} {s : Sd} : pend t s = true ↔ s.out < 0 ∧ s.wh = t := by unfold pend; simp
theorem good_step {n t : Nat} {σ : SdF} (h : GoodD n t σ) : GoodD n (t + 1) (stepS n t σ) := by
  intro k hk
  obtain ⟨h1, h2, h3⟩ := h k hk
  rw [stepS_at]
  by_cases hp : k < n ∧ pend t (σ k) = true
  · rw [if_pos hp]
    unfold updD
    split
    · refine ⟨h1, ⟨h2.1, ?_⟩, fun ho => ?_⟩
      · have : (winD t (σ k)).f = (σ k).f := rfl
        rw [this]; omega
      · have : (winD t (σ k)).out = t := rfl
        rw [this] at ho
        omega
    · have hg := good_fail (t := t) h1.1 h1.2 h2.1
      have e : (failD t (σ k)).f = (σ k).f + 1 := rfl
      refine ⟨hg.1, ⟨by rw [e]; omega, by rw [e]; omega⟩, fun _ => ?_⟩
      have := hg.2
      omega
  · rw [if_neg hp]
    refine ⟨h1, ⟨h2.1, by omega⟩, fun ho => ?_⟩
    have h4 := h3 ho
    have : ¬ (σ k).wh = t := fun he => hp ⟨hk, pend_iff.2 ⟨ho, he⟩⟩
    omega
theorem good_it {n : Nat} {σ : SdF} (h : GoodD n 0 σ) : ∀ t, GoodD n t (itS n σ t)
  | 0 => h
  | t + 1 => good_step (good_it h t)
theorem skipS {n : Nat} {σ : SdF} {t : Nat} : ∀ d : Nat, (∀ k, k < n → (itS n σ t k).out < 0 → (t : Int) + (d : Int) ≤ (itS n σ t k).wh) → itS n σ (t + d) = itS n σ t
  | 0, _ => rfl
  | d + 1, h => by
    have ih := skipS d (fun k hk ho => by have := h k hk ho; omega)
    show stepS n _ (itS n σ (t + d)) = _
    rw [ih]
    funext k
    rw [stepS_at, if_neg]
    rintro ⟨hk, hp⟩
    obtain ⟨h1, h2⟩ := pend_iff.1 hp
    have h3 : (itS n σ t k).wh = ((t + d : Nat) : Int) := h2
    have := h k hk h1
    omega

/-- The senders that still wait. -/
def qf (σ : SdF) (k : Nat) : Snd := ⟨(σ k).wh, k, (σ k).seed, (σ k).f⟩
def qL (n : Nat) (σ : SdF) : List Snd := ((List.range n).filter fun k => decide ((σ k).out < 0)).map (qf σ)
theorem mem_qL {n : Nat} {σ : SdF} {s : Snd} (h : s ∈ qL n σ) : ∃ k, k < n ∧ (σ k).out < 0 ∧ s = qf σ k := by
  unfold qL at h
  obtain ⟨k, hk, rfl⟩ := List.mem_map.1 h
  simp at hk
  exact ⟨k, hk.1, hk.2, rfl⟩
theorem qf_mem {n k : Nat} {σ : SdF} (hk : k < n) (ho : (σ k).out < 0) : qf σ k ∈ qL n σ := List.mem_map.2 ⟨k, by simp [hk, ho], rfl⟩
theorem qL_len (n : Nat) (σ : SdF) : (qL n σ).length ≤ n := by
  unfold qL
  rw [List.length_map]
  exact Nat.le_trans (List.length_filter_le _ _) (by simp)
theorem qL_now (n : Nat) (t : Int) (σ : SdF) : (qL n σ).filter (fun s => decide (s.slot = t)) = (listP n t σ).map (qf σ) := by
  unfold qL listP
  rw [List.filter_map, List.filter_filter]
  congr 1
  apply List.filter_congr
  intro k _
  unfold pend
  show (decide ((σ k).wh = t) && decide ((σ k).out < 0)) = (decide ((σ k).out < 0) && decide ((σ k).wh = t))
  rw [Bool.and_comm]
theorem qL_win {n : Nat} {t : Int} {σ : SdF} (ht : 0 ≤ t) (h1 : (listP n t σ).length = 1) : qL n (stepS n t σ) = (qL n σ).filter (fun s => !decide (s.slot = t)) := by
  unfold qL
  rw [List.filter_map, List.filter_filter]
  have e : ((List.range n).filter fun k => decide ((stepS n t σ k).out < 0)) = (List.range n).filter fun k => ((fun s => !decide (s.slot = t)) ∘ qf σ) k && decide ((σ k).out < 0) := by
    apply List.filter_congr
    intro k hk
    have hk := List.mem_range.1 hk
    show decide _ = (!decide ((σ k).wh = t) && decide ((σ k).out < 0))
    rw [stepS_at, h1]
    by_cases hp : pend t (σ k) = true
    · rw [if_pos ⟨hk, hp⟩]
      obtain ⟨h2, h3⟩ := pend_iff.1 hp
      have e1 : (updD 1 t (σ k)).out = t := rfl
      rw [e1]
      simp [h3, ht]
    · rw [if_neg (fun h => hp h.2)]
      by_cases ho : (σ k).out < 0
      · have : ¬ (σ k).wh = t := fun he => hp (pend_iff.2 ⟨ho, he⟩)
        simp [ho, this]
      · simp [ho]
  rw [e]
  apply List.map_congr_left
  intro k hk
  simp only [List.mem_filter, Bool.and_eq_true] at hk
  have hw : ¬ (σ k).wh = t := fun he => by
    have h9 : (!decide ((σ k).wh = t)) = true := hk.2.1
    rw [decide_eq_true he] at h9
    cases h9
  unfold qf
  rw [stepS_at, if_neg (fun h => hw (pend_iff.1 h.2).2)]
theorem outs_win {n k : Nat} {t : Int} {σ : SdF} (h1 : listP n t σ = [k]) : outs n (stepS n t σ) = (outs n σ).set k t ∧ k < n := by
  have hk : k < n ∧ pend t (σ k) = true := mem_listP.1 (by rw [h1]; simp)
  refine ⟨?_, hk.1⟩
  unfold outs
  rw [map_range_set hk.1]
  apply List.map_congr_left
  intro j hj
  rw [stepS_at, h1]
  by_cases hp : j < n ∧ pend t (σ j) = true
  · have : j ∈ listP n t σ := mem_listP.2 hp
    rw [h1] at this
    have : j = k := by simpa using this
    rw [if_pos hp, if_pos this]
    rfl
  · rw [if_neg hp, if_neg (fun e => hp (by rw [e]; exact hk))]
theorem failS_qf (t : Int) (σ : SdF) (k : Nat) (h : (σ k).wh = t) : failS (qf σ k) = ⟨(failD t (σ k)).wh, k, (failD t (σ k)).seed, (failD t (σ k)).f⟩ := by
  unfold failS qf failD waitS
  simp only [h, Snd.mk.injEq, and_self, and_true]
  omega
theorem qL_fail {n : Nat} {t : Int} {σ : SdF} (h1 : (listP n t σ).length ≠ 1) : qL n (stepS n t σ) = (qL n σ).map (fun s => if s.slot = t then failS s else s) := by
  unfold qL
  rw [List.map_map]
  have e : ((List.range n).filter fun k => decide ((stepS n t σ k).out < 0)) = (List.range n).filter fun k => decide ((σ k).out < 0) := by
    apply List.filter_congr
    intro k hk
    rw [stepS_at]
    split
    · unfold updD
      rw [if_neg h1]
      rfl
    · rfl
  rw [e]
  apply List.map_congr_left
  intro k hk
  simp only [List.mem_filter, decide_eq_true_eq, List.mem_range] at hk
  show qf (stepS n t σ) k = if (σ k).wh = t then failS (qf σ k) else qf σ k
  by_cases hw : (σ k).wh = t
  · rw [if_pos hw, failS_qf t σ k hw]
    unfold qf
    rw [stepS_at, if_pos ⟨hk.1, pend_iff.2 ⟨hk.2, hw⟩⟩]
    unfold updD
    rw [if_neg h1]
  · rw [if_neg hw]
    unfold qf
    rw [stepS_at, if_neg (fun h => hw (pend_iff.1 h.2).2)]
theorem outs_fail {n : Nat} {t : Int} {σ : SdF} (h1 : (listP n t σ).length ≠ 1) : outs n (stepS n t σ) = outs n σ := by
  unfold outs
  apply List.map_congr_left
  intro j hj
  rw [stepS_at]
  split
  · unfold updD
    rw [if_neg h1]
    rfl
  · rfl
theorem map_split {α : Type} (p : α → Bool) (g : α → α) : ∀ M : List α, (M.map fun s => if p s = true then g s else s).Perm ((M.filter p).map g ++ M.filter fun s => !p s)
  | [] => List.Perm.refl _
  | a :: M => by
    have ih := map_split p g M
    by_cases h : p a = true
    · rw [List.map_cons, if_pos h, List.filter_cons_of_pos h, List.filter_cons_of_neg (by simp [h]), List.map_cons, List.cons_append]
      exact ih.cons _
    · rw [List.map_cons, if_neg h, List.filter_cons_of_neg h, List.filter_cons_of_pos (by simpa using h)]
      exact (ih.cons _).trans List.perm_middle.symm
/-- What came out of the heap is what is due now. -/
theorem group_due {n : Nat} {t : Int} {σ : SdF} {G L : List Snd} (h : (G ++ L).Perm (qL n σ)) (hG : ∀ s ∈ G, s.slot = t) (hL : ∀ s ∈ L, s.slot ≠ t) :
    G.Perm ((qL n σ).filter fun s => decide (s.slot = t)) ∧ L.Perm ((qL n σ).filter fun s => !decide (s.slot = t)) := by
  have h1 := h.filter fun s => decide (s.slot = t)
  have h2 := h.filter fun s => !decide (s.slot = t)
  rw [List.filter_append, List.filter_eq_self.2 (fun s hs => by simp [hG s hs]), List.filter_eq_nil_iff.2 (fun s hs => by simp [hL s hs]), List.append_nil] at h1
  rw [List.filter_append, List.filter_eq_nil_iff.2 (fun s hs => by simp [hG s hs]), List.filter_eq_self.2 (fun s hs => by simp [hL s hs]), List.nil_append] at h2
  exact ⟨h1, h2⟩
theorem due_win {n : Nat} {t : Int} {σ : SdF} {G L : List Snd} (ht : 0 ≤ t) (h : (G ++ L).Perm (qL n σ)) (hG : ∀ s ∈ G, s.slot = t) (hL : ∀ s ∈ L, s.slot ≠ t) (h1 : G.length = 1) :
    ∃ k, k < n ∧ gt G 0 = qf σ k ∧ L.Perm (qL n (stepS n t σ)) ∧ outs n (stepS n t σ) = (outs n σ).set k t := by
  obtain ⟨p1, p2⟩ := group_due h hG hL
  rw [qL_now] at p1
  have hl : (listP n t σ).length = 1 := by rw [← h1, p1.length_eq, List.length_map]
  obtain ⟨k, hk⟩ := List.length_eq_one_iff.1 hl
  obtain ⟨g, hg⟩ := List.length_eq_one_iff.1 h1
  subst hg
  rw [hk] at p1
  have e : g = qf σ k := by
    have := p1.mem_iff (a := g)
    simpa using this
  have ho := outs_win hk
  exact ⟨k, ho.2, e, by rw [qL_win ht hl]; exact p2, ho.1⟩
theorem due_fail {n : Nat} {t : Int} {σ : SdF} {G L : List Snd} (h : (G ++ L).Perm (qL n σ)) (hG : ∀ s ∈ G, s.slot = t) (hL : ∀ s ∈ L, s.slot ≠ t) (h1 : G.length ≠ 1) :
    (G.map failS ++ L).Perm (qL n (stepS n t σ)) ∧ outs n (stepS n t σ) = outs n σ := by
  obtain ⟨p1, p2⟩ := group_due h hG hL
  have hl : (listP n t σ).length ≠ 1 := by
    rw [qL_now] at p1
    intro e
    exact h1 (by rw [p1.length_eq, List.length_map]; exact e)
  refine ⟨?_, outs_fail hl⟩
  rw [qL_fail hl]
  have hm := map_split (fun s : Snd => decide (s.slot = t)) failS (qL n σ)
  simp only [decide_eq_true_eq] at hm
  exact ((p1.map failS).append p2).trans hm.symm

/-- Seeds that a run takes. -/
def SeedsOk (xs : List Int) : Prop := xs.length ≤ 8 ∧ ∀ x ∈ xs, 0 ≤ x ∧ x ≤ 2047
open Classical in
noncomputable def runI (xs : List Int) : List Int := if SeedsOk xs then outs xs.length (itS xs.length (initS xs) 400) else []
open Classical in
theorem runI_yes {xs : List Int} (h : SeedsOk xs) : runI xs = outs xs.length (itS xs.length (initS xs) 400) := by unfold runI; exact if_pos h
open Classical in
theorem runI_no {xs : List Int} (h : ¬ SeedsOk xs) : runI xs = [] := by unfold runI; exact if_neg h
theorem runI_len (xs : List Int) : (runI xs).length ≤ 8 := by
  by_cases h : SeedsOk xs
  · rw [runI_yes h]; unfold outs; simp; exact h.1
  · rw [runI_no h]; simp
theorem good_init {xs : List Int} (h : SeedsOk xs) : GoodD xs.length 0 (initS xs) := by
  intro k hk
  have hm : xs.getD k 0 ∈ xs := by
    rw [List.getD_eq_getElem?_getD, List.getElem?_eq_getElem hk]
    exact List.getElem_mem hk
  exact ⟨h.2 _ hm, ⟨by show (0 : Int) ≤ 0; omega, by show (0 : Int) ≤ _; omega⟩, fun _ => ⟨by show ((0 : Nat) : Int) ≤ 0; omega, by show (0 : Int) ≤ _; omega⟩⟩
theorem seeds_init (xs : List Int) : seeds xs.length (initS xs) = xs := by
  unfold seeds initS
  apply List.ext_getElem?
  intro j
  rw [List.getElem?_map]
  by_cases hj : j < xs.length
  · simp [hj, List.getD_eq_getElem?_getD]
  · simp [hj]
end Go.Proofs.Ytnebmfdjcikegaa
