/-
  The queue of senders in memory: what lies there; its methods Len, Less, Swap walked; which function a call through heap.Interface is.
-/
import Derived.Test.YtnebmfdjcikegaaProg
import Derived.Test.YtnebmfdjcikegaaHeap
import Derived.Outline
import Derived.Handy
import Derived.Deep.QuietTactic
import Derived.BigQuiet
import Derived.Deep.RegionLaw
namespace Go.Proofs.Ytnebmfdjcikegaa
open Go.RowKit
set_option linter.unusedVariables false

theorem wrap_ok (t : Array TypeId) (ty : TypeId) (a : Addr) (s m : String) : Builtin.ssaWrapNilChk_ t ty #[.pointer (some a), strVal s, strVal m] = pure (.pointer (some a)) := rfl
set_option maxRecDepth 100000 in
theorem meth_Len (a : Addr) (w : World) (v : Value) (h : w.cell? a = some v) : (method 177 48 (.pointer (some a)) "Len").run Try.prog w = .ok (56, v) w := by
  have hm : (Array.find? (fun x => x.name == "Len") Try.t48.methods).map (fun m => (m.path, m.func)) = some (#[], some (56, false)) := by kernel_rfl
  unfold method
  simp [go_sem]
  cases hf : Array.find? (fun x => x.name == "Len") Try.t48.methods with
  | none => rw [hf] at hm; simp at hm
  | some m =>
    rw [hf] at hm
    simp at hm
    obtain ⟨h1, h2⟩ := hm
    simp [h1, h2, follow, receiverAt, Place.get, wrap_ok, go_sem, h]
set_option maxRecDepth 100000 in
theorem meth_Less (a : Addr) (w : World) (v : Value) (h : w.cell? a = some v) : (method 177 48 (.pointer (some a)) "Less").run Try.prog w = .ok (57, v) w := by
  have hm : (Array.find? (fun x => x.name == "Less") Try.t48.methods).map (fun m => (m.path, m.func)) = some (#[], some (57, false)) := by kernel_rfl
  unfold method
  simp [go_sem]
  cases hf : Array.find? (fun x => x.name == "Less") Try.t48.methods with
  | none => rw [hf] at hm; simp at hm
  | some m =>
    rw [hf] at hm
    simp at hm
    obtain ⟨h1, h2⟩ := hm
    simp [h1, h2, follow, receiverAt, Place.get, wrap_ok, go_sem, h]
set_option maxRecDepth 100000 in
theorem meth_Swap (a : Addr) (w : World) (v : Value) (h : w.cell? a = some v) : (method 177 48 (.pointer (some a)) "Swap").run Try.prog w = .ok (58, v) w := by
  have hm : (Array.find? (fun x => x.name == "Swap") Try.t48.methods).map (fun m => (m.path, m.func)) = some (#[], some (58, false)) := by kernel_rfl
  unfold method
  simp [go_sem]
  cases hf : Array.find? (fun x => x.name == "Swap") Try.t48.methods with
  | none => rw [hf] at hm; simp at hm
  | some m =>
    rw [hf] at hm
    simp at hm
    obtain ⟨h1, h2⟩ := hm
    simp [h1, h2, follow, receiverAt, Place.get, wrap_ok, go_sem, h]
set_option maxRecDepth 100000 in
theorem meth_Pop (a : Addr) (w : World) : (method 177 48 (.pointer (some a)) "Pop").run Try.prog w = .ok (59, .pointer (some a)) w := by
  have hm : (Array.find? (fun x => x.name == "Pop") Try.t48.methods).map (fun m => (m.path, m.func)) = some (#[], some (59, true)) := by kernel_rfl
  unfold method
  simp [go_sem]
  cases hf : Array.find? (fun x => x.name == "Pop") Try.t48.methods with
  | none => rw [hf] at hm; simp at hm
  | some m =>
    rw [hf] at hm
    simp at hm
    obtain ⟨h1, h2⟩ := hm
    simp [h1, h2, follow, receiverAt, Place.get, go_sem]
set_option maxRecDepth 100000 in
theorem meth_Push (a : Addr) (w : World) : (method 177 48 (.pointer (some a)) "Push").run Try.prog w = .ok (60, .pointer (some a)) w := by
  have hm : (Array.find? (fun x => x.name == "Push") Try.t48.methods).map (fun m => (m.path, m.func)) = some (#[], some (60, true)) := by kernel_rfl
  unfold method
  simp [go_sem]
  cases hf : Array.find? (fun x => x.name == "Push") Try.t48.methods with
  | none => rw [hf] at hm; simp at hm
  | some m =>
    rw [hf] at hm
    simp at hm
    obtain ⟨h1, h2⟩ := hm
    simp [h1, h2, follow, receiverAt, Place.get, go_sem]

/-- The cells are the senders', one behind the other. -/
def P4 (cs : Array Value) (L : List Snd) : Prop := ∀ i s, L[i]? = some s → cs[i * 4]? = some (.int .i64 s.slot) ∧ cs[i * 4 + 1]? = some (.int .i64 s.number) ∧ cs[i * 4 + 2]? = some (.int .i64 s.seed) ∧ cs[i * 4 + 3]? = some (.int .i64 s.fails)
def set4 (cs : Array Value) (i : Nat) (s : Snd) : Array Value := (((cs.setIfInBounds (i * 4) (.int .i64 s.slot)).setIfInBounds (i * 4 + 1) (.int .i64 s.number)).setIfInBounds (i * 4 + 2) (.int .i64 s.seed)).setIfInBounds (i * 4 + 3) (.int .i64 s.fails)
theorem set4_size (cs : Array Value) (i : Nat) (s : Snd) : (set4 cs i s).size = cs.size := by simp [set4]
theorem set4_same {cs : Array Value} {i : Nat} {s : Snd} (h : i * 4 + 3 < cs.size) : (set4 cs i s)[i * 4]? = some (.int .i64 s.slot) ∧ (set4 cs i s)[i * 4 + 1]? = some (.int .i64 s.number) ∧ (set4 cs i s)[i * 4 + 2]? = some (.int .i64 s.seed) ∧ (set4 cs i s)[i * 4 + 3]? = some (.int .i64 s.fails) := by
  have h0 : i * 4 < cs.size := by omega
  have h1 : i * 4 + 1 < cs.size := by omega
  have h2 : i * 4 + 2 < cs.size := by omega
  unfold set4
  refine ⟨?_, ?_, ?_, ?_⟩ <;> simp [h, h0, h1, h2]
theorem set4_other {cs : Array Value} {i k f : Nat} {s : Snd} (hk : k ≠ i) (hf : f < 4) : (set4 cs i s)[k * 4 + f]? = cs[k * 4 + f]? := by
  unfold set4
  rw [Array.getElem?_setIfInBounds, if_neg (by omega), Array.getElem?_setIfInBounds, if_neg (by omega), Array.getElem?_setIfInBounds, if_neg (by omega), Array.getElem?_setIfInBounds, if_neg (by omega)]
theorem P4.set {cs : Array Value} {L : List Snd} {i : Nat} (h : P4 cs L) (hi : i < L.length) (hc : L.length * 4 ≤ cs.size) (s : Snd) : P4 (set4 cs i s) (L.set i s) := by
  intro k u hu
  rw [List.getElem?_set] at hu
  by_cases hk : k = i
  · subst hk
    rw [if_pos rfl, if_pos hi] at hu
    injection hu with hu
    subst hu
    exact set4_same (by omega)
  · rw [if_neg (Ne.symm hk)] at hu
    have := h k u hu
    refine ⟨?_, ?_, ?_, ?_⟩
    · exact (set4_other (f := 0) hk (by omega)).trans this.1
    · exact (set4_other (f := 1) hk (by omega)).trans this.2.1
    · exact (set4_other (f := 2) hk (by omega)).trans this.2.2.1
    · exact (set4_other (f := 3) hk (by omega)).trans this.2.2.2
theorem P4.swap {cs : Array Value} {L : List Snd} {i j : Nat} (h : P4 cs L) (hi : i < L.length) (hj : j < L.length) (hc : L.length * 4 ≤ cs.size) : P4 (set4 (set4 cs i (gt L j)) j (gt L i)) (swp L i j) :=
  (h.set hi hc (gt L j)).set (by simpa using hj) (by rw [set4_size]; simpa using hc) (gt L i)

/-- The queue: the variable's block hb holds a slice of the block qb, with room for n. -/
structure QM (w : World) (hb qb n : Nat) (L : List Snd) : Prop where
  var_ : Blk w hb 44 #[.slice (some ⟨qb, 0, none⟩) L.length n]
  ne : hb ≠ qb
  len : L.length ≤ n
  max : n ≤ maxLen
  cells : ∃ cs, Blk w qb 46 cs ∧ cs.size = n * 4 ∧ P4 cs L
section
variable {w w' : World} {hb qb n lo hi : Nat} {L : List Snd}
theorem QM.var (h : QM w hb qb n L) : w.cell? ⟨hb, 0, none⟩ = some (.slice (some ⟨qb, 0, none⟩) L.length n) := by rw [h.var_.cell]; rfl
theorem QM.vfr (h : QM w hb qb n L) : w.frozen? ⟨hb, 0, none⟩ = false := h.var_.frozen 0
theorem QM.keep (h : QM w hb qb n L) (h1 : w'.heap[hb]? = w.heap[hb]?) (h2 : w'.heap[qb]? = w.heap[qb]?) : QM w' hb qb n L := by
  obtain ⟨cs, hc, r⟩ := h.cells
  exact ⟨h1.trans h.var_, h.ne, h.len, h.max, cs, h2.trans hc, r⟩
theorem QM.drewN (h : QM w hb qb n L) (m : Nat) : QM (w.drewN m) hb qb n L := h.keep rfl rfl
theorem QM.drew (h : QM w hb qb n L) : QM w.drew hb qb n L := h.keep rfl rfl
theorem QM.alloc (h : QM w hb qb n L) (o : Obj) : QM (w.alloc o) hb qb n L := by
  obtain ⟨cs, hc, r⟩ := h.cells
  exact h.keep (Below.heap_alloc w o hb h.var_.lt) (Below.heap_alloc w o qb hc.lt)
theorem QM.at_ (h : QM w hb qb n L) {i : Nat} (hi : i < L.length) : w.cell? ⟨qb, 0 + i * 4, none⟩ = some (.int .i64 (gt L i).slot) ∧ w.cell? ⟨qb, 0 + i * 4 + 1, none⟩ = some (.int .i64 (gt L i).number) ∧ w.cell? ⟨qb, 0 + i * 4 + 2, none⟩ = some (.int .i64 (gt L i).seed) ∧ w.cell? ⟨qb, 0 + i * 4 + 3, none⟩ = some (.int .i64 (gt L i).fails) := by
  obtain ⟨cs, hc, hs, hp⟩ := h.cells
  have := hp i _ (gt_some hi)
  simp only [Nat.zero_add, hc.cell]
  exact this
theorem QM.fr (h : QM w hb qb n L) (k : Nat) : w.frozen? ⟨qb, k, none⟩ = false := by
  obtain ⟨cs, hc, _⟩ := h.cells
  exact hc.frozen k
end
set_option maxRecDepth 100000 in
theorem len_q (A : Option Addr) (n c : Nat) (w : World) :
    Calls Try.prog 56 #[.slice A n c] w fun e w' => e = .returned (.int .i64 n) ∧ w = w' := by
  go_enter Try.func56, Try.ntmps56
  go_wp2
  go_ret
  exact ⟨rfl, rfl⟩
set_option maxRecDepth 100000 in
theorem less_q (b o n c i j : Nat) (x y : Int) (hi : i < n) (hj : j < n) (w : World) (hx : w.cell? ⟨b, o + i * 4, none⟩ = some (.int .i64 x)) (hy : w.cell? ⟨b, o + j * 4, none⟩ = some (.int .i64 y)) :
    Calls Try.prog 57 #[.slice (some ⟨b, o, none⟩) n c, .int .i64 i, .int .i64 j] w fun e w' => e = .returned (.bool (decide (x < y))) ∧ ∃ m, w' = w.drewN m := by
  have h1 : (i : Int) < (n : Int) := by omega
  have h2 : (j : Int) < (n : Int) := by omega
  go_enter Try.func57, Try.ntmps57
  go_wp2_with fail
  go_quiet (fail)
  go_wp2
  go_ret
  exact ⟨rfl, _, rfl⟩
theorem less_m {hb qb n i j : Nat} {L : List Snd} {w : World} (lo hi : Nat) (h : QM w hb qb n L) (hi' : i < L.length) (hj : j < L.length) :
    Calls Try.prog 57 #[.slice (some ⟨qb, 0, none⟩) L.length n, .int .i64 i, .int .i64 j] w fun e w' => e = .returned (.bool (decide (sl L i < sl L j))) ∧ QM w' hb qb n L ∧ Only lo hi w w' :=
  (less_q qb 0 L.length n i j _ _ hi' hj w (h.at_ hi').1 (h.at_ hj).1).mono fun _ _ ⟨he, m, hw⟩ => ⟨he, by rw [hw]; exact h.drewN m, by rw [hw]; exact (Only.refl lo hi w).drewN m⟩
set_option maxRecDepth 100000 in
set_option maxHeartbeats 1600000 in
theorem swap_q (b o n c i j : Nat) (x0 x1 x2 x3 y0 y1 y2 y3 : Int) (hi : i < n) (hj : j < n) (w : World)
    (hx0 : w.cell? ⟨b, o + i * 4, none⟩ = some (.int .i64 x0)) (hx1 : w.cell? ⟨b, o + i * 4 + 1, none⟩ = some (.int .i64 x1)) (hx2 : w.cell? ⟨b, o + i * 4 + 2, none⟩ = some (.int .i64 x2)) (hx3 : w.cell? ⟨b, o + i * 4 + 3, none⟩ = some (.int .i64 x3))
    (hy0 : w.cell? ⟨b, o + j * 4, none⟩ = some (.int .i64 y0)) (hy1 : w.cell? ⟨b, o + j * 4 + 1, none⟩ = some (.int .i64 y1)) (hy2 : w.cell? ⟨b, o + j * 4 + 2, none⟩ = some (.int .i64 y2)) (hy3 : w.cell? ⟨b, o + j * 4 + 3, none⟩ = some (.int .i64 y3))
    (fi0 : w.frozen? ⟨b, o + i * 4, none⟩ = false) (fi1 : w.frozen? ⟨b, o + i * 4 + 1, none⟩ = false) (fi2 : w.frozen? ⟨b, o + i * 4 + 2, none⟩ = false) (fi3 : w.frozen? ⟨b, o + i * 4 + 3, none⟩ = false) (fj0 : w.frozen? ⟨b, o + j * 4, none⟩ = false) (fj1 : w.frozen? ⟨b, o + j * 4 + 1, none⟩ = false) (fj2 : w.frozen? ⟨b, o + j * 4 + 2, none⟩ = false) (fj3 : w.frozen? ⟨b, o + j * 4 + 3, none⟩ = false) (hne : i ≠ j) :
    Calls Try.prog 58 #[.slice (some ⟨b, o, none⟩) n c, .int .i64 i, .int .i64 j] w fun e w' => e = .returned (.tuple #[]) ∧ w' = ((((((((w.setCell ⟨b, o + i * 4, none⟩ (.int .i64 y0)).setCell ⟨b, o + i * 4 + 1, none⟩ (.int .i64 y1)).setCell ⟨b, o + i * 4 + 2, none⟩ (.int .i64 y2)).setCell ⟨b, o + i * 4 + 3, none⟩ (.int .i64 y3)).setCell ⟨b, o + j * 4, none⟩ (.int .i64 x0)).setCell ⟨b, o + j * 4 + 1, none⟩ (.int .i64 x1)).setCell ⟨b, o + j * 4 + 2, none⟩ (.int .i64 x2)).setCell ⟨b, o + j * 4 + 3, none⟩ (.int .i64 x3)).drew := by
  have h1 : (i : Int) < (n : Int) := by omega
  have h2 : (j : Int) < (n : Int) := by omega
  have ni00 : ¬ (o + i * 4 = o + j * 4) := by omega
  have ni01 : ¬ (o + i * 4 = o + j * 4 + 1) := by omega
  have ni02 : ¬ (o + i * 4 = o + j * 4 + 2) := by omega
  have ni03 : ¬ (o + i * 4 = o + j * 4 + 3) := by omega
  have ni10 : ¬ (o + i * 4 + 1 = o + j * 4) := by omega
  have ni11 : ¬ (o + i * 4 + 1 = o + j * 4 + 1) := by omega
  have ni12 : ¬ (o + i * 4 + 1 = o + j * 4 + 2) := by omega
  have ni13 : ¬ (o + i * 4 + 1 = o + j * 4 + 3) := by omega
  have ni20 : ¬ (o + i * 4 + 2 = o + j * 4) := by omega
  have ni21 : ¬ (o + i * 4 + 2 = o + j * 4 + 1) := by omega
  have ni22 : ¬ (o + i * 4 + 2 = o + j * 4 + 2) := by omega
  have ni23 : ¬ (o + i * 4 + 2 = o + j * 4 + 3) := by omega
  have ni30 : ¬ (o + i * 4 + 3 = o + j * 4) := by omega
  have ni31 : ¬ (o + i * 4 + 3 = o + j * 4 + 1) := by omega
  have ni32 : ¬ (o + i * 4 + 3 = o + j * 4 + 2) := by omega
  have ni33 : ¬ (o + i * 4 + 3 = o + j * 4 + 3) := by omega
  have nj00 : ¬ (o + j * 4 = o + i * 4) := by omega
  have nj01 : ¬ (o + j * 4 = o + i * 4 + 1) := by omega
  have nj02 : ¬ (o + j * 4 = o + i * 4 + 2) := by omega
  have nj03 : ¬ (o + j * 4 = o + i * 4 + 3) := by omega
  have nj10 : ¬ (o + j * 4 + 1 = o + i * 4) := by omega
  have nj11 : ¬ (o + j * 4 + 1 = o + i * 4 + 1) := by omega
  have nj12 : ¬ (o + j * 4 + 1 = o + i * 4 + 2) := by omega
  have nj13 : ¬ (o + j * 4 + 1 = o + i * 4 + 3) := by omega
  have nj20 : ¬ (o + j * 4 + 2 = o + i * 4) := by omega
  have nj21 : ¬ (o + j * 4 + 2 = o + i * 4 + 1) := by omega
  have nj22 : ¬ (o + j * 4 + 2 = o + i * 4 + 2) := by omega
  have nj23 : ¬ (o + j * 4 + 2 = o + i * 4 + 3) := by omega
  have nj30 : ¬ (o + j * 4 + 3 = o + i * 4) := by omega
  have nj31 : ¬ (o + j * 4 + 3 = o + i * 4 + 1) := by omega
  have nj32 : ¬ (o + j * 4 + 3 = o + i * 4 + 2) := by omega
  have nj33 : ¬ (o + j * 4 + 3 = o + i * 4 + 3) := by omega
  go_enter Try.func58, Try.ntmps58
  go_wp2_with fail
  go_region
  go_end0
  exact ⟨rfl, rfl⟩
set_option maxRecDepth 100000 in
set_option maxHeartbeats 1600000 in
theorem swap_s (b o n c i : Nat) (x0 x1 x2 x3 : Int) (hi : i < n) (w : World)
    (hx0 : w.cell? ⟨b, o + i * 4, none⟩ = some (.int .i64 x0)) (hx1 : w.cell? ⟨b, o + i * 4 + 1, none⟩ = some (.int .i64 x1)) (hx2 : w.cell? ⟨b, o + i * 4 + 2, none⟩ = some (.int .i64 x2)) (hx3 : w.cell? ⟨b, o + i * 4 + 3, none⟩ = some (.int .i64 x3))
    (fi0 : w.frozen? ⟨b, o + i * 4, none⟩ = false) (fi1 : w.frozen? ⟨b, o + i * 4 + 1, none⟩ = false) (fi2 : w.frozen? ⟨b, o + i * 4 + 2, none⟩ = false) (fi3 : w.frozen? ⟨b, o + i * 4 + 3, none⟩ = false) :
    Calls Try.prog 58 #[.slice (some ⟨b, o, none⟩) n c, .int .i64 i, .int .i64 i] w fun e w' => e = .returned (.tuple #[]) ∧ w' = ((((((((w.setCell ⟨b, o + i * 4, none⟩ (.int .i64 x0)).setCell ⟨b, o + i * 4 + 1, none⟩ (.int .i64 x1)).setCell ⟨b, o + i * 4 + 2, none⟩ (.int .i64 x2)).setCell ⟨b, o + i * 4 + 3, none⟩ (.int .i64 x3)).setCell ⟨b, o + i * 4, none⟩ (.int .i64 x0)).setCell ⟨b, o + i * 4 + 1, none⟩ (.int .i64 x1)).setCell ⟨b, o + i * 4 + 2, none⟩ (.int .i64 x2)).setCell ⟨b, o + i * 4 + 3, none⟩ (.int .i64 x3)).drew := by
  have h1 : (i : Int) < (n : Int) := by omega
  go_enter Try.func58, Try.ntmps58
  go_wp2_with fail
  go_region
  go_end0
  exact ⟨rfl, rfl⟩
theorem swap_m {hb qb n i j lo hi : Nat} {L : List Snd} {w : World} (h : QM w hb qb n L) (h1 : i < L.length) (h2 : j < L.length) (hq1 : lo ≤ qb) (hq2 : qb < hi) :
    Calls Try.prog 58 #[.slice (some ⟨qb, 0, none⟩) L.length n, .int .i64 i, .int .i64 j] w fun e w' => e = .returned (.tuple #[]) ∧ QM w' hb qb n (swp L i j) ∧ Only lo hi w w' := by
  obtain ⟨a0, a1, a2, a3⟩ := h.at_ h1
  obtain ⟨b0, b1, b2, b3⟩ := h.at_ h2
  obtain ⟨cs, hc, hs, hp⟩ := h.cells
  have hl := h.len
  have fin : ∀ w', w' = ((((((((w.setCell ⟨qb, i * 4, none⟩ (.int .i64 (gt L j).slot)).setCell ⟨qb, i * 4 + 1, none⟩ (.int .i64 (gt L j).number)).setCell ⟨qb, i * 4 + 2, none⟩ (.int .i64 (gt L j).seed)).setCell ⟨qb, i * 4 + 3, none⟩ (.int .i64 (gt L j).fails)).setCell
      ⟨qb, j * 4, none⟩ (.int .i64 (gt L i).slot)).setCell ⟨qb, j * 4 + 1, none⟩ (.int .i64 (gt L i).number)).setCell ⟨qb, j * 4 + 2, none⟩ (.int .i64 (gt L i).seed)).setCell ⟨qb, j * 4 + 3, none⟩ (.int .i64 (gt L i).fails)).drew → QM w' hb qb n (swp L i j) ∧ Only lo hi w w' := by
    rintro w' rfl
    have hB := (((((((((hc.set_ (i * 4) (.int .i64 (gt L j).slot)).set_ (i * 4 + 1) (.int .i64 (gt L j).number)).set_ (i * 4 + 2) (.int .i64 (gt L j).seed)).set_ (i * 4 + 3) (.int .i64 (gt L j).fails)).set_ (j * 4) (.int .i64 (gt L i).slot)).set_ (j * 4 + 1) (.int .i64 (gt L i).number)).set_ (j * 4 + 2) (.int .i64 (gt L i).seed)).set_ (j * 4 + 3) (.int .i64 (gt L i).fails)).drew)
    have hV := ((((((((h.var_.far (p := ⟨qb, i * 4, none⟩) h.ne (.int .i64 (gt L j).slot)).far (p := ⟨qb, i * 4 + 1, none⟩) h.ne (.int .i64 (gt L j).number)).far (p := ⟨qb, i * 4 + 2, none⟩) h.ne (.int .i64 (gt L j).seed)).far (p := ⟨qb, i * 4 + 3, none⟩) h.ne (.int .i64 (gt L j).fails)).far (p := ⟨qb, j * 4, none⟩) h.ne (.int .i64 (gt L i).slot)).far (p := ⟨qb, j * 4 + 1, none⟩) h.ne (.int .i64 (gt L i).number)).far (p := ⟨qb, j * 4 + 2, none⟩) h.ne (.int .i64 (gt L i).seed)).far (p := ⟨qb, j * 4 + 3, none⟩) h.ne (.int .i64 (gt L i).fails)).drew
    refine ⟨⟨by rw [swp_len]; exact hV, h.ne, by rw [swp_len]; exact hl, h.max, _, hB, ?_, hp.swap h1 h2 (by omega)⟩, ?_⟩
    · exact (set4_size (set4 cs i (gt L j)) j (gt L i)).trans ((set4_size cs i (gt L j)).trans hs)
    · exact ((((((((((Only.refl lo hi w).setCell hq1 hq2 _).setCell hq1 hq2 _).setCell hq1 hq2 _).setCell hq1 hq2 _).setCell hq1 hq2 _).setCell hq1 hq2 _).setCell hq1 hq2 _).setCell hq1 hq2 _).drew)
  by_cases hij : i = j
  · subst hij
    refine (swap_s qb 0 L.length n i _ _ _ _ h1 w a0 a1 a2 a3 (h.fr _) (h.fr _) (h.fr _) (h.fr _)).mono ?_
    rintro e w' ⟨he, hw⟩
    simp only [Nat.zero_add] at hw
    exact ⟨he, fin w' hw⟩
  · refine (swap_q qb 0 L.length n i j _ _ _ _ _ _ _ _ h1 h2 w a0 a1 a2 a3 b0 b1 b2 b3 (h.fr _) (h.fr _) (h.fr _) (h.fr _) (h.fr _) (h.fr _) (h.fr _) (h.fr _) hij).mono ?_
    rintro e w' ⟨he, hw⟩
    simp only [Nat.zero_add] at hw
    exact ⟨he, fin w' hw⟩
/-- One sender less at the end. -/
theorem QM.cut {w : World} {hb qb n m : Nat} {L : List Snd} (h : QM w hb qb n L) (hm : L.length = m + 1) : QM (w.setCell ⟨hb, 0, none⟩ (.slice (some ⟨qb, 0, none⟩) m n)) hb qb n (L.take m) := by
  obtain ⟨cs, hc, hs, hp⟩ := h.cells
  have hl := h.len
  have e : (L.take m).length = m := by rw [List.length_take]; omega
  refine ⟨by rw [e]; exact h.var_.set_ 0 _, h.ne, by omega, h.max, cs, hc.far (p := ⟨hb, 0, none⟩) (Ne.symm h.ne) _, hs, fun i s hi => ?_⟩
  rw [List.getElem?_take] at hi
  split at hi
  · exact hp i s hi
  · cases hi
/-- One sender more at the end. -/
theorem QM.app {w : World} {hb qb n m : Nat} {L : List Snd} (h : QM w hb qb n L) (hm : L.length = m) (hn : m < n) (s : Snd) :
    QM (((((w.setCell ⟨qb, m * 4, none⟩ (.int .i64 s.slot)).setCell ⟨qb, m * 4 + 1, none⟩ (.int .i64 s.number)).setCell ⟨qb, m * 4 + 2, none⟩ (.int .i64 s.seed)).setCell ⟨qb, m * 4 + 3, none⟩ (.int .i64 s.fails)).setCell ⟨hb, 0, none⟩ (.slice (some ⟨qb, 0, none⟩) (m + 1) n)) hb qb n (L ++ [s]) := by
  obtain ⟨cs, hc, hs, hp⟩ := h.cells
  have e : (L ++ [s]).length = m + 1 := by simp [hm]
  have hB := ((((hc.set_ (m * 4) (.int .i64 s.slot)).set_ (m * 4 + 1) (.int .i64 s.number)).set_ (m * 4 + 2) (.int .i64 s.seed)).set_ (m * 4 + 3) (.int .i64 s.fails)).far (p := ⟨hb, 0, none⟩) (Ne.symm h.ne) (.slice (some ⟨qb, 0, none⟩) (m + 1) n)
  have hV := ((((h.var_.far (p := ⟨qb, m * 4, none⟩) h.ne (.int .i64 s.slot)).far (p := ⟨qb, m * 4 + 1, none⟩) h.ne (.int .i64 s.number)).far (p := ⟨qb, m * 4 + 2, none⟩) h.ne (.int .i64 s.seed)).far (p := ⟨qb, m * 4 + 3, none⟩) h.ne (.int .i64 s.fails)).set_ 0 (.slice (some ⟨qb, 0, none⟩) (m + 1) n)
  refine ⟨by rw [e]; exact hV, h.ne, by omega, h.max, _, hB, (set4_size cs m s).trans hs, fun k u hu => ?_⟩
  show _ ∧ _
  by_cases hk : k = m
  · subst hk
    rw [List.getElem?_append_right (by omega)] at hu
    rw [hm] at hu
    simp at hu
    subst hu
    exact set4_same (cs := cs) (i := k) (s := s) (by omega)
  · have hlt : k < L.length := by
      rcases Nat.lt_or_ge k (m + 1) with h1 | h1
      · omega
      · rw [List.getElem?_eq_none (by omega)] at hu; cases hu
    rw [List.getElem?_append_left hlt] at hu
    have := hp k u hu
    exact ⟨(set4_other (cs := cs) (i := m) (s := s) (f := 0) hk (by omega)).trans this.1, (set4_other (cs := cs) (i := m) (s := s) (f := 1) hk (by omega)).trans this.2.1, (set4_other (cs := cs) (i := m) (s := s) (f := 2) hk (by omega)).trans this.2.2.1, (set4_other (cs := cs) (i := m) (s := s) (f := 3) hk (by omega)).trans this.2.2.2⟩
theorem QM.room {w : World} {hb qb n m : Nat} {L : List Snd} (h : QM w hb qb n L) (hm : m < n) (f : Nat) (hf : f < 4) : (w.cell? ⟨qb, m * 4 + f, none⟩).isSome = true := by
  obtain ⟨cs, hc, hs, hp⟩ := h.cells
  rw [hc.cell, Array.getElem?_eq_getElem (by omega)]
  rfl
/-- append of one element of four cells where there is room. -/
theorem wpList_room4 {P : Program} {w0 : World} {ops : Array Oper} {rest : List Oper} {o : Oper} {a : Act} {Q : Exit → Act → World → Prop} (hgd : o.guard = none) (s x : Operand) (t : TypeId) (ho : o.op = .call { callee := .builtin .append, args := #[s, x], argTypes := #[t, t] })
    (e : TypeId) (i : TypeInfo) (ht : P.underlying t = some (.slice e)) (hi : P.info? e = some i) (hsize : i.size = 4) (b n cap : Nat) (x0 x1 x2 x3 : Int) (e' : TypeId)
    (hs : a.eval s = .slice (some ⟨b, 0, none⟩) n cap) (hx : a.eval x = .slice (some ⟨w0.heap.size, 0, none⟩) 1 1) (hroom : n + 1 ≤ cap) (hb : b < w0.heap.size)
    (hc : ∀ f, f < 4 → (w0.cell? ⟨b, n * 4 + f, none⟩).isSome = true) (hf : ∀ k, w0.frozen? ⟨b, k, none⟩ = false)
    (h : wpList P ops Q rest (a.put o.dst (.slice (some ⟨b, 0, none⟩) (n + 1) cap)) (((((w0.alloc (.cells #[.int .i64 x0, .int .i64 x1, .int .i64 x2, .int .i64 x3] e')).setCell ⟨b, n * 4, none⟩ (.int .i64 x0)).setCell ⟨b, n * 4 + 1, none⟩ (.int .i64 x1)).setCell ⟨b, n * 4 + 2, none⟩ (.int .i64 x2)).setCell ⟨b, n * 4 + 3, none⟩ (.int .i64 x3))) :
    wpList P ops Q (o :: rest) a (w0.alloc (.cells #[.int .i64 x0, .int .i64 x1, .int .i64 x2, .int .i64 x3] e')) := by
  refine wpList_plain hgd fun K hK => ?_
  have hrun := run_append_room_cells (P := P) (w0.alloc (.cells #[.int .i64 x0, .int .i64 x1, .int .i64 x2, .int .i64 x3] e')) t o.type e i ht hi b 0 n cap ⟨w0.heap.size, 0, none⟩ 1 1 [.int .i64 x0, .int .i64 x1, .int .i64 x2, .int .i64 x3] (by rw [hsize]; rfl)
    (fun j v hv => by
      match j, hv with
      | 0, hv => simp at hv; subst hv; simp [Addr.add]
      | 1, hv => simp at hv; subst hv; simp [Addr.add]
      | 2, hv => simp at hv; subst hv; simp [Addr.add]
      | 3, hv => simp at hv; subst hv; simp [Addr.add]
      | j + 4, hv => simp at hv) (fun v hv => by simp at hv; rcases hv with rfl | rfl | rfl | rfl <;> rfl) hroom
    (fun j hj => by
      rw [hsize, Nat.zero_add, World.cell?_alloc_lt w0 _ _ (by simpa using hb)]
      exact hc j (by simpa using hj))
    (fun j hj => by
      rw [World.frozen?_alloc_past _ _ _ hb]
      exact hf _)
  rw [hsize] at hrun
  unfold Oper.wp
  simp [execOp, ho, resolve, invoke, builtin, hs, hx, hrun, Result.andThen]
  refine hK _ _ ?_
  simp only [World.setCells]
  exact h
/-- The same, at a step of a region that draws its order. -/
theorem step_room4 {P : Program} {ops : Array Oper} {o : Oper} {a : Act} {w : World} {K : Act → World → Prop} {Q : Exit → Act → World → Prop} {E : Prop}
    (hg : o.guard = none) (s x : Operand) (t : TypeId) (hop : o.op = Op.call { callee := Callee.builtin Builtin.append, args := #[s, x], argTypes := #[t, t] })
    (e : TypeId) (i : TypeInfo) (h1 : P.underlying t = some (.slice e)) (h2 : P.info? e = some i) (h4 : i.size = 4)
    (b n cap : Nat) (hs : a.eval s = .slice (some ⟨b, 0, none⟩) n cap)
    (g x0 x1 x2 x3 : _) (hx : a.eval x = .slice (some ⟨g, 0, none⟩) 1 1) (hc : ∀ j u, [Value.int .i64 x0, .int .i64 x1, .int .i64 x2, .int .i64 x3][j]? = some u → w.cell? ((⟨g, 0, none⟩ : Addr).add j) = some u)
    (hroom : n + 1 ≤ cap) (hspare : ∀ f, f < 4 → (w.cell? ⟨b, n * 4 + f, none⟩).isSome = true ∧ w.frozen? ⟨b, n * 4 + f, none⟩ = false)
    (hK : K (a.put o.dst (.slice (some ⟨b, 0, none⟩) (n + 1) cap)) ((((w.setCell ⟨b, n * 4, none⟩ (.int .i64 x0)).setCell ⟨b, n * 4 + 1, none⟩ (.int .i64 x1)).setCell ⟨b, n * 4 + 2, none⟩ (.int .i64 x2)).setCell ⟨b, n * 4 + 3, none⟩ (.int .i64 x3))) :
    if Region.wanted o (yielded ops a.tmps) = true then Oper.wp P o a w K Q else E := by
  refine step_append_room hg s x t hop e i 4 h1 h2 h4 b 0 n cap hs ⟨g, 0, none⟩ 1 1 [.int .i64 x0, .int .i64 x1, .int .i64 x2, .int .i64 x3] hx rfl hc (fun v hv => by simp at hv; rcases hv with rfl | rfl | rfl | rfl <;> rfl) hroom (fun j hj => ?_) ?_
  · rw [Nat.zero_add]; exact hspare j (by simpa using hj)
  · rw [Nat.zero_add]; exact hK
end Go.Proofs.Ytnebmfdjcikegaa
