/-
  The plain law of the transform of 16 points modulo 257; no program in sight.
-/
import Derived.Test.YtbbonllonkacfaaBase
namespace Go.Proofs.Ytbbonllonkacfaa
open Go.RowKit
set_option linter.unusedVariables false

/-- f 0 + .. + f (n - 1) -/
def Sm : Nat → (Nat → Int) → Int
  | 0, _ => 0
  | n + 1, f => Sm n f + f n
theorem Sm_congr {f g : Nat → Int} : ∀ n, (∀ i, i < n → f i = g i) → Sm n f = Sm n g := by
  intro n
  induction n with
  | zero => intro _; rfl
  | succ n ih => intro h; rw [Sm, Sm, ih (fun i hi => h i (by omega)), h n (by omega)]
theorem Sm_add (f g : Nat → Int) : ∀ n, Sm n (fun i => f i + g i) = Sm n f + Sm n g := by
  intro n
  induction n with
  | zero => rfl
  | succ n ih => simp only [Sm, ih]; omega
theorem Sm_mul (c : Int) (f : Nat → Int) : ∀ n, Sm n (fun i => c * f i) = c * Sm n f := by
  intro n
  induction n with
  | zero => simp [Sm]
  | succ n ih => simp only [Sm, ih, Int.mul_add]
theorem Sm_zero : ∀ n, Sm n (fun _ => 0) = 0 := by
  intro n
  induction n with
  | zero => rfl
  | succ n ih => simp only [Sm, ih]; rfl
theorem Sm_comm (f : Nat → Nat → Int) (m : Nat) : ∀ n, Sm n (fun i => Sm m (fun j => f i j)) = Sm m (fun j => Sm n (fun i => f i j)) := by
  intro n
  induction n with
  | zero => simp only [Sm]; exact (Sm_zero m).symm
  | succ n ih => simp only [Sm, ih]; exact (Sm_add _ _ m).symm
theorem Sm_pick (f : Nat → Int) (c : Nat) : ∀ n, c < n → Sm n (fun i => if i = c then f i else 0) = f c := by
  intro n
  induction n with
  | zero => intro h; omega
  | succ n ih =>
    intro h
    rw [Sm]
    by_cases hc : c = n
    · subst hc
      rw [Sm_congr (g := fun _ => 0) c (fun i hi => if_neg (by omega)), Sm_zero]
      simp
    · rw [ih (by omega), if_neg (by omega)]; omega
theorem Sm_head (f : Nat → Int) : ∀ n, Sm (n + 1) f = f 0 + Sm n (fun i => f (i + 1)) := by
  intro n
  induction n with
  | zero => simp [Sm]
  | succ n ih => rw [Sm, ih, Sm]; omega

/-- Equal modulo 257. -/
def Cg (a b : Int) : Prop := a % 257 = b % 257
theorem Cg.rfl' (a : Int) : Cg a a := rfl
theorem Cg.symm {a b : Int} (h : Cg a b) : Cg b a := Eq.symm h
theorem Cg.trans {a b c : Int} (h : Cg a b) (k : Cg b c) : Cg a c := Eq.trans h k
theorem Cg.mod (a : Int) : Cg (a % 257) a := Int.emod_emod_of_dvd a (Int.dvd_refl _)
theorem Cg.add {a b c d : Int} (h : Cg a b) (k : Cg c d) : Cg (a + c) (b + d) := by
  unfold Cg at *; rw [Int.add_emod, h, k, ← Int.add_emod]
theorem Cg.sub {a b c d : Int} (h : Cg a b) (k : Cg c d) : Cg (a - c) (b - d) := by
  unfold Cg at *; rw [Int.sub_emod, h, k, ← Int.sub_emod]
theorem Cg.mul {a b c d : Int} (h : Cg a b) (k : Cg c d) : Cg (a * c) (b * d) := by
  unfold Cg at *; rw [Int.mul_emod, h, k, ← Int.mul_emod]
theorem Cg.neg {a b : Int} (h : Cg a b) : Cg (-a) (-b) := by
  have := Cg.sub (Cg.rfl' 0) h
  simpa using this
theorem Cg.pow {a b : Int} (h : Cg a b) : ∀ n : Nat, Cg (a ^ n) (b ^ n) := by
  intro n
  induction n with
  | zero => rw [Int.pow_zero, Int.pow_zero]; exact Cg.rfl' _
  | succ n ih => rw [Int.pow_succ, Int.pow_succ]; exact ih.mul h
theorem Cg.sm {f g : Nat → Int} : ∀ n, (∀ i, i < n → Cg (f i) (g i)) → Cg (Sm n f) (Sm n g) := by
  intro n
  induction n with
  | zero => intro _; exact Cg.rfl' _
  | succ n ih => intro h; exact (ih (fun i hi => h i (by omega))).add (h n (by omega))
theorem Cg.eq {a b : Int} (h : Cg a b) (ha : 0 ≤ a) (ha' : a < 257) : a = b % 257 := by
  unfold Cg at h; rw [← h, Int.emod_eq_of_lt ha ha']

/-- w to the n, modulo 257, as it is reckoned: one factor at a time. -/
def pw (w : Int) : Nat → Int
  | 0 => 1
  | n + 1 => pw w n * w % 257
theorem pw_cg (w : Int) : ∀ n, Cg (pw w n) (w ^ n) := by
  intro n
  induction n with
  | zero => rw [Int.pow_zero]; exact Cg.rfl' _
  | succ n ih => rw [Int.pow_succ]; exact (Cg.mod _).trans (ih.mul (Cg.rfl' _))
theorem pw_bd (w : Int) : ∀ n, 0 ≤ pw w n ∧ pw w n < 257 := by
  intro n
  cases n with
  | zero => exact ⟨by simp [pw], by simp [pw]⟩
  | succ n => exact ⟨Int.emod_nonneg _ (by omega), Int.emod_lt_of_pos _ (by omega)⟩
theorem pw_val (w : Int) (n : Nat) : pw w n = w ^ n % 257 := (pw_cg w n).eq (pw_bd w n).1 (pw_bd w n).2

def ev : List Int → Int → Int
  | [], _ => 0
  | x :: xs, w => x + w * ev xs w
theorem ev_cg {v w : Int} (h : Cg v w) : ∀ xs, Cg (ev xs v) (ev xs w) := by
  intro xs
  induction xs with
  | nil => exact Cg.rfl' _
  | cons x xs ih => exact (Cg.rfl' x).add (h.mul ih)
theorem ev_sm (w : Int) : ∀ xs : List Int, ev xs w = Sm xs.length (fun j => xs.getD j 0 * w ^ j) := by
  intro xs
  induction xs with
  | nil => rfl
  | cons x xs ih =>
    rw [ev, List.length_cons, Sm_head, ih, ← Sm_mul]
    simp only [List.getD_cons_zero, Int.pow_zero, Int.mul_one, List.getD_cons_succ]
    congr 1
    apply Sm_congr
    intro i _
    rw [Int.pow_succ, Int.mul_left_comm, Int.mul_comm w]
def evens : List Int → List Int
  | [] => []
  | [x] => [x]
  | x :: _ :: t => x :: evens t
def odds : List Int → List Int
  | [] => []
  | [_] => []
  | _ :: y :: t => y :: odds t
theorem ev_split (w : Int) : ∀ xs : List Int, ev xs w = ev (evens xs) (w * w) + w * ev (odds xs) (w * w)
  | [] => by simp [ev, evens, odds]
  | [x] => by simp [ev, evens, odds]
  | x :: y :: t => by
    have ih := ev_split w t
    simp only [ev, evens, odds]
    rw [ih]
    simp only [Int.mul_add, Int.mul_assoc]
    have e : w * (w * (w * ev (odds t) (w * w))) = w * (w * (w * ev (odds t) (w * w))) := rfl
    omega
theorem evens_len : ∀ (n : Nat) (xs : List Int), xs.length = 2 * n → (evens xs).length = n ∧ (odds xs).length = n
  | 0, [], _ => ⟨rfl, rfl⟩
  | n + 1, x :: y :: t, h => by
    have := evens_len n t (by simp at h; omega)
    simp only [evens, odds, List.length_cons]
    omega
  | n + 1, [], h => by simp at h
  | n + 1, [x], h => by simp at h; omega
/-- The numbers are in 0..256. -/
def In257 (xs : List Int) : Prop := ∀ x ∈ xs, 0 ≤ x ∧ x < 257
theorem in257_get {xs : List Int} (h : In257 xs) {k : Nat} {x : Int} (hx : xs[k]? = some x) : 0 ≤ x ∧ x < 257 := h x (List.mem_of_getElem? hx)
theorem in257_getD {xs : List Int} (h : In257 xs) (k : Nat) : 0 ≤ xs.getD k 0 ∧ xs.getD k 0 < 257 := by
  rw [List.getD_eq_getElem?_getD]
  cases hx : xs[k]? with
  | none => simp
  | some x => exact in257_get h hx
theorem in257_split : ∀ xs : List Int, In257 xs → In257 (evens xs) ∧ In257 (odds xs)
  | [], h => ⟨h, h⟩
  | [x], h => ⟨h, fun _ hx => by cases hx⟩
  | x :: y :: t, h => by
    obtain ⟨i1, i2⟩ := in257_split t (fun z hz => h z (by simp [hz]))
    constructor
    · intro z hz
      rcases List.mem_cons.1 hz with rfl | hz
      · exact h _ (by simp)
      · exact i1 z hz
    · intro z hz
      rcases List.mem_cons.1 hz with rfl | hz
      · exact h _ (by simp)
      · exact i2 z hz

def lowE (e o : List Int) (w : Int) (k : Nat) : Int := (e.getD k 0 + o.getD k 0 * pw w k % 257) % 257
def highE (e o : List Int) (w : Int) (k : Nat) : Int := (e.getD k 0 - o.getD k 0 * pw w k % 257) % 257
/-- The butterflies of 2^d numbers. -/
def bf : Nat → List Int → Int → List Int
  | 0, xs, _ => [xs.getD 0 0]
  | d + 1, xs, w => (List.range (2 ^ d)).map (lowE (bf d (evens xs) (w * w % 257)) (bf d (odds xs) (w * w % 257)) w) ++ (List.range (2 ^ d)).map (highE (bf d (evens xs) (w * w % 257)) (bf d (odds xs) (w * w % 257)) w)
theorem bf_len : ∀ (d : Nat) (xs : List Int) (w : Int), (bf d xs w).length = 2 ^ d := by
  intro d
  cases d with
  | zero => intro xs w; rfl
  | succ d => intro xs w; simp [bf]; omega
theorem bf_in : ∀ (d : Nat) (xs : List Int) (w : Int), In257 xs → In257 (bf d xs w) := by
  intro d
  cases d with
  | zero =>
    intro xs w h x hx
    rw [bf, List.mem_singleton] at hx
    subst hx
    exact in257_getD h 0
  | succ d =>
    intro xs w h x hx
    rw [bf] at hx
    rcases List.mem_append.1 hx with hx | hx
    · obtain ⟨k, _, rfl⟩ := List.mem_map.1 hx
      exact ⟨Int.emod_nonneg _ (by omega), Int.emod_lt_of_pos _ (by omega)⟩
    · obtain ⟨k, _, rfl⟩ := List.mem_map.1 hx
      exact ⟨Int.emod_nonneg _ (by omega), Int.emod_lt_of_pos _ (by omega)⟩
theorem bf_get (d : Nat) (xs : List Int) (w : Int) (k : Nat) (hk : k < 2 ^ (d + 1)) :
    (bf (d + 1) xs w).getD k 0 = if k < 2 ^ d then lowE (bf d (evens xs) (w * w % 257)) (bf d (odds xs) (w * w % 257)) w k else highE (bf d (evens xs) (w * w % 257)) (bf d (odds xs) (w * w % 257)) w (k - 2 ^ d) := by
  have hp : 2 ^ (d + 1) = 2 * 2 ^ d := by rw [Nat.pow_succ]; omega
  rw [bf, List.getD_eq_getElem?_getD, List.getElem?_append]
  simp only [List.length_map, List.length_range]
  split
  · rename_i h; rw [List.getElem?_map, List.getElem?_range h]; rfl
  · rename_i h; rw [List.getElem?_map, List.getElem?_range (by omega)]; rfl
theorem bf_ev : ∀ (d : Nat) (xs : List Int) (w : Int), xs.length = 2 ^ d → (∀ e, d = e + 1 → Cg (w ^ (2 ^ e)) (-1)) → ∀ k, k < 2 ^ d → Cg ((bf d xs w).getD k 0) (ev xs (w ^ k)) := by
  intro d
  induction d with
  | zero =>
    intro xs w hl _ k hk
    have hk0 : k = 0 := by simpa using hk
    subst hk0
    match xs, hl with
    | [x], _ => simp [bf, ev, Cg]
  | succ d ih =>
    intro xs w hl hw k hk
    have hp : 2 ^ (d + 1) = 2 * 2 ^ d := by rw [Nat.pow_succ]; omega
    obtain ⟨l1, l2⟩ := evens_len (2 ^ d) xs (by omega)
    have hw' : ∀ e, d = e + 1 → Cg ((w * w % 257) ^ (2 ^ e)) (-1) := by
      intro e he
      have h1 := hw d rfl
      have h2 : (w * w) ^ (2 ^ e) = w ^ (2 ^ d) := by
        rw [he, Nat.pow_succ, Nat.mul_comm, Int.pow_mul]; congr 1; rw [Int.pow_succ, Int.pow_succ, Int.pow_zero, Int.one_mul]
      have h3 := Cg.pow (Cg.mod (w * w)) (2 ^ e)
      rw [h2] at h3
      exact h3.trans h1
    have main : ∀ j, j < 2 ^ d → Cg ((bf d (evens xs) (w * w % 257)).getD j 0) (ev (evens xs) (w ^ j * w ^ j)) ∧ Cg ((bf d (odds xs) (w * w % 257)).getD j 0 * pw w j % 257) (w ^ j * ev (odds xs) (w ^ j * w ^ j)) := by
      intro j hj
      have hq : Cg ((w * w % 257) ^ j) (w ^ j * w ^ j) := by
        have := Cg.pow (Cg.mod (w * w)) j
        rw [Int.mul_pow] at this
        exact this
      have e1 := (ih (evens xs) (w * w % 257) l1 hw' j hj).trans (ev_cg hq _)
      have e2 := (ih (odds xs) (w * w % 257) l2 hw' j hj).trans (ev_cg hq _)
      refine ⟨e1, (Cg.mod _).trans ?_⟩
      have := e2.mul (pw_cg w j)
      rwa [Int.mul_comm (ev _ _)] at this
    rw [bf_get d xs w k hk]
    split
    · rename_i h
      obtain ⟨e1, e2⟩ := main k h
      rw [ev_split]
      exact (Cg.mod _).trans (e1.add e2)
    · rename_i h
      obtain ⟨e1, e2⟩ := main (k - 2 ^ d) (by omega)
      have hneg : Cg (w ^ k) (-(w ^ (k - 2 ^ d))) := by
        have : w ^ k = w ^ (k - 2 ^ d) * w ^ (2 ^ d) := by rw [← Int.pow_add]; congr 1; omega
        rw [this]
        have h2 := (Cg.rfl' (w ^ (k - 2 ^ d))).mul (hw d rfl)
        rwa [Int.mul_neg, Int.mul_one] at h2
      refine Cg.trans ?_ (ev_cg hneg xs).symm
      rw [ev_split, Int.neg_mul_neg]
      have h1 := e1.sub e2
      have h2 := (Cg.mod _).trans h1
      rw [Int.neg_mul, ← Int.sub_eq_add_neg]
      exact h2

/-- The transform with the root w. -/
def Fk (xs : List Int) (w : Int) (k : Nat) : Int := ev xs (w ^ k) % 257
def dft (xs : List Int) (w : Int) : List Int := (List.range 16).map (Fk xs w)
def ptsOk (xs : List Int) : Bool := decide (xs.length = 16) && xs.all fun x => decide (0 ≤ x ∧ x < 257)
theorem ptsOk_iff {xs : List Int} : ptsOk xs = true ↔ xs.length = 16 ∧ In257 xs := by simp [ptsOk, In257, List.all_eq_true]
theorem ptsOk_no {xs : List Int} (h : ¬ (xs.length = 16 ∧ In257 xs)) : ptsOk xs = false := by rw [← ptsOk_iff] at h; simpa using h
def forward (xs : List Int) : List Int := if ptsOk xs = true then dft xs 2 else []
def scale (x : Int) : Int := x * 241 % 257
def backward (xs : List Int) : List Int := if ptsOk xs = true then (dft xs 129).map scale else []
theorem Fk_bd (xs : List Int) (w : Int) (k : Nat) : 0 ≤ Fk xs w k ∧ Fk xs w k < 257 := ⟨Int.emod_nonneg _ (by omega), Int.emod_lt_of_pos _ (by omega)⟩
theorem dft_len (xs : List Int) (w : Int) : (dft xs w).length = 16 := by simp [dft]
theorem dft_in (xs : List Int) (w : Int) : In257 (dft xs w) := by
  intro x hx
  obtain ⟨k, _, rfl⟩ := List.mem_map.1 hx
  exact Fk_bd xs w k
theorem dft_ok (xs : List Int) (w : Int) : ptsOk (dft xs w) = true := ptsOk_iff.2 ⟨dft_len _ _, dft_in _ _⟩
theorem dft_get (xs : List Int) (w : Int) {k : Nat} (hk : k < 16) : (dft xs w)[k]? = some (Fk xs w k) := by rw [dft, List.getElem?_map, List.getElem?_range hk]; rfl
theorem dft_getD (xs : List Int) (w : Int) {k : Nat} (hk : k < 16) : (dft xs w).getD k 0 = Fk xs w k := by rw [List.getD_eq_getElem?_getD, dft_get xs w hk]; rfl
theorem ext16 {xs ys : List Int} (hx : xs.length = 16) (hy : ys.length = 16) (h : ∀ k, k < 16 → xs.getD k 0 = ys.getD k 0) : xs = ys := by
  apply List.ext_getElem (by omega)
  intro k h1 h2
  have := h k (by omega)
  rw [List.getD_eq_getElem?_getD, List.getD_eq_getElem?_getD, List.getElem?_eq_getElem h1, List.getElem?_eq_getElem h2] at this
  exact this
/-- The butterflies are the transform, for a root whose eighth power is -1. -/
theorem bf_dft {xs : List Int} {w : Int} (hl : xs.length = 16) (hx : In257 xs) (hw : Cg (w ^ 8) (-1)) : bf 4 xs w = dft xs w := by
  refine ext16 (bf_len 4 xs w) (dft_len _ _) fun k hk => ?_
  rw [dft_getD xs w hk]
  have h1 := bf_ev 4 xs w hl (fun e he => by obtain rfl : e = 3 := by omega
                                             exact hw) k hk
  have h2 := in257_getD (bf_in 4 xs w hx) k
  exact h1.eq h2.1 h2.2

/-- The powers of a root of order 16 run round. -/
theorem round16 {w : Int} (hw : pw w 16 = 1) (n : Nat) : Cg (w ^ n) (pw w (n % 16)) := by
  have h1 : w ^ n = (w ^ 16) ^ (n / 16) * w ^ (n % 16) := by rw [← Int.pow_mul, ← Int.pow_add]; congr 1; omega
  have h2 : Cg (w ^ 16) 1 := by have := pw_cg w 16; rw [hw] at this; exact this.symm
  have h3 := Cg.pow h2 (n / 16)
  rw [Int.one_pow] at h3
  rw [h1]
  have := h3.mul (pw_cg w (n % 16)).symm
  rwa [Int.one_mul] at this
/-- The sum over m of w^(m j) v^(k m). -/
def Em (w v : Int) (j k : Nat) : Int := Sm 16 fun m => pw w (m * j % 16) * pw v (k * m % 16)
theorem twice_cg {xs : List Int} (hl : xs.length = 16) {w v : Int} (hw : pw w 16 = 1) (hv : pw v 16 = 1) (k : Nat) :
    Cg (ev (dft xs w) (v ^ k)) (Sm 16 fun j => xs.getD j 0 * Em w v j k) := by
  rw [ev_sm, dft_len]
  have h1 : Cg (Sm 16 fun m => (dft xs w).getD m 0 * (v ^ k) ^ m) (Sm 16 fun m => Sm 16 fun j => xs.getD j 0 * (pw w (m * j % 16) * pw v (k * m % 16))) := by
    refine Cg.sm 16 fun m hm => ?_
    rw [dft_getD xs w hm, Fk]
    have e1 : Cg (ev xs (w ^ m) % 257) (Sm 16 fun j => xs.getD j 0 * pw w (m * j % 16)) := by
      refine (Cg.mod _).trans ?_
      rw [ev_sm, hl]
      refine Cg.sm 16 fun j _ => (Cg.rfl' _).mul ?_
      rw [← Int.pow_mul]
      exact round16 hw _
    have e2 : Cg ((v ^ k) ^ m) (pw v (k * m % 16)) := by rw [← Int.pow_mul]; exact round16 hv _
    refine (e1.mul e2).trans ?_
    rw [Int.mul_comm, ← Sm_mul]
    rw [Sm_congr 16 (g := fun j => xs.getD j 0 * (pw w (m * j % 16) * pw v (k * m % 16))) (fun j _ => by rw [Int.mul_left_comm, Int.mul_comm (pw v _)])]
    exact Cg.rfl' _
  refine h1.trans ?_
  rw [Sm_comm]
  rw [Sm_congr 16 (g := fun j => xs.getD j 0 * Em w v j k) (fun j _ => by rw [Sm_mul]; rfl)]
  exact Cg.rfl' _
theorem pick16 {xs : List Int} {E : Nat → Int} {c : Nat} (hc : c < 16) (hE : ∀ j, j < 16 → Cg (E j) (if j = c then 16 else 0)) : Cg (Sm 16 fun j => xs.getD j 0 * E j) (16 * xs.getD c 0) := by
  have h1 : Cg (Sm 16 fun j => xs.getD j 0 * E j) (Sm 16 fun j => if j = c then 16 * xs.getD j 0 else 0) := by
    refine Cg.sm 16 fun j hj => ?_
    refine ((Cg.rfl' _).mul (hE j hj)).trans ?_
    split
    · rw [Int.mul_comm]; exact Cg.rfl' _
    · rw [Int.mul_zero]; exact Cg.rfl' _
  rw [Sm_pick (fun j => 16 * xs.getD j 0) c 16 hc] at h1
  exact h1
theorem root2 : pw 2 16 = 1 := by decide
theorem root129 : pw 129 16 = 1 := by decide
theorem root2_8 : Cg ((2 : Int) ^ 8) (-1) := by unfold Cg; decide
theorem root129_8 : Cg ((129 : Int) ^ 8) (-1) := by
  have := pw_cg 129 8
  exact this.symm.trans (by unfold Cg; decide)
theorem em_back : ∀ k, k < 16 → ∀ j, j < 16 → Em 2 129 j k % 257 = if j = k then 16 else 0 := by decide +kernel
theorem em_forth : ∀ k, k < 16 → ∀ j, j < 16 → Em 129 2 j k % 257 = if j = k then 16 else 0 := by decide +kernel
theorem em_two : ∀ k, k < 16 → ∀ j, j < 16 → Em 2 2 j k % 257 = if j = (16 - k) % 16 then 16 else 0 := by decide +kernel
theorem cg_of {a : Int} {p : Prop} [Decidable p] (h : a % 257 = if p then 16 else 0) : Cg a (if p then 16 else 0) := by
  unfold Cg; rw [h]; split <;> rfl
theorem inv16 (x : Int) : Cg (16 * x * 241) x := by unfold Cg; omega
theorem scale_len (xs : List Int) : (xs.map scale).length = xs.length := by simp
theorem scale_getD (xs : List Int) (k : Nat) : (xs.map scale).getD k 0 = scale (xs.getD k 0) := by
  rw [List.getD_eq_getElem?_getD, List.getD_eq_getElem?_getD, List.getElem?_map]
  cases xs[k]? <;> simp [scale]
theorem scale_in (xs : List Int) : In257 (xs.map scale) := by
  intro x hx
  obtain ⟨k, _, rfl⟩ := List.mem_map.1 hx
  exact ⟨Int.emod_nonneg _ (by omega), Int.emod_lt_of_pos _ (by omega)⟩
theorem back_forth {xs : List Int} (h : ptsOk xs = true) : backward (forward xs) = xs := by
  obtain ⟨hl, hx⟩ := ptsOk_iff.1 h
  rw [forward, if_pos h, backward, if_pos (dft_ok _ _)]
  refine ext16 (by simp [dft_len]) hl fun k hk => ?_
  rw [scale_getD, dft_getD _ _ hk, scale, Fk]
  have h1 := (twice_cg hl root2 root129 k).trans (pick16 hk fun j hj => cg_of (em_back k hk j hj))
  have h2 := ((Cg.mod _).trans h1).mul (Cg.rfl' 241)
  have h3 := (h2.trans (inv16 _)).symm
  have h4 := in257_getD hx k
  exact (h3.eq h4.1 h4.2).symm
theorem ev_scale (w : Int) : ∀ xs, Cg (ev (xs.map scale) w) (ev xs w * 241) := by
  intro xs
  induction xs with
  | nil => exact Cg.rfl' _
  | cons x xs ih =>
    rw [List.map_cons, ev, ev, Int.add_mul, Int.mul_assoc]
    exact (Cg.mod _).add ((Cg.rfl' w).mul ih)
theorem forth_back {xs : List Int} (h : ptsOk xs = true) : forward (backward xs) = xs := by
  obtain ⟨hl, hx⟩ := ptsOk_iff.1 h
  rw [backward, if_pos h, forward, if_pos (ptsOk_iff.2 ⟨by simp [dft_len], scale_in _⟩)]
  refine ext16 (dft_len _ _) hl fun k hk => ?_
  rw [dft_getD _ _ hk, Fk]
  have h1 := (twice_cg hl root129 root2 k).trans (pick16 hk fun j hj => cg_of (em_forth k hk j hj))
  have h2 := (ev_scale (2 ^ k) (dft xs 129)).trans (h1.mul (Cg.rfl' 241))
  have h3 := (h2.trans (inv16 _)).symm
  have h4 := in257_getD hx k
  exact (h3.eq h4.1 h4.2).symm
/-- The transform of the transform. -/
theorem forth_twice {xs : List Int} (h : ptsOk xs = true) {k : Nat} (hk : k < 16) : Fk (forward xs) 2 k = 16 * xs.getD ((16 - k) % 16) 0 % 257 := by
  obtain ⟨hl, hx⟩ := ptsOk_iff.1 h
  rw [forward, if_pos h, Fk]
  exact (twice_cg hl root2 root2 k).trans (pick16 (Nat.mod_lt _ (by omega)) fun j hj => cg_of (em_two k hk j hj))
/-- The cyclic convolution. -/
def convk (a b : List Int) (k : Nat) : Int := Sm 16 (fun j => a.getD j 0 * b.getD ((k + 16 - j) % 16) 0) % 257
def conv (a b : List Int) : List Int := (List.range 16).map (convk a b)
theorem conv_len (a b : List Int) : (conv a b).length = 16 := by simp [conv]
theorem conv_in (a b : List Int) : In257 (conv a b) := by
  intro x hx
  obtain ⟨k, _, rfl⟩ := List.mem_map.1 hx
  exact ⟨Int.emod_nonneg _ (by omega), Int.emod_lt_of_pos _ (by omega)⟩
theorem conv_ok (a b : List Int) : ptsOk (conv a b) = true := ptsOk_iff.2 ⟨conv_len _ _, conv_in _ _⟩
theorem conv_get (a b : List Int) {k : Nat} (hk : k < 16) : (conv a b)[k]? = some (convk a b k) := by rw [conv, List.getElem?_map, List.getElem?_range hk]; rfl
theorem conv_getD (a b : List Int) {k : Nat} (hk : k < 16) : (conv a b).getD k 0 = convk a b k := by rw [List.getD_eq_getElem?_getD, conv_get a b hk]; rfl
theorem conv_pick (a b : List Int) {n : Nat} (hn : n < 16) : Sm 16 (fun j => a.getD j 0 * b.getD ((n + 16 - j) % 16) 0) = Sm 16 (fun j => Sm 16 (fun i => if (i + j) % 16 = n then a.getD j 0 * b.getD i 0 else 0)) := by
  apply Sm_congr
  intro j hj
  rw [Sm_congr 16 (g := fun i => if i = (n + 16 - j) % 16 then a.getD j 0 * b.getD i 0 else 0) (fun i hi => by
    by_cases h : i = (n + 16 - j) % 16
    · rw [if_pos h, if_pos (by omega)]
    · rw [if_neg h, if_neg (by omega)])]
  rw [Sm_pick (fun i => a.getD j 0 * b.getD i 0) _ 16 (Nat.mod_lt _ (by omega))]
theorem conv_cg (a b : List Int) (ha : a.length = 16) (hb : b.length = 16) (k : Nat) : Cg (ev (conv a b) (2 ^ k)) (ev a (2 ^ k) * ev b (2 ^ k)) := by
  have h1 : Cg (ev (conv a b) (2 ^ k)) (Sm 16 fun n => Sm 16 fun j => Sm 16 fun i => if (i + j) % 16 = n then a.getD j 0 * b.getD i 0 * pw 2 (k * n % 16) else 0) := by
    rw [ev_sm, conv_len]
    refine Cg.sm 16 fun n hn => ?_
    rw [conv_getD a b hn, convk]
    have e2 : Cg (((2 : Int) ^ k) ^ n) (pw 2 (k * n % 16)) := by rw [← Int.pow_mul]; exact round16 root2 _
    refine ((Cg.mod _).mul e2).trans ?_
    rw [conv_pick a b hn, Int.mul_comm, ← Sm_mul]
    rw [Sm_congr 16 (g := fun j => Sm 16 fun i => if (i + j) % 16 = n then a.getD j 0 * b.getD i 0 * pw 2 (k * n % 16) else 0) (fun j _ => by
      rw [← Sm_mul]
      apply Sm_congr
      intro i _
      split
      · rw [Int.mul_comm]
      · rw [Int.mul_zero])]
    exact Cg.rfl' _
  refine h1.trans ?_
  rw [Sm_comm]
  have h2 : Cg (Sm 16 fun j => Sm 16 fun n => Sm 16 fun i => if (i + j) % 16 = n then a.getD j 0 * b.getD i 0 * pw 2 (k * n % 16) else 0) (Sm 16 fun j => a.getD j 0 * (2 ^ k) ^ j * ev b (2 ^ k)) := by
    refine Cg.sm 16 fun j hj => ?_
    rw [Sm_comm]
    have h3 : Cg (Sm 16 fun i => Sm 16 fun n => if (i + j) % 16 = n then a.getD j 0 * b.getD i 0 * pw 2 (k * n % 16) else 0) (Sm 16 fun i => a.getD j 0 * (2 ^ k) ^ j * (b.getD i 0 * (2 ^ k) ^ i)) := by
      refine Cg.sm 16 fun i hi => ?_
      rw [Sm_congr 16 (g := fun n => if n = (i + j) % 16 then a.getD j 0 * b.getD i 0 * pw 2 (k * n % 16) else 0) (fun n _ => by
        by_cases h : n = (i + j) % 16
        · rw [if_pos h, if_pos h.symm]
        · rw [if_neg h, if_neg (fun e => h e.symm)])]
      rw [Sm_pick (fun n => a.getD j 0 * b.getD i 0 * pw 2 (k * n % 16)) _ 16 (Nat.mod_lt _ (by omega))]
      have e1 : Cg (pw 2 (k * ((i + j) % 16) % 16)) (((2 : Int) ^ k) ^ j * (2 ^ k) ^ i) := by
        have h4 : k * ((i + j) % 16) % 16 = k * (i + j) % 16 := by rw [Nat.mul_mod, Nat.mod_mod, ← Nat.mul_mod]
        rw [h4]
        refine (round16 root2 _).symm.trans ?_
        rw [Int.pow_mul, Int.pow_add, Int.mul_comm]
        exact Cg.rfl' _
      refine ((Cg.rfl' _).mul e1).trans ?_
      have e5 : a.getD j 0 * b.getD i 0 * (((2 : Int) ^ k) ^ j * (2 ^ k) ^ i) = a.getD j 0 * (2 ^ k) ^ j * (b.getD i 0 * (2 ^ k) ^ i) := by
        generalize a.getD j 0 = x
        generalize b.getD i 0 = y
        generalize ((2 : Int) ^ k) ^ j = u
        generalize ((2 : Int) ^ k) ^ i = v
        grind
      rw [e5]
      exact Cg.rfl' _
    rw [Sm_mul] at h3
    rw [ev_sm, hb]
    exact h3
  refine h2.trans ?_
  rw [Sm_congr 16 (g := fun j => ev b (2 ^ k) * (a.getD j 0 * (2 ^ k) ^ j)) (fun j _ => Int.mul_comm _ _), Sm_mul, ev_sm (2 ^ k) a, ha, Int.mul_comm]
  exact Cg.rfl' _
def mulL (a b : List Int) : List Int := (List.range 16).map fun k => a.getD k 0 * b.getD k 0 % 257
theorem forward_conv {a b : List Int} (ha : ptsOk a = true) (hb : ptsOk b = true) : forward (conv a b) = mulL (forward a) (forward b) := by
  rw [forward, if_pos (conv_ok a b), forward, if_pos ha, forward, if_pos hb]
  refine ext16 (dft_len _ _) (by simp [mulL]) fun k hk => ?_
  rw [dft_getD _ _ hk, Fk]
  have e : (mulL (dft a 2) (dft b 2)).getD k 0 = Fk a 2 k * Fk b 2 k % 257 := by
    rw [List.getD_eq_getElem?_getD, mulL, List.getElem?_map, List.getElem?_range hk]
    simp only [Option.map_some, Option.getD_some, dft_getD _ _ hk]
  rw [e, Fk, Fk]
  have h1 := conv_cg a b (ptsOk_iff.1 ha).1 (ptsOk_iff.1 hb).1 k
  exact h1.trans ((Cg.mod _).mul (Cg.mod _)).symm
theorem back_mul {a b : List Int} (ha : ptsOk a = true) (hb : ptsOk b = true) : backward (mulL (forward a) (forward b)) = conv a b := by
  rw [← forward_conv ha hb, back_forth (conv_ok a b)]
theorem mulL_comm (a b : List Int) : mulL a b = mulL b a := by
  unfold mulL
  exact List.map_congr_left fun k _ => by rw [Int.mul_comm]
theorem conv_comm {a b : List Int} (ha : ptsOk a = true) (hb : ptsOk b = true) : conv a b = conv b a := by
  rw [← back_mul ha hb, ← back_mul hb ha, mulL_comm]
end Go.Proofs.Ytbbonllonkacfaa
