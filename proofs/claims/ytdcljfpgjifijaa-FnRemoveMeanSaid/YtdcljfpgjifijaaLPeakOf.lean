/-
  FnPeakOf, walked: the peak is at least every absolute value, and that of one of the numbers.
-/
import Derived.Test.YtdcljfpgjifijaaDraws
import Derived.Test.YtdcljfpgjifijaaAlive
import Derived.Test.YtdcljfpgjifijaaStep
namespace Go.Proofs.Ytdcljfpgjifijaa
open Go.RowKit
set_option linter.unusedVariables false

def absI (x : Int) : Int := max x (-x)
theorem abs_any (x : Int) (w : World) (h1 : -1000000000000 ≤ x) (h2 : x ≤ 1000000000000) : Calls Try.prog 18 #[.int .i64 x] w fun e w' => e = .returned (.int .i64 (absI x)) ∧ w = w' := by
  go_enter Try.func18, Try.ntmps18
  go_wp2
  all_goals
    go_ret
    exact ⟨ret_int (by unfold absI; first | omega | (split at * <;> omega)), rfl⟩

/-! The plain law. -/
def metB (xs : List Int) (p : Int) (k : Nat) : Bool := (xs.isEmpty && p == 0) || (xs.take k).any fun x => absI x == p
theorem foldl_max_ge : ∀ (xs : List Int) (p : Int), p ≤ xs.foldl (fun p x => max p (max x (-x))) p ∧ ∀ x ∈ xs, absI x ≤ xs.foldl (fun p x => max p (max x (-x))) p := by
  intro xs
  induction xs with
  | nil => intro p; exact ⟨Int.le_refl _, fun x hx => by cases hx⟩
  | cons y ys ih =>
    intro p
    obtain ⟨h1, h2⟩ := ih (max p (max y (-y)))
    simp only [List.foldl_cons]
    refine ⟨by omega, fun x hx => ?_⟩
    rcases List.mem_cons.1 hx with rfl | hx
    · unfold absI; omega
    · exact h2 x hx
theorem foldl_max_met : ∀ (xs : List Int) (p : Int), xs.foldl (fun p x => max p (max x (-x))) p = p ∨ ∃ x ∈ xs, absI x = xs.foldl (fun p x => max p (max x (-x))) p := by
  intro xs
  induction xs with
  | nil => intro p; exact .inl rfl
  | cons y ys ih =>
    intro p
    simp only [List.foldl_cons]
    rcases ih (max p (max y (-y))) with h | ⟨x, hx, he⟩
    · by_cases hp : max p (max y (-y)) = p
      · exact .inl (h.trans hp)
      · refine .inr ⟨y, List.mem_cons_self, ?_⟩
        rw [h]; unfold absI; omega
    · exact .inr ⟨x, List.mem_cons_of_mem _ hx, he⟩
theorem peak_ge {xs : List Int} {k : Nat} {x : Int} (hx : xs[k]? = some x) : absI x ≤ peakF xs := (foldl_max_ge xs 0).2 x (List.mem_of_getElem? hx)
theorem peak_met (xs : List Int) : metB xs (peakF xs) xs.length = true := by
  unfold metB
  rw [List.take_length]
  cases xs with
  | nil => rfl
  | cons y ys =>
    simp only [List.isEmpty_cons, Bool.false_and, Bool.false_or, List.any_eq_true, beq_iff_eq]
    rcases foldl_max_met (y :: ys) 0 with h | ⟨x, hx, he⟩
    · refine ⟨y, List.mem_cons_self, ?_⟩
      have h2 := peak_ge (xs := y :: ys) (k := 0) (x := y) rfl
      have h3 : peakF (y :: ys) = 0 := h
      rw [h3] at h2 ⊢
      unfold absI at h2 ⊢; omega
    · exact ⟨x, hx, he⟩
theorem metB_snoc {xs : List Int} {p : Int} {k : Nat} {x : Int} (hx : xs[k]? = some x) : metB xs p (k + 1) = (metB xs p k || (absI x == p)) := by
  unfold metB
  rw [take_snoc _ _ _ hx, List.any_append]
  simp [Bool.or_assoc]

set_option maxHeartbeats 1600000 in
theorem fnPeakOf_walk {A : Option Addr} {n c : Nat} {bs : List Int} (w : World) (h : RV w w.heap.size A n (bs.map (Value.int .u8))) (wf : ∀ x ∈ bs, (Lit.int .u8 x).wf = true) (hl : n ≤ c) (hm : c ≤ maxLen) :
    Calls Try.prog 4 #[.slice A n c] w fun e w' => e = .returned (.bool true) ∧ Below w.heap.size w w' := by
  unfold maxLen at hm
  by_cases hn : n ≤ 1048576
  · have hd := drawPeakOf_any A n c w.heap.size bs w h (Nat.le_refl _) hl hn (fun x hx => bounds_u8 (wf x hx))
    clear wf
    go_enter Try.func4, Try.ntmps4
    go_wp2_with fail
    refine hd.mono ?_
    rintro e w1 ⟨A1, n1, c1, xs, rfl, hown, hlen, hb1⟩
    have hr1 := OwnI.ri hown
    have HL := hid (RI.len hr1)
    clear hd hown h
    have hbd := peakOf_bd xs
    have hp1 := peakOf_impl A1 n1 c1 _ xs w1 hr1 (by omega)
    have hp2 := peakOf_spec A1 n1 c1 _ xs w1 hr1 (by omega)
    obtain ⟨p, hp⟩ : ∃ p, p = peakOf xs := ⟨_, rfl⟩
    rw [← hp] at hp1 hp2 hbd
    have HP := hid hp
    clear hp
    have hne : (p != p) = false := by simp
    go_wp2_with fail
    refine hp1.mono ?_
    rintro e w2 ⟨rfl, rfl⟩
    clear hp1
    go_wp2_with fail
    refine hp2.mono ?_
    rintro e w2 ⟨rfl, m, rfl⟩
    clear hp2
    have hb2 : Below w.heap.size w (w1.drewN m) := hb1.trans ((Same.drewN w1 m).bel _)
    by_cases hp0 : p < 0
    · have hpe : (p == -1) = true := by simp; omega
      go_wp2_with fail
      refine (alive_any _).mono ?_
      rintro e w3 ⟨rfl, hb3⟩
      have hb := hb2.trans (hb3.mono hb2.size)
      go_wp2
      go_ret
      exact ⟨rfl, hb⟩
    · have hv : seqValid xs = true := by
        have := HP.out
        unfold peakOf at this
        split at this
        · assumption
        · omega
      have hpf : p = peakF xs := by rw [HP.out, peakOf, if_pos hv]
      have HF := hid hpf
      have HA := hid (withinB_iff.1 hv).2
      clear hv hpf
      have hr2 : RI (w1.drewN m) w1.heap.size A1 n1 xs := hr1
      have HB := hid hb2
      have hne' : ((n1 : Int) == 0) = xs.isEmpty := by
        have := HL.out
        cases xs with
        | nil => simp at this; simp; omega
        | cons y ys => simp at this; simp; omega
      cases hxe : xs.isEmpty
      · rw [hxe] at hne'
        have HXE := hid hxe
        clear hxe
        go_wp2
        go_loop [5, 6] (fun mm i => ∃ (k : Nat) (b : Bool), k ≤ n1 ∧ i = .int .i64 k ∧ mm = .bool b ∧ Hid (b = metB xs p k)) (fun _ i => n1 - (intOf i).toNat)
        case atStart => exact ⟨0, false, Nat.zero_le _, rfl, rfl, hid (by simp [metB, HXE.out])⟩
        case round =>
          obtain ⟨k, b, hk, rfl, rfl, HM⟩ := hrel
          by_cases hlt : k < n1
          · obtain ⟨bl, o, x, rfl, hb, hx, hc⟩ := RI.at_ hr2 hlt
            obtain ⟨x0, x1⟩ := allIn_get HA.out hx
            have hge := peak_ge hx
            rw [← HF.out] at hge
            have HM' : Hid ((b || (absI x == p)) = metB xs p (k + 1)) := hid (by rw [metB_snoc hx, HM.out])
            clear hx
            cases b
            · cases hbp : (absI x == p)
              · rw [hbp] at HM'
                go_wp2_with (go_at_call 18; refine (abs_any x _ (by omega) (by omega)).mono ?_; rintro e w3 ⟨rfl, rfl⟩)
                go_round
                case rel => exact ⟨k + 1, false, by omega, by go_num, rfl, HM'⟩
                case measure => simp [intOf]; omega
              · rw [hbp] at HM'
                go_wp2_with (go_at_call 18; refine (abs_any x _ (by omega) (by omega)).mono ?_; rintro e w3 ⟨rfl, rfl⟩)
                go_round
                case rel => exact ⟨k + 1, true, by omega, by go_num, rfl, HM'⟩
                case measure => simp [intOf]; omega
            · go_wp2_with (go_at_call 18; refine (abs_any x _ (by omega) (by omega)).mono ?_; rintro e w3 ⟨rfl, rfl⟩)
              go_round
              case rel => exact ⟨k + 1, true, by omega, by go_num, rfl, by simpa using HM'⟩
              case measure => simp [intOf]; omega
          · have e : k = n1 := by omega
            subst e
            clear hlt
            have hbt : b = true := by
              rw [HM.out, HF.out]
              have := peak_met xs
              rwa [HL.out] at this
            subst hbt
            go_wp2
            go_ret
            exact ⟨rfl, HB.out⟩
      · rw [hxe] at hne'
        have h0 : xs = [] := List.isEmpty_iff.1 hxe
        have hpz : p = 0 := by rw [HF.out, h0]; rfl
        have hn0 : n1 = 0 := by rw [← HL.out, h0]; rfl
        subst hpz hn0
        go_wp2
        refine wp_loop_rounds 1 ?_
        rw [rounds_succ]
        go_wp2
        go_ret
        exact ⟨rfl, HB.out⟩
  · go_enter Try.func4, Try.ntmps4
    go_wp2
    go_ret
    exact ⟨rfl, Below.refl _ _⟩
end Go.Proofs.Ytdcljfpgjifijaa
