/-
  SequenceValid; the greatest absolute value: PeakOf. Walked.
-/
import Derived.Test.YtdcljfpgjifijaaWithin
namespace Go.Proofs.Ytdcljfpgjifijaa
open Go.RowKit
set_option linter.unusedVariables false

theorem seqValid_impl (A : Option Addr) (n c B : Nat) (xs : List Int) (w : World) (h : RI w B A n xs) (hn : n ≤ 1000000000) :
    Calls Try.prog 25 #[.slice A n c] w fun e w' => e = .returned (.bool (seqValid xs)) ∧ w = w' := by
  go_enter Try.func25, Try.ntmps25
  go_wp2_with fail
  refine (within_any A n c B xs 64 1000 w h hn (by omega) (by omega)).mono ?_
  rintro e w1 ⟨rfl, rfl⟩
  go_wp2
  go_ret
  exact ⟨rfl, rfl⟩

theorem seqValid_spec (A : Option Addr) (n c B : Nat) (xs : List Int) (w : World) (h : RI w B A n xs) (hn : n ≤ 1000000000) :
    Calls Try.prog 32 #[.slice A n c] w fun e w' => e = .returned (.bool (seqValid xs)) ∧ w = w' := by
  have HL := hid (RI.len h)
  go_enter Try.func32, Try.ntmps32
  go_wp2
  go_loop [3] (fun i => ∃ k : Nat, k ≤ n ∧ i = .int .i64 k ∧ Hid (AllIn 1000 (xs.take k))) (fun i => n - (intOf i).toNat)
  case atStart => exact ⟨0, Nat.zero_le _, rfl, hid (by rw [List.take_zero]; exact allIn_nil _)⟩
  case round =>
    obtain ⟨k, hk, rfl, HE⟩ := hrel
    by_cases hlt : k < n
    · obtain ⟨p, o, x, rfl, hb, hx, hc⟩ := RI.at_ h hlt
      have HX := hid hx
      clear hx
      by_cases h1 : -1000 ≤ x
      · by_cases h2 : x ≤ 1000
        · go_wp2
          go_round
          case rel => exact ⟨k + 1, by omega, by go_num, hid (allIn_snoc HE.out HX.out h1 h2)⟩
          case measure => simp [intOf]; omega
        · go_wp2
          go_ret
          exact ⟨ret_bool (withinB_no fun hh => by have := allIn_get hh.2 HX.out; omega).symm, rfl⟩
      · go_wp2
        go_ret
        exact ⟨ret_bool (withinB_no fun hh => by have := allIn_get hh.2 HX.out; omega).symm, rfl⟩
    · by_cases hl : n ≤ 64
      · go_wp2
        go_ret
        refine ⟨ret_bool ?_, rfl⟩
        rw [show seqValid xs = true from withinB_iff.2 ⟨by rw [HL.out]; omega, allIn_whole HE.out HL.out (by omega)⟩]
        simp; omega
      · go_wp2
        go_ret
        refine ⟨ret_bool ?_, rfl⟩
        rw [show seqValid xs = false from withinB_no fun hh => by rw [HL.out] at hh; omega]
        simp; omega

def peakF (xs : List Int) : Int := xs.foldl (fun p x => max p (max x (-x))) 0
def peakOf (xs : List Int) : Int := if seqValid xs then peakF xs else -1
theorem peakF_snoc {xs : List Int} {k : Nat} {x : Int} (hx : xs[k]? = some x) : peakF (xs.take (k + 1)) = max (peakF (xs.take k)) (max x (-x)) := by
  rw [take_snoc _ _ _ hx]
  simp [peakF, List.foldl_append]

theorem peakOf_impl (A : Option Addr) (n c B : Nat) (xs : List Int) (w : World) (h : RI w B A n xs) (hn : n ≤ 1000000000) :
    Calls Try.prog 14 #[.slice A n c] w fun e w' => e = .returned (.int .i64 (peakOf xs)) ∧ w = w' := by
  have HL := hid (RI.len h)
  cases hv : seqValid xs
  · have HV := hid hv
    have hsv := seqValid_impl A n c B xs w h hn
    rw [hv] at hsv
    clear hv
    go_enter Try.func14, Try.ntmps14
    go_wp2_with fail
    refine hsv.mono ?_
    rintro e w1 ⟨rfl, rfl⟩
    go_wp2
    go_ret
    exact ⟨ret_int (by simp [peakOf, HV.out]), rfl⟩
  · have HV := hid hv
    have hsv := seqValid_impl A n c B xs w h hn
    rw [hv] at hsv
    clear hv
    have hall := (withinB_iff.1 HV.out).2
    have HA := hid hall
    clear hall
    go_enter Try.func14, Try.ntmps14
    go_wp2_with fail
    refine hsv.mono ?_
    rintro e w1 ⟨rfl, rfl⟩
    clear hsv
    go_wp2
    go_loop [3, 11] (fun p i => ∃ (k : Nat) (q : Int), k ≤ n ∧ i = .int .i64 k ∧ p = .int .i64 q ∧ 0 ≤ q ∧ q ≤ 1000 ∧ Hid (q = peakF (xs.take k))) (fun _ i => n - (intOf i).toNat)
    case atStart => exact ⟨0, 0, Nat.zero_le _, rfl, rfl, by omega, by omega, hid (by simp [peakF])⟩
    case round =>
      obtain ⟨k, q, hk, rfl, rfl, hq0, hq1, HQ⟩ := hrel
      by_cases hlt : k < n
      · obtain ⟨p, o, x, rfl, hb, hx, hc⟩ := RI.at_ h hlt
        have hxb := allIn_get HA.out hx
        obtain ⟨hx1, hx2⟩ := hxb
        have HX := hid hx
        clear hx
        go_wp2
        go_round
        case rel => exact ⟨k + 1, max q (max x (-x)), by omega, by go_num, congrArg (Value.int .i64) (by repeat' split <;> omega), by omega, by omega, hid (by rw [peakF_snoc HX.out, ← HQ.out])⟩
        case measure => simp [intOf]; omega
      · go_wp2
        go_ret
        refine ⟨ret_int ?_, rfl⟩
        rw [HQ.out, List.take_of_length_le (by rw [HL.out]; omega)]
        simp [peakOf, HV.out]
theorem peakOf_spec (A : Option Addr) (n c B : Nat) (xs : List Int) (w : World) (h : RI w B A n xs) (hn : n ≤ 1000000000) :
    Calls Try.prog 12 #[.slice A n c] w fun e w' => e = .returned (.int .i64 (peakOf xs)) ∧ ∃ m, w' = w.drewN m := by
  have HL := hid (RI.len h)
  cases hv : seqValid xs
  · have HV := hid hv
    have hsv := seqValid_spec A n c B xs w h hn
    rw [hv] at hsv
    clear hv
    go_enter Try.func12, Try.ntmps12
    go_wp2_with fail
    refine hsv.mono ?_
    rintro e w1 ⟨rfl, rfl⟩
    go_wp2
    go_ret
    exact ⟨ret_int (by simp [peakOf, HV.out]), 0, rfl⟩
  · have HV := hid hv
    have hsv := seqValid_spec A n c B xs w h hn
    rw [hv] at hsv
    clear hv
    have hall := (withinB_iff.1 HV.out).2
    have HA := hid hall
    clear hall
    go_enter Try.func12, Try.ntmps12
    go_wp2_with fail
    refine hsv.mono ?_
    rintro e w1 ⟨rfl, rfl⟩
    clear hsv
    go_wp2
    go_loopw [3, 4] (fun p i wr => ∃ (k m : Nat) (q : Int), wr = w.drewN m ∧ k ≤ n ∧ i = .int .i64 k ∧ p = .int .i64 q ∧ 0 ≤ q ∧ q ≤ 1000 ∧ Hid (q = peakF (xs.take k))) (fun _ i _ => n - (intOf i).toNat)
    case atStart => exact ⟨0, 0, 0, rfl, Nat.zero_le _, rfl, rfl, by omega, by omega, hid (by simp [peakF])⟩
    case round =>
      obtain ⟨k, m, q, rfl, hk, rfl, rfl, hq0, hq1, HQ⟩ := hrel
      by_cases hlt : k < n
      · obtain ⟨p, o, x, rfl, hb, hx, hc⟩ := RI.at_ h hlt
        have hxb := allIn_get HA.out hx
        obtain ⟨hx1, hx2⟩ := hxb
        have HX := hid hx
        clear hx
        go_wp2
        go_quiet (fail)
        go_wp2
        go_roundw
        case rel => exact ⟨k + 1, _, max q (max x (-x)), by first | rfl | exact World.drewN_drewN _ _ _, by omega, by go_num, congrArg (Value.int .i64) (by repeat' split <;> omega), by omega, by omega, hid (by rw [peakF_snoc HX.out, ← HQ.out])⟩
        case measure => simp [intOf]; omega
      · go_wp2
        go_ret
        refine ⟨ret_int ?_, _, rfl⟩
        rw [HQ.out, List.take_of_length_le (by rw [HL.out]; omega)]
        simp [peakOf, HV.out]
end Go.Proofs.Ytdcljfpgjifijaa
