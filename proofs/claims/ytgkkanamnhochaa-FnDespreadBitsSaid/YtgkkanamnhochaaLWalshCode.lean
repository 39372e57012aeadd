/-
  FnWalshCode, walked: the codes are eight long, and any two are orthogonal.
-/
import Derived.Test.YtgkkanamnhochaaDraw
import Derived.Test.YtgkkanamnhochaaAlive
import Derived.Test.YtgkkanamnhochaaWalshI
import Derived.OpenShut
import Derived.Deep.RegionHeld3
namespace Go.Proofs.Ytgkkanamnhochaa
open Go.RowKit
set_option linter.unusedVariables false

theorem drawWalshCode_any (A : Option Addr) (n c B : Nat) (bs : List Int) (w : World) (h : RB w B A n bs) (hB : B ≤ w.heap.size) (hc : n ≤ c) (hn : n ≤ 1048576) (hb : ∀ x ∈ bs, 0 ≤ x ∧ x ≤ 255) :
    Calls Try.prog 19 #[.slice A n c] w fun e w' => ∃ x : Int, e = .returned (.int .i64 x) ∧ -1 ≤ x ∧ x ≤ 9 ∧ Below w.heap.size w w' := by
  have ho := l20Open_any A n c B bs w h hB hc hn hb
  have HB := hid hb
  clear hb
  go_enter Try.func19, Try.ntmps19
  go_wp2_with fail
  refine ho.mono ?_
  rintro e w1 ⟨rfl, hr, hb1, hs1⟩
  have H1 := hid hb1
  clear hs1 ho hb1
  go_wp2_with fail
  refine (pick_any _ 0 11 _ hr (by omega)).mono ?_
  rintro e w2 ⟨k1, rfl, hk1, _, hr2, ho2, hs2⟩
  obtain ⟨a0, a1⟩ := hk1 (by omega)
  have H2 := hid ho2
  clear hk1 ho2 hs2 hr
  go_wp2
  go_ret
  exact ⟨_, rfl, by omega, by omega, H1.out.trans (H2.out.below (Nat.le_refl _) H1.out.size)⟩

def dotp (K j : Nat) : Nat → Int
  | 0 => 0
  | i + 1 => dotp K j i + wsign K i * wsign j i
theorem dotp_all : ∀ K < 8, ∀ j < 8, dotp K j 8 = if j = K then 8 else 0 := by decide
theorem walsh_at {k i : Nat} {x : Int} (h : (walsh k)[i]? = some x) : x = wsign k i := by
  rw [walsh, List.getElem?_map] at h
  cases hr : (List.range 8)[i]? with
  | none => rw [hr] at h; cases h
  | some z =>
    rw [hr] at h
    have hz : z = i := by
      rw [List.getElem?_eq_some_iff] at hr
      obtain ⟨h1, h2⟩ := hr
      rw [List.getElem_range] at h2
      exact h2.symm
    subst hz
    injection h with h
    exact h.symm

set_option maxHeartbeats 1600000 in
theorem fnWalshCode_walk {A : Option Addr} {n c : Nat} {bs : List Int} (w : World) (h : RV w w.heap.size A n (bs.map (Value.int .u8))) (wf : ∀ x ∈ bs, (Lit.int .u8 x).wf = true) (hl : n ≤ c) (hm : c ≤ maxLen) :
    Calls Try.prog 4 #[.slice A n c] w fun e w' => e = .returned (.bool true) ∧ Below w.heap.size w w' := by
  unfold maxLen at hm
  by_cases hn : n ≤ 1048576
  · have hd := drawWalshCode_any A n c w.heap.size bs w h (Nat.le_refl _) hl hn (fun x hx => bounds_u8 (wf x hx))
    clear wf h
    go_enter Try.func4, Try.ntmps4
    go_wp2_with fail
    refine hd.mono ?_
    rintro e w1 ⟨k, rfl, k0, k1, hb1⟩
    clear hd
    obtain ⟨V, hV⟩ : ∃ V, V = walshCode k := ⟨_, rfl⟩
    have hi := walshCode_impl k w1
    rw [← hV] at hi
    go_wp2_with fail
    refine hi.mono ?_
    rintro e w2 ⟨A1, n1, c1, rfl, o1, hb2⟩
    have r1 : RI w2 w2.heap.size A1 n1 V := OwnI.ri o1
    have hbw2 := Below.next hb1 hb2
    clear hi o1 hb1 hb2
    have hs := walshCode_spec k w2
    rw [← hV] at hs
    have hVl : V.length ≤ 8 := by rw [hV]; unfold walshCode; split <;> simp [walsh]
    have HV := hid hV
    clear hV
    go_wp2_with fail
    refine hs.mono ?_
    rintro e w3 ⟨A2, n2, c2, rfl, o2, hb3⟩
    have r2 : RI w3 w3.heap.size A2 n2 V := OwnI.ri o2
    have r1' := RV.next r1 hb3
    have hbw3 := Below.next hbw2 hb3
    clear hs o2 hb3 r1 hbw2
    go_wp2_with fail
    refine (sameInts_same A1 A2 n1 n2 c1 c2 _ _ V w3 r1' r2 (by omega)).mono ?_
    rintro e w4 ⟨rfl, hb4⟩
    have r1 := RV.next r1' hb4
    have hbw4 := Below.next hbw3 hb4
    clear r1' r2 hb4 hbw3
    have HL := hid (RI.len r1)
    by_cases hk : 0 ≤ k ∧ k ≤ 7
    · obtain ⟨h0, h7⟩ := hk
      obtain ⟨K, rfl⟩ := Int.eq_ofNat_of_zero_le h0
      have hVK : V = walsh K := by rw [HV.out, walshCode, if_pos ⟨h0, h7⟩, Int.toNat_natCast]
      subst hVK
      have hn1 : n1 = 8 := by rw [← HL.out, walsh_len]
      subst hn1
      clear hVl
      obtain ⟨B1, hB1⟩ : ∃ B1, B1 = w4.heap.size := ⟨_, rfl⟩
      have r1w : RI w4 B1 A1 8 (walsh K) := by rw [hB1]; exact r1
      clear r1
      go_wp2
      go_loopw [5] (fun jv wr => ∃ j : Nat, j ≤ 8 ∧ jv = .int .i64 j ∧ RI wr B1 A1 8 (walsh K) ∧ B1 ≤ wr.heap.size ∧ Below w.heap.size w wr)
        (fun jv _ => 8 - (intOf jv).toNat)
      case atStart => exact ⟨0, by omega, rfl, r1w, by omega, hbw4⟩
      case round =>
        obtain ⟨j, hj, rfl, rr, hBr, hbr⟩ := hrel
        by_cases hlt : j < 8
        · have hij := walshCode_impl (j : Int) wr
          rw [walshCode, if_pos ⟨by omega, by omega⟩, Int.toNat_natCast] at hij
          go_wp2_with fail
          refine hij.mono ?_
          rintro e w5 ⟨A3, n3, c3, rfl, o3, hb5⟩
          have r3 : RI w5 w5.heap.size A3 n3 (walsh j) := OwnI.ri o3
          have hn3 : n3 = 8 := by rw [← RI.len r3, walsh_len]
          subst hn3
          have r15 : RI w5 B1 A1 8 (walsh K) := RV.below rr (hb5.mono hBr)
          have hB5 : B1 ≤ w5.heap.size := Nat.le_trans hBr hb5.size
          have hbw5 := Below.next hbr hb5
          clear hij o3 hb5 rr hBr hbr r1w
          have hdot := hid (dotp_all K (by omega) j hlt)
          go_wp2
          go_loopw [7, 8] (fun sv iv wr => ∃ (i m : Nat) (s : Int), i ≤ 8 ∧ iv = .int .i64 i ∧ sv = .int .i64 s ∧ Hid (s = dotp K j i) ∧ -(i : Int) ≤ s ∧ s ≤ (i : Int) ∧ wr = w5.drewN m)
            (fun _ iv _ => 8 - (intOf iv).toNat)
          case atStart => exact ⟨0, 0, 0, by omega, rfl, rfl, hid rfl, by omega, by omega, rfl⟩
          case round =>
            obtain ⟨i, m, s, hi, rfl, rfl, HS, s0, s1, rfl⟩ := hrel
            by_cases hlt' : i < 8
            · obtain ⟨b1, o1, x, rfl, hb1, hx, hc1⟩ := RI.at_ r15 hlt'
              obtain ⟨b3, o3, y, rfl, hb3, hy, hc3⟩ := RI.at_ r3 hlt'
              have hxe := walsh_at hx
              have hye := walsh_at hy
              have hm : -1 ≤ x * y ∧ x * y ≤ 1 := by
                rcases wsign_pm K i with e1 | e1 <;> rcases wsign_pm j i with e2 | e2 <;> rw [hxe, hye, e1, e2] <;> omega
              obtain ⟨hm0, hm1⟩ := hm
              have q1 : IntKind.i64.wrap (x * y) = x * y := IntWalk.i64_in _ (by omega)
              have q2 : IntKind.i64.wrap (s + x * y) = s + x * y := IntWalk.i64_in _ (by omega)
              have HXE := hid hxe
              have HYE := hid hye
              have i0' : (0 : Int) ≤ (i : Int) := by omega
              have i1' : (i : Int) < 8 := by omega
              clear hx hy hxe hye
              go_wp2_with (go_quiet (fail))
              go_roundw
              case rel =>
                refine ⟨i + 1, _, s + x * y, by omega, by go_num, rfl, hid ?_, by omega, by omega, rfl⟩
                simp only [dotp]
                rw [HS.out, HXE.out, HYE.out]
              case measure => simp [intOf]; omega
            · have e : i = 8 := by omega
              subst e
              clear hlt'
              have hsd := HS.out.trans hdot.out
              have HBm := hid (show Below w.heap.size w (w5.drewN m) from ⟨hbw5.os, hbw5.tape, hbw5.output, hbw5.size, hbw5.block⟩)
              have HRm := hid (show RI (w5.drewN m) B1 A1 8 (walsh K) from r15)
              by_cases hjk : j = K
              · subst hjk
                rw [if_pos rfl] at hsd
                subst hsd
                clear s0 s1
                go_wp2
                go_roundw
                case rel => exact ⟨j + 1, by omega, by go_num, HRm.out, hB5, HBm.out⟩
                case measure => simp [intOf]; omega
              · rw [if_neg hjk] at hsd
                subst hsd
                have hjk1 : ¬ (j : Int) = (K : Int) := by omega
                clear s0 s1
                go_wp2
                go_roundw
                case rel => exact ⟨j + 1, by omega, by go_num, HRm.out, hB5, HBm.out⟩
                case measure => simp [intOf]; omega
        · have e : j = 8 := by omega
          subst e
          clear hlt
          go_wp2
          go_ret
          exact ⟨rfl, hbr⟩
    · have h0 : V = [] := by rw [HV.out, walshCode, if_neg hk]
      subst h0
      have hn1 : n1 = 0 := by rw [← HL.out]; rfl
      subst hn1
      rcases (show k < 0 ∨ 8 ≤ k by omega) with hk' | hk'
      · clear hk
        go_wp2_with fail
        refine (alive_any _).mono ?_
        rintro e w5 ⟨rfl, hb5⟩
        go_wp2
        go_ret
        exact ⟨rfl, Below.next hbw4 hb5⟩
      · clear hk
        go_wp2_with fail
        refine (alive_any _).mono ?_
        rintro e w5 ⟨rfl, hb5⟩
        go_wp2
        go_ret
        exact ⟨rfl, Below.next hbw4 hb5⟩
  · go_enter Try.func4, Try.ntmps4
    go_wp2
    go_ret
    exact ⟨rfl, Below.refl _ _⟩
end Go.Proofs.Ytgkkanamnhochaa
