/-
  DespreadBits, the program's and the reference's, walked.
-/
import Derived.Test.YtgkkanamnhochaaDespreadS
namespace Go.Proofs.Ytgkkanamnhochaa
open Go.RowKit
set_option linter.unusedVariables false

def sbit (x : Int) : Int := if 0 < x then 1 else 0
def despBits (xs : List Int) (k : Int) : List Int := (despread xs k).map sbit
theorem despread_len (xs : List Int) (k : Int) : (despread xs k).length ≤ 32 := by
  unfold despread
  split
  · rename_i hh
    have := (withinB_iff.1 hh.2.2.2).1
    simp [despL]; omega
  · simp
theorem signBit_any (x : Int) (w : World) : Calls Try.prog 50 #[.int .i64 x] w fun e w' => e = .returned (.int .i64 (sbit x)) ∧ w = w' := by
  by_cases h : 0 < x
  · go_enter Try.func50, Try.ntmps50
    go_wp2
    go_ret
    exact ⟨ret_int (by simp [sbit, h]), rfl⟩
  · go_enter Try.func50, Try.ntmps50
    go_wp2
    go_ret
    exact ⟨ret_int (by simp [sbit, h]), rfl⟩

set_option maxHeartbeats 1600000 in
theorem despBits_impl (A : Option Addr) (n c B : Nat) (xs : List Int) (k : Int) (w : World) (h : RI w B A n xs) (hB : B ≤ w.heap.size) (hn : n ≤ 1000000000) (hcap : n ≤ c) (hcm : c ≤ maxLen) :
    Calls Try.prog 32 #[.slice A n c, .int .i64 k] w fun e w' => RetI 3 w e w' (despBits xs k) := by
  have hds := despread_impl A n c B xs k w h hB hn hcap hcm
  have hlen := despread_len xs k
  obtain ⟨V, hV⟩ : ∃ V, V = despread xs k := ⟨_, rfl⟩
  rw [← hV] at hds hlen
  have HV := hid hV
  clear hV hcap hcm
  go_enter Try.func32, Try.ntmps32
  go_wp2_with fail
  refine hds.mono ?_
  rintro e w1 ⟨A1, n1, c1, rfl, o1, hb1⟩
  have hl1 := OwnI.len o1
  have hn1 : n1 ≤ 32 := by omega
  have hsz := hb1.size
  clear hds hlen
  have HL1 := hid hl1
  clear hl1
  go_wp2
  go_loopw [13] (fun iv wr => ∃ (j : Nat) (ys : List Int), j ≤ n1 ∧ iv = .int .i64 j ∧ OwnI wr 3 w.heap.size w1.heap.size A1 n1 c1 ys ∧ Only w.heap.size w1.heap.size w1 wr ∧ Hid (ys.take j = (V.map sbit).take j) ∧ Hid (∀ m, j ≤ m → ys[m]? = V[m]?))
    (fun iv _ => n1 - (intOf iv).toNat)
  case atStart => exact ⟨0, V, Nat.zero_le _, rfl, o1, Only.refl _ _ _, hid (by simp), hid fun _ _ => rfl⟩
  case round =>
    obtain ⟨j, ys, hj, rfl, hown, honly, HE, HR⟩ := hrel
    by_cases hlt : j < n1
    · obtain ⟨y, hy⟩ : ∃ y, ys[j]? = some y := by
        have := OwnI.len hown
        exact ⟨ys[j]'(by omega), List.getElem?_eq_getElem (by omega)⟩
      obtain ⟨g, y', rfl, g1, g2, g3, hy', hcy, hfr, hown'⟩ := OwnI.stored hown hlt (sbit y)
      rw [hy] at hy'
      injection hy' with hy'
      subst hy'
      have hYV := hid ((HR.out j (Nat.le_refl _)).symm.trans hy)
      have hsg := signBit_any y
      have HLY := hid (OwnI.len hown)
      obtain ⟨z, hz⟩ : ∃ z, z = sbit y := ⟨_, rfl⟩
      rw [← hz] at hsg hown'
      have HZ := hid hz
      clear hy hz
      go_wp2_with (go_at_call 50; refine (hsg _).mono ?_; rintro e w2 ⟨rfl, rfl⟩)
      go_roundw
      case rel =>
        refine ⟨j + 1, ys.set j z, by omega, by go_num, hown', honly.setCell g1 g2 _, hid ?_, hid ?_⟩
        · rw [take_set_snoc _ _ _ (by rw [HLY.out]; omega), HE.out, take_snoc (V.map sbit) j z (by rw [List.getElem?_map, hYV.out, HZ.out]; rfl)]
        · intro m hm
          rw [List.getElem?_set_ne (by omega)]
          exact HR.out m (by omega)
      case measure => simp [intOf]; omega
    · have e : j = n1 := by omega
      subst e
      clear hlt
      go_wp2
      go_ret
      have e : ys = despBits xs k := by
        have := HE.out
        rw [List.take_of_length_le (by rw [OwnI.len hown]; exact Nat.le_refl _), List.take_of_length_le (by rw [List.length_map, HL1.out]; exact Nat.le_refl _)] at this
        rw [this, despBits, HV.out]
      subst e
      exact retI_of (OwnV.own hown) (hb1.trans (honly.below (Nat.le_refl _) hsz))

theorem Only.grown' {lo hi : Nat} {w w' w'' : World} (h : Only lo hi w w') {row : Option Nat} (hg : w'.grownBy w'' row) (hr : ∀ k, row = some k → w.heap.size ≤ k ∨ (lo ≤ k ∧ k < hi)) : Only lo hi w w'' :=
  ⟨hg.os.trans h.os, hg.tape.trans h.tape, hg.output.trans h.output, Nat.le_trans h.size hg.size, fun k hk hn =>
    (hg.block k (Nat.lt_of_lt_of_le hk h.size) (fun e => by rcases hr k e.symm with h1 | h1; omega; exact hn h1)).trans (h.block k hk hn)⟩

set_option maxHeartbeats 1600000 in
theorem despBits_spec (A : Option Addr) (n c B : Nat) (xs : List Int) (k : Int) (w : World) (h : RI w B A n xs) (hB : B ≤ w.heap.size) (hn : n ≤ 1000000000) :
    Calls Try.prog 33 #[.slice A n c, .int .i64 k] w fun e w' => RetI 3 w e w' (despBits xs k) := by
  have hds := despread_spec A n c B xs k (w.alloc (.cells #[] 3)) (RV.alloc h hB _) (by simp; omega) hn
  have hlen := despread_len xs k
  obtain ⟨i0, hi0, hz0, hz1, hz2⟩ := info_parts infoI
  obtain ⟨V, hV⟩ : ∃ V, V = despread xs k := ⟨_, rfl⟩
  rw [← hV] at hds hlen
  have HV := hid hV
  clear hV
  go_enter Try.func33, Try.ntmps33
  go_wp2_with fail
  refine hds.mono ?_
  rintro e w1 ⟨A1, n1, c1, rfl, o1, hb1⟩
  have hl1 := OwnI.len o1
  have hn1 : n1 ≤ 32 := by omega
  have hsa : (w.alloc (.cells #[] 3)).heap.size = w.heap.size + 1 := by simp
  have hsz : w.heap.size + 1 ≤ w1.heap.size := by rw [← hsa]; exact hb1.size
  have hout := own_only (lo := w1.heap.size) (hi := w1.heap.size) (own_lit0 (w := w) 3 (Nat.le_refl _)) (Below.only hb1) (.inr (by rw [hsa]; omega))
  rw [hsa] at o1
  have hbw : Below w.heap.size w w1 := ((Below.refl w.heap.size w).alloc (Nat.le_refl _) (.cells #[] 3)).trans (hb1.mono (by rw [hsa]; omega))
  have HL1 := hid hl1
  clear hds hlen hb1 hsa hl1
  go_wp2
  go_loopw [5, 7] (fun v iv wr => ∃ (j cc : Nat) (AA : Option Addr), j ≤ n1 ∧ iv = .int .i64 j ∧ v = .slice AA j cc ∧ wr.ownsRow w.heap.size 3 1 (.slice AA j cc) j (((V.map sbit).take j).map (Value.int .i64)) ∧ Only w.heap.size (w.heap.size + 1) w1 wr ∧ Hid (∀ g, Value.ownBlock (.slice AA j cc) = some g → w1.heap.size ≤ g ∨ (w.heap.size ≤ g ∧ g < w.heap.size + 1)))
    (fun _ iv _ => n1 - (intOf iv).toNat)
  case atStart => exact ⟨0, 0, _, Nat.zero_le _, rfl, rfl, hout, Only.refl _ _ _, hid (fun g hg => by simp [Value.ownBlock] at hg; omega)⟩
  case round =>
    obtain ⟨j, cc, AA, hj, rfl, rfl, hown, honly, HG⟩ := hrel
    have hszr := honly.size
    by_cases hlt : j < n1
    · obtain ⟨pb, po, x, rfl, hpb, hx, hcx⟩ := RI.at_ (OwnI.ri (OwnV.only o1 honly (.inr (Nat.le_refl _)))) hlt
      have HX := hid hx
      clear hx
      by_cases hp : 0 < x
      · have hs : sbit x = 1 := by simp [sbit, hp]
        have HS := hid hs
        clear hs
        go_wp2_with (at_builtin; refine wpList_push rfl _ _ _ rfl w.heap.size 3 i0 _ 8 Try.underlying22 hi0 hz0 hz1 hz2 rfl (by omega) _ _ AA j cc _ rfl hown rfl rfl (by omega) (by omega) ?_; intro g' cap w3 hown3 hgrow3 hlies3 hlt3)
        go_roundw
        case rel =>
          refine ⟨j + 1, cap, _, by omega, by go_num, rfl, ?_, honly.grown' hgrow3 HG.out, hid fun g hg => ?_⟩
          · have e : ((V.map sbit).take (j + 1)).map (Value.int .i64) = ((V.map sbit).take j).map (Value.int .i64) ++ [.int .i64 1] := by
              rw [take_snoc (V.map sbit) j 1 (by rw [List.getElem?_map, HX.out, ← HS.out]; rfl)]; simp
            rw [e]
            exact hown3
          · have : g = g' := by simpa [Value.ownBlock] using hg.symm
            subst this
            rcases hlies3 with h3 | h3
            · exact HG.out _ h3
            · left; omega
        case measure => simp [intOf]; omega
      · have hs : sbit x = 0 := by simp [sbit, hp]
        have HS := hid hs
        clear hs
        go_wp2_with (at_builtin; refine wpList_push rfl _ _ _ rfl w.heap.size 3 i0 _ 8 Try.underlying22 hi0 hz0 hz1 hz2 rfl (by omega) _ _ AA j cc _ rfl hown rfl rfl (by omega) (by omega) ?_; intro g' cap w3 hown3 hgrow3 hlies3 hlt3)
        go_roundw
        case rel =>
          refine ⟨j + 1, cap, _, by omega, by go_num, rfl, ?_, honly.grown' hgrow3 HG.out, hid fun g hg => ?_⟩
          · have e : ((V.map sbit).take (j + 1)).map (Value.int .i64) = ((V.map sbit).take j).map (Value.int .i64) ++ [.int .i64 0] := by
              rw [take_snoc (V.map sbit) j 0 (by rw [List.getElem?_map, HX.out, ← HS.out]; rfl)]; simp
            rw [e]
            exact hown3
          · have : g = g' := by simpa [Value.ownBlock] using hg.symm
            subst this
            rcases hlies3 with h3 | h3
            · exact HG.out _ h3
            · left; omega
        case measure => simp [intOf]; omega
    · have e : j = n1 := by omega
      subst e
      clear hlt
      go_wp2
      go_ret
      rw [List.take_of_length_le (by rw [List.length_map, HL1.out]; exact Nat.le_refl _), HV.out] at hown
      exact retI_of hown (hbw.trans (honly.below (Nat.le_refl _) (by omega)))
end Go.Proofs.Ytgkkanamnhochaa
