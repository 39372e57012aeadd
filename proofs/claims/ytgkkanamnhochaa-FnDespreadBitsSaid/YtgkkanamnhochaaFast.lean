/-
  The program's fastWalsh, walked: eight numbers in a block become the sums of their products with all codes.
-/
import Derived.Test.YtgkkanamnhochaaWalsh
import Derived.Test.YtgkkanamnhochaaWithin
import Derived.KernelRfl
namespace Go.Proofs.Ytgkkanamnhochaa
open Go.RowKit
set_option linter.unusedVariables false

theorem i64_or_nat (a b : Nat) (ha : a < 9223372036854775808) (hb : b < 9223372036854775808) : bits .or .i64 (a : Int) (b : Int) = ((a ||| b : Nat) : Int) := by
  have hx : a ||| b < 2 ^ 63 := Nat.or_lt_two_pow (by omega) (by omega)
  show IntKind.i64.wrap ((BitVec.ofInt 64 (a : Int) ||| BitVec.ofInt 64 (b : Int)).toNat : Int) = _
  rw [BitVec.toNat_or, ofInt_i64 a ha, ofInt_i64 b hb, IntKind.wrap_i64]
  omega

def bfly (zs : List Int) (i j : Nat) : List Int := (zs.set i (zs.getD i 0 + zs.getD j 0)).set j (zs.getD i 0 - zs.getD j 0)
def bpart (d : Nat) : Nat → List Int → List Int
  | 0, ys => ys
  | m + 1, ys => if (m &&& d) = 0 then bfly (bpart d m ys) m (m ||| d) else bpart d m ys
theorem bpart_len (d : Nat) (ys : List Int) : ∀ m, (bpart d m ys).length = ys.length := by
  intro m
  induction m with
  | zero => rfl
  | succ m ih => rw [bpart]; split <;> simp [bfly, ih]
def fastL (ys : List Int) : List Int := bpart 4 8 (bpart 2 8 (bpart 1 8 ys))
/-- The sum of the products of eight numbers with code k. -/
def dot8 (ys : List Int) (k : Nat) : Int := ys.getD 0 0 * wsign k 0 + ys.getD 1 0 * wsign k 1 + ys.getD 2 0 * wsign k 2 + ys.getD 3 0 * wsign k 3 + ys.getD 4 0 * wsign k 4 + ys.getD 5 0 * wsign k 5 + ys.getD 6 0 * wsign k 6 + ys.getD 7 0 * wsign k 7
theorem eight {α : Type} (l : List α) (h : l.length = 8) : ∃ a b c d e f g i, l = [a, b, c, d, e, f, g, i] := by
  match l, h with
  | [a, b, c, d, e, f, g, i], _ => exact ⟨a, b, c, d, e, f, g, i, rfl⟩
theorem fastL_eq (ys : List Int) (h : ys.length = 8) : fastL ys = (List.range 8).map (dot8 ys) := by
  obtain ⟨a, b, c, d, e, f, g, i, rfl⟩ := eight ys h
  have e1 : fastL [a, b, c, d, e, f, g, i] = [
      a + b + (c + d) + (e + f + (g + i)), a - b + (c - d) + (e - f + (g - i)), a + b - (c + d) + (e + f - (g + i)), a - b - (c - d) + (e - f - (g - i)),
      a + b + (c + d) - (e + f + (g + i)), a - b + (c - d) - (e - f + (g - i)), a + b - (c + d) - (e + f - (g + i)), a - b - (c - d) - (e - f - (g - i))] := by kernel_rfl
  have e2 : (List.range 8).map (dot8 [a, b, c, d, e, f, g, i]) = [dot8 [a, b, c, d, e, f, g, i] 0, dot8 [a, b, c, d, e, f, g, i] 1, dot8 [a, b, c, d, e, f, g, i] 2, dot8 [a, b, c, d, e, f, g, i] 3, dot8 [a, b, c, d, e, f, g, i] 4, dot8 [a, b, c, d, e, f, g, i] 5, dot8 [a, b, c, d, e, f, g, i] 6, dot8 [a, b, c, d, e, f, g, i] 7] := rfl
  rw [e1, e2]
  have hd : ∀ k, dot8 [a, b, c, d, e, f, g, i] k = a * wsign k 0 + b * wsign k 1 + c * wsign k 2 + d * wsign k 3 + e * wsign k 4 + f * wsign k 5 + g * wsign k 6 + i * wsign k 7 := fun k => rfl
  simp only [hd]
  have hs : ∀ k j, wsign k j = 1 - 2 * ((pop3 (k &&& j) % 2 : Nat) : Int) := fun _ _ => rfl
  simp only [List.cons.injEq, and_true]
  refine ⟨?_, ?_, ?_, ?_, ?_, ?_, ?_, ?_⟩
  · rw [show wsign 0 0 = 1 by decide, show wsign 0 1 = 1 by decide, show wsign 0 2 = 1 by decide, show wsign 0 3 = 1 by decide, show wsign 0 4 = 1 by decide, show wsign 0 5 = 1 by decide, show wsign 0 6 = 1 by decide, show wsign 0 7 = 1 by decide]; omega
  · rw [show wsign 1 0 = 1 by decide, show wsign 1 1 = -1 by decide, show wsign 1 2 = 1 by decide, show wsign 1 3 = -1 by decide, show wsign 1 4 = 1 by decide, show wsign 1 5 = -1 by decide, show wsign 1 6 = 1 by decide, show wsign 1 7 = -1 by decide]; omega
  · rw [show wsign 2 0 = 1 by decide, show wsign 2 1 = 1 by decide, show wsign 2 2 = -1 by decide, show wsign 2 3 = -1 by decide, show wsign 2 4 = 1 by decide, show wsign 2 5 = 1 by decide, show wsign 2 6 = -1 by decide, show wsign 2 7 = -1 by decide]; omega
  · rw [show wsign 3 0 = 1 by decide, show wsign 3 1 = -1 by decide, show wsign 3 2 = -1 by decide, show wsign 3 3 = 1 by decide, show wsign 3 4 = 1 by decide, show wsign 3 5 = -1 by decide, show wsign 3 6 = -1 by decide, show wsign 3 7 = 1 by decide]; omega
  · rw [show wsign 4 0 = 1 by decide, show wsign 4 1 = 1 by decide, show wsign 4 2 = 1 by decide, show wsign 4 3 = 1 by decide, show wsign 4 4 = -1 by decide, show wsign 4 5 = -1 by decide, show wsign 4 6 = -1 by decide, show wsign 4 7 = -1 by decide]; omega
  · rw [show wsign 5 0 = 1 by decide, show wsign 5 1 = -1 by decide, show wsign 5 2 = 1 by decide, show wsign 5 3 = -1 by decide, show wsign 5 4 = -1 by decide, show wsign 5 5 = 1 by decide, show wsign 5 6 = -1 by decide, show wsign 5 7 = 1 by decide]; omega
  · rw [show wsign 6 0 = 1 by decide, show wsign 6 1 = 1 by decide, show wsign 6 2 = -1 by decide, show wsign 6 3 = -1 by decide, show wsign 6 4 = -1 by decide, show wsign 6 5 = -1 by decide, show wsign 6 6 = 1 by decide, show wsign 6 7 = 1 by decide]; omega
  · rw [show wsign 7 0 = 1 by decide, show wsign 7 1 = -1 by decide, show wsign 7 2 = -1 by decide, show wsign 7 3 = 1 by decide, show wsign 7 4 = -1 by decide, show wsign 7 5 = 1 by decide, show wsign 7 6 = 1 by decide, show wsign 7 7 = -1 by decide]; omega

theorem bpart_step0 {d m : Nat} {ys : List Int} (h : (m &&& d) = 0) : bpart d (m + 1) ys = bfly (bpart d m ys) m (m ||| d) := by rw [bpart, if_pos h]
theorem bpart_step1 {d m : Nat} {ys : List Int} (h : ¬ (m &&& d) = 0) : bpart d (m + 1) ys = bpart d m ys := by rw [bpart, if_neg h]
theorem allIn_set {b b' : Int} {xs : List Int} {i : Nat} {x : Int} (h : AllIn b xs) (hb : b ≤ b') (h1 : -b' ≤ x) (h2 : x ≤ b') : AllIn b' (xs.set i x) := by
  intro y hy
  rcases List.mem_or_eq_of_mem_set hy with hy | rfl
  · have := h y hy; omega
  · exact ⟨h1, h2⟩
/-- The bound after t butterflies. -/
def bnd (t : Nat) : Int := 8000 * (2 : Int) ^ t
theorem bnd_succ (t : Nat) : bnd (t + 1) = 2 * bnd t := by unfold bnd; rw [Int.pow_succ]; omega
theorem bnd_pos (t : Nat) : 0 ≤ bnd t := by unfold bnd; exact Int.mul_nonneg (by omega) (Int.pow_nonneg (by omega))
theorem bnd_mono {s t : Nat} (h : s ≤ t) : bnd s ≤ bnd t := by
  induction h with
  | refl => exact Int.le_refl _
  | step _ ih => rw [bnd_succ]; have := bnd_pos ‹Nat›; omega
theorem bnd_le {t : Nat} (h : t ≤ 24) : bnd t ≤ 134217728000 := by
  have h1 := bnd_mono h
  have h2 : bnd 24 = 134217728000 := by decide
  omega

def StageOf (ys : List Int) (s : Nat) (zs : List Int) : Prop := (s = 0 → zs = ys) ∧ (s = 1 → zs = bpart 1 8 ys) ∧ (s = 2 → zs = bpart 2 8 (bpart 1 8 ys)) ∧ (s = 3 → zs = fastL ys)

set_option maxHeartbeats 3200000 in
theorem fastWalsh_any (g T : Nat) (ys : List Int) (w : World) (hblk : Blk w g T (ys.map (Value.int .i64)).toArray) (hl : ys.length = 8) (ha : AllIn 8000 ys) :
    Calls Try.prog 44 #[.pointer (some ⟨g, 0, none⟩)] w fun e w' => e = .returned (.tuple #[]) ∧ Blk w' g T ((fastL ys).map (Value.int .i64)).toArray ∧ Only g (g + 1) w w' ∧ w'.heap.size = w.heap.size := by
  have HL := hid hl
  have HA : Hid (AllIn (bnd 0) ys) := hid (by rw [(by decide : bnd 0 = 8000)]; exact ha)
  clear hl ha
  go_enter Try.func44, Try.ntmps44
  go_wp2
  go_loopw [2] (fun wv wr => ∃ (s : Nat) (zs : List Int), s ≤ 3 ∧ wv = .int .i64 (((2 ^ s : Nat)) : Int) ∧ Blk wr g T (zs.map (Value.int .i64)).toArray ∧ Hid (zs.length = 8) ∧ Hid (AllIn (bnd (8 * s)) zs) ∧ Only g (g + 1) w wr ∧ Hid (wr.heap.size = w.heap.size) ∧
      StageOf ys s zs)
    (fun wv _ => 8 - (intOf wv).toNat)
  case atStart => exact ⟨0, ys, by omega, rfl, hblk, HL, HA, Only.refl _ _ _, hid rfl, ⟨fun _ => rfl, fun h => absurd h (by omega), fun h => absurd h (by omega), fun h => absurd h (by omega)⟩⟩
  case round =>
    obtain ⟨s, zs, hs, rfl, hbl, HZ, HB, hO, HS, HR⟩ := hrel
    obtain ⟨wo, rfl⟩ : ∃ wo : World, wo = wr := ⟨_, rfl⟩
    clear hblk
    rcases (show s = 0 ∨ s = 1 ∨ s = 2 ∨ s = 3 by omega) with rfl | rfl | rfl | rfl
    · simp only [show (((2 ^ 0 : Nat)) : Int) = 1 from rfl]
      go_wp2
      go_loopw [3] (fun mv wr => ∃ (m : Nat) (us : List Int), m ≤ 8 ∧ mv = .int .i64 m ∧ Blk wr g T (us.map (Value.int .i64)).toArray ∧ Hid (us.length = 8) ∧ Hid (AllIn (bnd (8 * 0 + m)) us) ∧ Only g (g + 1) w wr ∧ Hid (wr.heap.size = w.heap.size) ∧ Hid (us = bpart 1 m zs))
        (fun mv _ => 8 - (intOf mv).toNat)
      case atStart => exact ⟨0, zs, by omega, rfl, hbl, HZ, HB, hO, HS, hid rfl⟩
      case round =>
        obtain ⟨m, us, hm, rfl, hbu, HU, HBU, hOu, HSu, HP⟩ := hrel
        by_cases hlt : m < 8
        · obtain ⟨U, hU⟩ : ∃ U, U = m &&& 1 := ⟨_, rfl⟩
          obtain ⟨J, hJ⟩ : ∃ J, J = m ||| 1 := ⟨_, rfl⟩
          have hand : bits .and .i64 (m : Int) 1 = (U : Int) := by rw [hU]; exact i64_and_nat m 1 (by omega) (by omega)
          have hor : bits .or .i64 (m : Int) 1 = (J : Int) := by rw [hJ]; exact i64_or_nat m 1 (by omega) (by omega)
          have hJU : U = 0 → J < 8 ∧ J ≠ m := by
            rw [hU, hJ]
            rcases (show m = 0 ∨ m = 1 ∨ m = 2 ∨ m = 3 ∨ m = 4 ∨ m = 5 ∨ m = 6 ∨ m = 7 by omega) with rfl | rfl | rfl | rfl | rfl | rfl | rfl | rfl <;> decide
          have HUU := hid hU
          have HJJ := hid hJ
          clear hU hJ
          by_cases hu0 : U = 0
          · obtain ⟨hJ8, hJm⟩ := hJU hu0
            subst hu0
            obtain ⟨x, hx, hcx⟩ := hbu.cellL (k := m) (by rw [HU.out]; omega)
            obtain ⟨y, hy, hcy⟩ := hbu.cellL (k := J) (by rw [HU.out]; omega)
            obtain ⟨x0, x1⟩ := allIn_get HBU.out hx
            obtain ⟨y0, y1⟩ := allIn_get HBU.out hy
            have hb := bnd_le (t := 8 * 0 + m) (by omega)
            have hfm := hbu.frozen m
            have hfJ := hbu.frozen J
            have HX := hid hx
            have HY := hid hy
            have hx0' : -134217728000 ≤ x := by omega
            have hx1' : x ≤ 134217728000 := by omega
            have hy0' : -134217728000 ≤ y := by omega
            have hy1' : y ≤ 134217728000 := by omega
            have HXB := hid (And.intro (And.intro x0 x1) (And.intro y0 y1))
            have hJ0 : (0 : Int) ≤ (J : Int) := by omega
            have hJ8' : (J : Int) < 8 := by omega
            have hm0 : (0 : Int) ≤ (m : Int) := by omega
            have hm8' : (m : Int) < 8 := by omega
            have hmJ : m ≠ J := fun e => hJm e.symm
            clear hx hy x0 x1 y0 y1 hb hJU
            have hnext : ∀ (b : Int), b = bnd (8 * 0 + m) → AllIn (bnd (8 * 0 + (m + 1))) (bfly us m J) := by
              rintro b rfl
              have e : bnd (8 * 0 + (m + 1)) = 2 * bnd (8 * 0 + m) := bnd_succ _
              have hp := bnd_pos (8 * 0 + m)
              have h1 := HXB.out
              unfold bfly
              rw [List.getD_eq_getElem?_getD, List.getD_eq_getElem?_getD, HX.out, HY.out, e]
              simp only [Option.getD_some]
              exact allIn_set (allIn_set HBU.out (by omega) (by omega) (by omega)) (Int.le_refl _) (by omega) (by omega)
            have HN := hid (hnext _ rfl)
            clear hnext
            have hbf : bfly us m J = (us.set m (x + y)).set J (x - y) := by
              unfold bfly
              rw [List.getD_eq_getElem?_getD, List.getD_eq_getElem?_getD, HX.out, HY.out]; rfl
            have HBF := hid hbf
            clear hbf
            go_wp2
            go_quiet (fail)
            go_wp2
            go_region
            all_goals
              go_wp2
              go_roundw
              case rel =>
                refine ⟨m + 1, bfly us m J, by omega, by go_num, ?_, hid (by rw [HBF.out]; simp [HU.out]), HN, ?_, hid (by have := HSu.out; simpa [World.setCell] using this), hid (by rw [bpart_step0 HUU.out.symm, ← HP.out, ← HJJ.out])⟩
                · rw [HBF.out]
                  first
                    | exact (hbu.setL m (x + y)).setL J (x - y)
                    | (rw [List.set_comm _ _ hmJ]; exact (hbu.setL J (x - y)).setL m (x + y))
                · first
                    | exact (((hOu.drewN _).setCell (p := ⟨g, m, none⟩) (Nat.le_refl _) (Nat.lt_succ_self _) _).setCell (p := ⟨g, J, none⟩) (Nat.le_refl _) (Nat.lt_succ_self _) _).drew
                    | exact (((hOu.setCell (p := ⟨g, m, none⟩) (Nat.le_refl _) (Nat.lt_succ_self _) _).setCell (p := ⟨g, J, none⟩) (Nat.le_refl _) (Nat.lt_succ_self _) _).drewN _).drew
                    | exact ((hOu.setCell (p := ⟨g, m, none⟩) (Nat.le_refl _) (Nat.lt_succ_self _) _).setCell (p := ⟨g, J, none⟩) (Nat.le_refl _) (Nat.lt_succ_self _) _).drewN _
                    | exact ((hOu.setCell (p := ⟨g, J, none⟩) (Nat.le_refl _) (Nat.lt_succ_self _) _).setCell (p := ⟨g, m, none⟩) (Nat.le_refl _) (Nat.lt_succ_self _) _).drewN _
              case measure => simp [intOf]; omega
          · have hub : ((U : Int) == 0) = false := by simp; omega
            have hun : ¬ (m &&& 1) = 0 := by rw [← HUU.out]; exact hu0
            have HUN := hid hun
            clear hun hu0 hJU hor
            go_wp2
            go_roundw
            case rel => exact ⟨m + 1, us, by omega, by go_num, hbu, HU, hid (by
              have h1 := bnd_mono (show 8 * 0 + m ≤ 8 * 0 + (m + 1) by omega)
              intro y hy; have := HBU.out y hy; omega), hOu, HSu, hid (by rw [bpart_step1 HUN.out]; exact HP.out)⟩
            case measure => simp [intOf]; omega
        · have e : m = 8 := by omega
          subst e
          clear hlt
          go_wp2
          go_roundw
          case rel => exact ⟨0 + 1, us, by omega, rfl, hbu, HU, HBU, hOu, HSu, ⟨fun h => absurd h (by omega), fun _ => by rw [HP.out, HR.1 rfl], fun h => absurd h (by omega), fun h => absurd h (by omega)⟩⟩
          case measure => simp [intOf]
    · simp only [show (((2 ^ 1 : Nat)) : Int) = 2 from rfl]
      go_wp2
      go_loopw [3] (fun mv wr => ∃ (m : Nat) (us : List Int), m ≤ 8 ∧ mv = .int .i64 m ∧ Blk wr g T (us.map (Value.int .i64)).toArray ∧ Hid (us.length = 8) ∧ Hid (AllIn (bnd (8 * 1 + m)) us) ∧ Only g (g + 1) w wr ∧ Hid (wr.heap.size = w.heap.size) ∧ Hid (us = bpart 2 m zs))
        (fun mv _ => 8 - (intOf mv).toNat)
      case atStart => exact ⟨0, zs, by omega, rfl, hbl, HZ, HB, hO, HS, hid rfl⟩
      case round =>
        obtain ⟨m, us, hm, rfl, hbu, HU, HBU, hOu, HSu, HP⟩ := hrel
        by_cases hlt : m < 8
        · obtain ⟨U, hU⟩ : ∃ U, U = m &&& 2 := ⟨_, rfl⟩
          obtain ⟨J, hJ⟩ : ∃ J, J = m ||| 2 := ⟨_, rfl⟩
          have hand : bits .and .i64 (m : Int) 2 = (U : Int) := by rw [hU]; exact i64_and_nat m 2 (by omega) (by omega)
          have hor : bits .or .i64 (m : Int) 2 = (J : Int) := by rw [hJ]; exact i64_or_nat m 2 (by omega) (by omega)
          have hJU : U = 0 → J < 8 ∧ J ≠ m := by
            rw [hU, hJ]
            rcases (show m = 0 ∨ m = 1 ∨ m = 2 ∨ m = 3 ∨ m = 4 ∨ m = 5 ∨ m = 6 ∨ m = 7 by omega) with rfl | rfl | rfl | rfl | rfl | rfl | rfl | rfl <;> decide
          have HUU := hid hU
          have HJJ := hid hJ
          clear hU hJ
          by_cases hu0 : U = 0
          · obtain ⟨hJ8, hJm⟩ := hJU hu0
            subst hu0
            obtain ⟨x, hx, hcx⟩ := hbu.cellL (k := m) (by rw [HU.out]; omega)
            obtain ⟨y, hy, hcy⟩ := hbu.cellL (k := J) (by rw [HU.out]; omega)
            obtain ⟨x0, x1⟩ := allIn_get HBU.out hx
            obtain ⟨y0, y1⟩ := allIn_get HBU.out hy
            have hb := bnd_le (t := 8 * 1 + m) (by omega)
            have hfm := hbu.frozen m
            have hfJ := hbu.frozen J
            have HX := hid hx
            have HY := hid hy
            have hx0' : -134217728000 ≤ x := by omega
            have hx1' : x ≤ 134217728000 := by omega
            have hy0' : -134217728000 ≤ y := by omega
            have hy1' : y ≤ 134217728000 := by omega
            have HXB := hid (And.intro (And.intro x0 x1) (And.intro y0 y1))
            have hJ0 : (0 : Int) ≤ (J : Int) := by omega
            have hJ8' : (J : Int) < 8 := by omega
            have hm0 : (0 : Int) ≤ (m : Int) := by omega
            have hm8' : (m : Int) < 8 := by omega
            have hmJ : m ≠ J := fun e => hJm e.symm
            clear hx hy x0 x1 y0 y1 hb hJU
            have hnext : ∀ (b : Int), b = bnd (8 * 1 + m) → AllIn (bnd (8 * 1 + (m + 1))) (bfly us m J) := by
              rintro b rfl
              have e : bnd (8 * 1 + (m + 1)) = 2 * bnd (8 * 1 + m) := bnd_succ _
              have hp := bnd_pos (8 * 1 + m)
              have h1 := HXB.out
              unfold bfly
              rw [List.getD_eq_getElem?_getD, List.getD_eq_getElem?_getD, HX.out, HY.out, e]
              simp only [Option.getD_some]
              exact allIn_set (allIn_set HBU.out (by omega) (by omega) (by omega)) (Int.le_refl _) (by omega) (by omega)
            have HN := hid (hnext _ rfl)
            clear hnext
            have hbf : bfly us m J = (us.set m (x + y)).set J (x - y) := by
              unfold bfly
              rw [List.getD_eq_getElem?_getD, List.getD_eq_getElem?_getD, HX.out, HY.out]; rfl
            have HBF := hid hbf
            clear hbf
            go_wp2
            go_quiet (fail)
            go_wp2
            go_region
            all_goals
              go_wp2
              go_roundw
              case rel =>
                refine ⟨m + 1, bfly us m J, by omega, by go_num, ?_, hid (by rw [HBF.out]; simp [HU.out]), HN, ?_, hid (by have := HSu.out; simpa [World.setCell] using this), hid (by rw [bpart_step0 HUU.out.symm, ← HP.out, ← HJJ.out])⟩
                · rw [HBF.out]
                  first
                    | exact (hbu.setL m (x + y)).setL J (x - y)
                    | (rw [List.set_comm _ _ hmJ]; exact (hbu.setL J (x - y)).setL m (x + y))
                · first
                    | exact (((hOu.drewN _).setCell (p := ⟨g, m, none⟩) (Nat.le_refl _) (Nat.lt_succ_self _) _).setCell (p := ⟨g, J, none⟩) (Nat.le_refl _) (Nat.lt_succ_self _) _).drew
                    | exact (((hOu.setCell (p := ⟨g, m, none⟩) (Nat.le_refl _) (Nat.lt_succ_self _) _).setCell (p := ⟨g, J, none⟩) (Nat.le_refl _) (Nat.lt_succ_self _) _).drewN _).drew
                    | exact ((hOu.setCell (p := ⟨g, m, none⟩) (Nat.le_refl _) (Nat.lt_succ_self _) _).setCell (p := ⟨g, J, none⟩) (Nat.le_refl _) (Nat.lt_succ_self _) _).drewN _
                    | exact ((hOu.setCell (p := ⟨g, J, none⟩) (Nat.le_refl _) (Nat.lt_succ_self _) _).setCell (p := ⟨g, m, none⟩) (Nat.le_refl _) (Nat.lt_succ_self _) _).drewN _
              case measure => simp [intOf]; omega
          · have hub : ((U : Int) == 0) = false := by simp; omega
            have hun : ¬ (m &&& 2) = 0 := by rw [← HUU.out]; exact hu0
            have HUN := hid hun
            clear hun hu0 hJU hor
            go_wp2
            go_roundw
            case rel => exact ⟨m + 1, us, by omega, by go_num, hbu, HU, hid (by
              have h1 := bnd_mono (show 8 * 1 + m ≤ 8 * 1 + (m + 1) by omega)
              intro y hy; have := HBU.out y hy; omega), hOu, HSu, hid (by rw [bpart_step1 HUN.out]; exact HP.out)⟩
            case measure => simp [intOf]; omega
        · have e : m = 8 := by omega
          subst e
          clear hlt
          go_wp2
          go_roundw
          case rel => exact ⟨1 + 1, us, by omega, rfl, hbu, HU, HBU, hOu, HSu, ⟨fun h => absurd h (by omega), fun h => absurd h (by omega), fun _ => by rw [HP.out, HR.2.1 rfl], fun h => absurd h (by omega)⟩⟩
          case measure => simp [intOf]
    · simp only [show (((2 ^ 2 : Nat)) : Int) = 4 from rfl]
      go_wp2
      go_loopw [3] (fun mv wr => ∃ (m : Nat) (us : List Int), m ≤ 8 ∧ mv = .int .i64 m ∧ Blk wr g T (us.map (Value.int .i64)).toArray ∧ Hid (us.length = 8) ∧ Hid (AllIn (bnd (8 * 2 + m)) us) ∧ Only g (g + 1) w wr ∧ Hid (wr.heap.size = w.heap.size) ∧ Hid (us = bpart 4 m zs))
        (fun mv _ => 8 - (intOf mv).toNat)
      case atStart => exact ⟨0, zs, by omega, rfl, hbl, HZ, HB, hO, HS, hid rfl⟩
      case round =>
        obtain ⟨m, us, hm, rfl, hbu, HU, HBU, hOu, HSu, HP⟩ := hrel
        by_cases hlt : m < 8
        · obtain ⟨U, hU⟩ : ∃ U, U = m &&& 4 := ⟨_, rfl⟩
          obtain ⟨J, hJ⟩ : ∃ J, J = m ||| 4 := ⟨_, rfl⟩
          have hand : bits .and .i64 (m : Int) 4 = (U : Int) := by rw [hU]; exact i64_and_nat m 4 (by omega) (by omega)
          have hor : bits .or .i64 (m : Int) 4 = (J : Int) := by rw [hJ]; exact i64_or_nat m 4 (by omega) (by omega)
          have hJU : U = 0 → J < 8 ∧ J ≠ m := by
            rw [hU, hJ]
            rcases (show m = 0 ∨ m = 1 ∨ m = 2 ∨ m = 3 ∨ m = 4 ∨ m = 5 ∨ m = 6 ∨ m = 7 by omega) with rfl | rfl | rfl | rfl | rfl | rfl | rfl | rfl <;> decide
          have HUU := hid hU
          have HJJ := hid hJ
          clear hU hJ
          by_cases hu0 : U = 0
          · obtain ⟨hJ8, hJm⟩ := hJU hu0
            subst hu0
            obtain ⟨x, hx, hcx⟩ := hbu.cellL (k := m) (by rw [HU.out]; omega)
            obtain ⟨y, hy, hcy⟩ := hbu.cellL (k := J) (by rw [HU.out]; omega)
            obtain ⟨x0, x1⟩ := allIn_get HBU.out hx
            obtain ⟨y0, y1⟩ := allIn_get HBU.out hy
            have hb := bnd_le (t := 8 * 2 + m) (by omega)
            have hfm := hbu.frozen m
            have hfJ := hbu.frozen J
            have HX := hid hx
            have HY := hid hy
            have hx0' : -134217728000 ≤ x := by omega
            have hx1' : x ≤ 134217728000 := by omega
            have hy0' : -134217728000 ≤ y := by omega
            have hy1' : y ≤ 134217728000 := by omega
            have HXB := hid (And.intro (And.intro x0 x1) (And.intro y0 y1))
            have hJ0 : (0 : Int) ≤ (J : Int) := by omega
            have hJ8' : (J : Int) < 8 := by omega
            have hm0 : (0 : Int) ≤ (m : Int) := by omega
            have hm8' : (m : Int) < 8 := by omega
            have hmJ : m ≠ J := fun e => hJm e.symm
            clear hx hy x0 x1 y0 y1 hb hJU
            have hnext : ∀ (b : Int), b = bnd (8 * 2 + m) → AllIn (bnd (8 * 2 + (m + 1))) (bfly us m J) := by
              rintro b rfl
              have e : bnd (8 * 2 + (m + 1)) = 2 * bnd (8 * 2 + m) := bnd_succ _
              have hp := bnd_pos (8 * 2 + m)
              have h1 := HXB.out
              unfold bfly
              rw [List.getD_eq_getElem?_getD, List.getD_eq_getElem?_getD, HX.out, HY.out, e]
              simp only [Option.getD_some]
              exact allIn_set (allIn_set HBU.out (by omega) (by omega) (by omega)) (Int.le_refl _) (by omega) (by omega)
            have HN := hid (hnext _ rfl)
            clear hnext
            have hbf : bfly us m J = (us.set m (x + y)).set J (x - y) := by
              unfold bfly
              rw [List.getD_eq_getElem?_getD, List.getD_eq_getElem?_getD, HX.out, HY.out]; rfl
            have HBF := hid hbf
            clear hbf
            go_wp2
            go_quiet (fail)
            go_wp2
            go_region
            all_goals
              go_wp2
              go_roundw
              case rel =>
                refine ⟨m + 1, bfly us m J, by omega, by go_num, ?_, hid (by rw [HBF.out]; simp [HU.out]), HN, ?_, hid (by have := HSu.out; simpa [World.setCell] using this), hid (by rw [bpart_step0 HUU.out.symm, ← HP.out, ← HJJ.out])⟩
                · rw [HBF.out]
                  first
                    | exact (hbu.setL m (x + y)).setL J (x - y)
                    | (rw [List.set_comm _ _ hmJ]; exact (hbu.setL J (x - y)).setL m (x + y))
                · first
                    | exact (((hOu.drewN _).setCell (p := ⟨g, m, none⟩) (Nat.le_refl _) (Nat.lt_succ_self _) _).setCell (p := ⟨g, J, none⟩) (Nat.le_refl _) (Nat.lt_succ_self _) _).drew
                    | exact (((hOu.setCell (p := ⟨g, m, none⟩) (Nat.le_refl _) (Nat.lt_succ_self _) _).setCell (p := ⟨g, J, none⟩) (Nat.le_refl _) (Nat.lt_succ_self _) _).drewN _).drew
                    | exact ((hOu.setCell (p := ⟨g, m, none⟩) (Nat.le_refl _) (Nat.lt_succ_self _) _).setCell (p := ⟨g, J, none⟩) (Nat.le_refl _) (Nat.lt_succ_self _) _).drewN _
                    | exact ((hOu.setCell (p := ⟨g, J, none⟩) (Nat.le_refl _) (Nat.lt_succ_self _) _).setCell (p := ⟨g, m, none⟩) (Nat.le_refl _) (Nat.lt_succ_self _) _).drewN _
              case measure => simp [intOf]; omega
          · have hub : ((U : Int) == 0) = false := by simp; omega
            have hun : ¬ (m &&& 4) = 0 := by rw [← HUU.out]; exact hu0
            have HUN := hid hun
            clear hun hu0 hJU hor
            go_wp2
            go_roundw
            case rel => exact ⟨m + 1, us, by omega, by go_num, hbu, HU, hid (by
              have h1 := bnd_mono (show 8 * 2 + m ≤ 8 * 2 + (m + 1) by omega)
              intro y hy; have := HBU.out y hy; omega), hOu, HSu, hid (by rw [bpart_step1 HUN.out]; exact HP.out)⟩
            case measure => simp [intOf]; omega
        · have e : m = 8 := by omega
          subst e
          clear hlt
          go_wp2
          go_roundw
          case rel => exact ⟨2 + 1, us, by omega, rfl, hbu, HU, HBU, hOu, HSu, ⟨fun h => absurd h (by omega), fun h => absurd h (by omega), fun h => absurd h (by omega), fun _ => by rw [HP.out, HR.2.2.1 rfl]; rfl⟩⟩
          case measure => simp [intOf]
    · simp only [show (((2 ^ 3 : Nat)) : Int) = 8 from rfl]
      go_wp2
      go_end0
      exact ⟨rfl, by rw [← HR.2.2.2 rfl]; exact hbl, hO, HS.out⟩
end Go.Proofs.Ytgkkanamnhochaa
