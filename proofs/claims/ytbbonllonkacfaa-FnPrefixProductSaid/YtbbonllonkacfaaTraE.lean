/-
  AddPrefix of three, walked.
-/
import Derived.Test.YtbbonllonkacfaaTraC
import Derived.Deep.RegionHeld3
namespace Go.Proofs.Ytbbonllonkacfaa
open Go.RowKit
set_option linter.unusedVariables false

/-- 'append(out, xs...)' as a step of a region that draws. -/
theorem step_all {P : Program} {w : World} {ops : Array Oper} {o : Oper} {a : Act} {K : Act → World → Prop} {Q : Exit → Act → World → Prop} {E : Prop} (hgd : o.guard = none) (s x : Operand) (t : TypeId)
    (ho : o.op = .call { callee := .builtin .append, args := #[s, x], argTypes := #[t, t] })
    (base : Nat) (e : TypeId) (i : TypeInfo) (z : Value) (bytes : Nat) (ht : P.underlying t = some (.slice e)) (hi : P.info? e = some i) (hz : i.zero = some z)
    (hsize : i.size = 1) (hby : i.bytes = bytes) (hzs : z.cells.size = 1) (hb64 : bytes ≤ 1000)
    (A : Option Addr) (n c : Nat) (xs : List Value) (hs : a.eval s = .slice A n c) (hown : w.ownsRow base e 1 (.slice A n c) n xs)
    (B : Nat) (A1 : Option Addr) (m c1 : Nat) (news : List Value) (hx : a.eval x = .slice A1 m c1) (hr : RV w B A1 m news) (h1 : ∀ u ∈ news, u.oneCell' = true)
    (hn : n ≤ 1000000000) (hm : m ≤ 1000000000) (hbase : base ≤ w.heap.size)
    (h : ∀ A' c' w', w'.ownsRow base e 1 (.slice A' (n + m) c') (n + m) (xs ++ news) → w.grownBy w' (Value.ownBlock (.slice A n c)) → K (a.put o.dst (.slice A' (n + m) c')) w') :
    if Region.wanted o (yielded ops a.tmps) = true then Oper.wp P o a w K Q else E := by
  rw [if_pos (by rw [Region.wanted, hgd])]
  obtain ⟨v', w', hrun, h2, h3⟩ := run_append_all (P := P) w base t o.type e i z bytes ht hi hz hsize hby hzs hb64 _ n xs hown B A1 m c1 news hr h1 hn hm hbase
  have hv : ∃ A' c', v' = .slice A' (n + m) c' := by
    rcases h2.2 with ⟨rfl, h0⟩ | ⟨g, cap, cur, rfl, _⟩
    · exact ⟨none, 0, by rw [h0]⟩
    · exact ⟨_, cap, rfl⟩
  obtain ⟨A', c', rfl⟩ := hv
  unfold Oper.wp execOp
  simp only [ho, resolve, invoke, builtin, Sem.run_bind, Sem.run_pure, Result.andThen_ok, List.map_toArray, List.map_cons, List.map_nil, hs, hx, hrun]
  exact h A' c' w' h2 h3
def prefix3 (xs : List Int) : List Int := if ptsOk xs = true then xs.drop 13 ++ xs else []
theorem RI.drop' {w : World} {B n : Nat} {b o : Nat} {xs : List Int} (h : RI w B (some ⟨b, o, none⟩) n xs) (k : Nat) (hk : k ≤ n) : RI w B (some ⟨b, o + k, none⟩) (n - k) (xs.drop k) := by
  refine ⟨by have := RI.len h; simp; omega, fun hn => ?_⟩
  obtain ⟨b', o', e, hb, hc⟩ := h.2 (by omega)
  injection e with e
  injection e with e1 e2
  subst e1 e2
  refine ⟨b, o + k, rfl, hb, fun j u hu => ?_⟩
  rw [List.map_drop, List.getElem?_drop] at hu
  have := hc (k + j) u hu
  rwa [← Nat.add_assoc] at this
set_option maxHeartbeats 1600000 in
theorem addPrefix_three (A : Option Addr) (n c B : Nat) (xs : List Int) (w : World) (h : RI w B A n xs) (hB : B ≤ w.heap.size) (hn : n ≤ 1000000000) (hcap : n ≤ c) (hcm : c ≤ maxLen) :
    Calls Try.prog 17 #[.slice A n c, .int .i64 3] w fun e w' => RetI 3 w e w' (prefix3 xs) := by
  unfold maxLen at hcm
  obtain ⟨i0, hi0, hz0, hz1, hz2⟩ := info_parts infoI
  cases hv : ptsOk xs
  · have hp := points_no A n c B xs w h hn hv
    have HV := hid hv
    clear hv
    go_enter Try.func17, Try.ntmps17
    go_wp2_with fail
    refine hp.mono ?_
    rintro e w1 ⟨rfl, rfl⟩
    go_wp2
    go_ret
    rw [prefix3, if_neg (by rw [HV.out]; exact Bool.false_ne_true)]
    exact retI_nil _ _
  · have hp := points_yes A n c B xs w h hn hv
    obtain ⟨hl, hx⟩ := ptsOk_iff.1 hv
    have hn16 : n = 16 := by rw [← RI.len h]; exact hl
    subst hn16
    have HV := hid hv
    obtain ⟨b, o, rfl, hb, _⟩ := h.2 (by omega)
    have hmk : ∀ w, (Instr.makeSlice 23 (.int .i64 0) (.int .i64 19)).run Try.prog w = .ok (.slice (some ⟨w.heap.size, 0, none⟩) 0 19) (w.alloc (.cells (madeCells #[.int .i64 0] 19) 3)) :=
      run_make0 (P := Try.prog) 23 3 (.int .i64 0) 8 Try.underlying23 infoI rfl .i64 .i64 19 (by omega) (by omega)
    have hw19 : IntKind.i64.wrap 19 = 19 := IntWalk.i64_in _ (by omega)
    have hw13 : IntKind.i64.wrap 13 = 13 := IntWalk.i64_in _ (by omega)
    have hc13 : ¬ c = 13 := by omega
    have hc16 : (16 : Int) ≤ (c : Int) := by omega
    have hc13' : (13 : Int) ≤ (c : Int) := by omega
    have hbA : Below w.heap.size w (w.drew.alloc (.cells (madeCells #[.int .i64 0] 19) 3)) := ((Below.refl _ _).drew).alloc (Nat.le_refl _) _
    have ownA : (w.drew.alloc (.cells (madeCells #[.int .i64 0] 19) 3)).ownsRow w.heap.size 3 1 (.slice (some ⟨w.heap.size, 0, none⟩) 0 19) 0 [] := own_made0 (w := w.drew) _ _ _ (Nat.le_refl _) (by unfold maxLen; omega)
    have rA : RI (w.drew.alloc (.cells (madeCells #[.int .i64 0] 19) 3)) B (some ⟨b, o, none⟩) 16 xs := RV.below h (hbA.mono hB)
    have HA := hid (And.intro ownA (And.intro (RI.drop' rA 13 (by omega)) (And.intro hbA rA)))
    have hone : ∀ (ys : List Int), ∀ u ∈ ys.map (Value.int .i64), u.oneCell' = true := fun ys u hu => by obtain ⟨x, _, rfl⟩ := List.mem_map.1 hu; rfl
    have HONE := hid hone
    have hszA : w.heap.size ≤ (w.drew.alloc (.cells (madeCells #[.int .i64 0] 19) 3)).heap.size := hbA.size
    have HSZ := hid hszA
    clear hv hl hx h hn ownA rA hbA hone hszA
    go_enter Try.func17, Try.ntmps17
    go_wp2_with fail
    refine hp.mono ?_
    rintro e w1 ⟨rfl, rfl⟩
    clear hp
    go_wp2
    go_region_held3 (fun w' => w'.os = w.os) (first | rfl | (simp; done) | exact hg1.os.trans rfl | (rw [hg2.os, hg1.os]; rfl)) (first
      | ((refine step_all (o := ⟨some 23, _, _, _, _, _⟩) rfl (.tmp 18) (.tmp 22) 23 (by rfl) w.heap.size 3 i0 (.int .i64 0) 8 Try.underlying23 hi0 hz0 hz1 hz2 rfl (by decide) _ 0 19 [] (by rfl) HA.out.1 B _ 3 _ ((xs.drop 13).map (Value.int .i64)) (by rfl) HA.out.2.1 (HONE.out _) (by omega) (by omega) HSZ.out ?_; intro A1 c1 w1 ho1 hg1))
      | ((refine step_all (o := ⟨some 25, _, _, _, _, _⟩) rfl (.tmp 23) (.tmp 24) 23 (by rfl) w.heap.size 3 i0 (.int .i64 0) 8 Try.underlying23 hi0 hz0 hz1 hz2 rfl (by decide) _ _ _ _ (by rfl) ho1 B _ 16 _ (xs.map (Value.int .i64)) (by rfl) (RV.below HA.out.2.2.2 (below_push (Below.refl B _) HA.out.1 hB (Nat.le_trans hB HSZ.out) hg1)) (HONE.out _) (by omega) (by omega) (Nat.le_trans HSZ.out hg1.size) ?_; intro A2 c2 w2 ho2 hg2)))
    have hb1 := below_push HA.out.2.2.1 HA.out.1 (Nat.le_refl _) HSZ.out hg1
    have hb2 := below_push hb1 ho1 (Nat.le_refl _) (Nat.le_trans HSZ.out hg1.size) hg2
    have HB2 := hid (And.intro ho2 hb2)
    clear ho1 ho2 hb1 hb2 hg1 hg2
    go_wp2
    go_ret
    rw [prefix3, if_pos HV.out]
    refine retI_of (n := 0 + 3 + 16) ?_ HB2.out.2
    rw [List.map_append]
    exact HB2.out.1
end Go.Proofs.Ytbbonllonkacfaa
