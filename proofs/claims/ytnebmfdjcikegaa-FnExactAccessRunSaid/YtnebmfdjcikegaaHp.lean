/-
  The queue's methods Pop and Push, container/heap's Pop and Push over it, walked.
-/
import Derived.Test.YtnebmfdjcikegaaHd
namespace Go.Proofs.Ytnebmfdjcikegaa
open Go.RowKit
set_option linter.unusedVariables false

theorem infoSnd : (Try.prog.info? 46).map (fun i => i.size) = some 4 := by kernel_rfl
theorem ta_snd (x0 x1 x2 x3 : Int) (w : World) : (Instr.typeAssert (.iface 46 (.agg #[.int .i64 x0, .int .i64 x1, .int .i64 x2, .int .i64 x3])) 20 46 false).run Try.prog w = .ok (.agg #[.int .i64 x0, .int .i64 x1, .int .i64 x2, .int .i64 x3]) w := by kernel_rfl
def sv (s : Snd) : Array Value := #[.int .i64 s.slot, .int .i64 s.number, .int .i64 s.seed, .int .i64 s.fails]
set_option maxRecDepth 100000 in
set_option maxHeartbeats 3200000 in
theorem popm_q {hb qb n m lo hi : Nat} {L : List Snd} {w : World} (h : QM w hb qb n L) (hm : L.length = m + 1) (hl : n ≤ 8) (hq1 : lo ≤ hb) (hq2 : hb < hi) :
    Calls Try.prog 59 #[.pointer (some ⟨hb, 0, none⟩)] w fun e w' => e = .returned (.iface 46 (.agg (sv (gt L m)))) ∧ QM w' hb qb n (L.take m) ∧ Only lo hi w w' := by
  have hln := h.len
  have hv := h.var
  have hf := h.vfr
  obtain ⟨a0, a1, a2, a3⟩ := h.at_ (i := m) (by omega)
  have hvl := h.var_.lt
  have hql : qb < w.heap.size := by obtain ⟨_, hc, _⟩ := h.cells; exact hc.lt
  have H := hid h
  obtain ⟨x0, hx0⟩ : ∃ x, (gt L m).slot = x := ⟨_, rfl⟩
  obtain ⟨x1, hx1⟩ : ∃ x, (gt L m).number = x := ⟨_, rfl⟩
  obtain ⟨x2, hx2⟩ : ∃ x, (gt L m).seed = x := ⟨_, rfl⟩
  obtain ⟨x3, hx3⟩ : ∃ x, (gt L m).fails = x := ⟨_, rfl⟩
  have HX := hid (And.intro hx0 (And.intro hx1 (And.intro hx2 hx3)))
  rw [hx0] at a0
  rw [hx1] at a1
  rw [hx2] at a2
  rw [hx3] at a3
  rw [hm] at hv
  have r1 : ((m + 1 : Nat) : Int) - 1 = (m : Int) := by omega
  have r2 : (m : Int) + 1 - 1 = (m : Int) := by omega
  simp only [Nat.zero_add] at a0 a1 a2 a3
  have hm8 : m ≤ 8 := by omega
  have HM := hid hm
  clear h hm hx0 hx1 hx2 hx3
  go_enter Try.func59, Try.ntmps59
  go_wp2_with fail
  go_region
  go_wp2_with fail
  have hmn : (m : Int) ≤ (n : Int) := by have := HM.out; omega
  have hmm : (m : Int) ≤ (m : Int) + 1 := by omega
  go_region
  go_wp2
  go_ret
  obtain ⟨rfl, rfl, rfl, rfl⟩ := HX.out
  exact ⟨rfl, ((H.out.cut HM.out).alloc _).drew.drew, ((((Only.refl lo hi w).setCell hq1 hq2 _).alloc _).drew).drew⟩
set_option maxRecDepth 100000 in
set_option maxHeartbeats 3200000 in
theorem pushm_q {hb qb n m lo hi : Nat} {L : List Snd} {w : World} (s : Snd) (h : QM w hb qb n L) (hm : L.length = m) (hmn : m < n) (hl : n ≤ 8) (hq1 : lo ≤ hb) (hq2 : hb < hi) (hq3 : lo ≤ qb) (hq4 : qb < hi) :
    Calls Try.prog 60 #[.pointer (some ⟨hb, 0, none⟩), .iface 46 (.agg #[.int .i64 s.slot, .int .i64 s.number, .int .i64 s.seed, .int .i64 s.fails])] w fun e w' => e = .returned (.tuple #[]) ∧ QM w' hb qb n (L ++ [s]) ∧ Only lo hi w w' := by
  have hv := h.var
  have hf := h.vfr
  have hvl := h.var_.lt
  have hql : qb < w.heap.size := by obtain ⟨_, hc, _⟩ := h.cells; exact hc.lt
  have hne := h.ne
  obtain ⟨i4, h40, h41⟩ : ∃ i, Try.prog.info? 46 = some i ∧ i.size = 4 := by
    have := infoSnd
    cases hx : Try.prog.info? 46 with
    | none => rw [hx] at this; simp at this
    | some i => rw [hx] at this; simp at this; exact ⟨i, rfl, this⟩
  have H := hid h
  have HM := hid hm
  obtain ⟨x0, x1, x2, x3⟩ := s
  rw [hm] at hv
  clear h hm
  have hta := ta_snd x0 x1 x2 x3
  go_enter Try.func60, Try.ntmps60
  go_wp2_with fail
  obtain ⟨W, hW⟩ : ∃ W : World, W = (w.alloc (.cells #[.int .i64 x0, .int .i64 x1, .int .i64 x2, .int .i64 x3] 46)).drew := ⟨_, rfl⟩
  have hnews : Hid (∀ j u, [Value.int .i64 x0, .int .i64 x1, .int .i64 x2, .int .i64 x3][j]? = some u → W.cell? ((⟨w.heap.size, 0, none⟩ : Addr).add j) = some u) := hid (fun j v hv' => by
      rw [hW]
      match j, hv' with
      | 0, hv => simp at hv; subst hv; simp [Addr.add]
      | 1, hv => simp at hv; subst hv; simp [Addr.add]
      | 2, hv => simp at hv; subst hv; simp [Addr.add]
      | 3, hv => simp at hv; subst hv; simp [Addr.add]
      | j + 4, hv => simp at hv)
  have hspare : Hid (∀ f, f < 4 → (W.cell? ⟨qb, m * 4 + f, none⟩).isSome = true ∧ W.frozen? ⟨qb, m * 4 + f, none⟩ = false) := hid (fun j hj => by
      have hq := (H.out.alloc (.cells #[.int .i64 x0, .int .i64 x1, .int .i64 x2, .int .i64 x3] 46)).drew
      rw [← hW] at hq
      exact ⟨hq.room hmn j hj, hq.fr _⟩)
  rw [hW] at hnews hspare
  clear hW
  go_region_law (refine step_room4 rfl (.tmp 7) (.tmp 10) 44 rfl 46 i4 Try.underlying44 h40 h41 qb m n (by simp [Act.eval]) w.heap.size x0 x1 x2 x3 (by simp [Act.eval]) hnews.out (by omega) hspare.out ?_)
  all_goals
    go_end0
    exact ⟨rfl, ((H.out.app HM.out hmn ⟨x0, x1, x2, x3⟩).alloc _).drew, (((((((Only.refl lo hi w).setCell hq3 hq4 _).setCell hq3 hq4 _).setCell hq3 hq4 _).setCell hq3 hq4 _).setCell hq1 hq2 _).alloc _).drew⟩
/-- container/heap's Push: one more, still a heap. -/
theorem push_q {hb qb n m lo hi : Nat} {L : List Snd} {w : World} (s : Snd) (h : QM w hb qb n L) (hm : L.length = m) (hmn : m < n) (hl : n ≤ 8) (hp : Hp L m) (hq1 : lo ≤ hb) (hq2 : hb < hi) (hq3 : lo ≤ qb) (hq4 : qb < hi) :
    Calls Try.prog 35 #[.iface 48 (.pointer (some ⟨hb, 0, none⟩)), .iface 46 (.agg #[.int .i64 s.slot, .int .i64 s.number, .int .i64 s.seed, .int .i64 s.fails])] w fun e w' => e = .returned (.tuple #[]) ∧ ∃ L', QM w' hb qb n L' ∧ L'.Perm (s :: L) ∧ Hp L' (m + 1) ∧ Only lo hi w w' := by
  have HP := hid (pushm_q (lo := lo) (hi := hi) s h hm hmn hl hq1 hq2 hq3 hq4)
  have hM := meth_Push ⟨hb, 0, none⟩ w
  have HUI := hid (show UI (L ++ [s]) (m + 1) m by rw [← hm]; exact ui_start (by rw [hm]; exact hp))
  have HLN := hid (show (L ++ [s]).length = m + 1 by simp [hm])
  have r1 : ((m + 1 : Nat) : Int) - 1 = (m : Int) := by omega
  have r2 : (m : Int) + 1 - 1 = (m : Int) := by omega
  have hm8 : m ≤ 8 := by omega
  clear h hm hp
  go_enter Try.func35, Try.ntmps35
  go_wp2_with fail
  refine HP.out.mono ?_
  rintro e w2 ⟨rfl, q2, o2⟩
  have HLE := hid (len_q (some ⟨qb, 0, none⟩) (L ++ [s]).length n w2)
  have hM2 := meth_Len ⟨hb, 0, none⟩ w2 _ q2.var
  rw [HLN.out] at HLE hM2
  have HUP := hid (up_q (lo := lo) (hi := hi) q2 HLN.out (by rw [HLN.out]; omega) HUI.out hq3 hq4)
  have O2 := hid o2
  clear q2 o2 hM
  go_wp2_with fail
  refine HLE.out.mono ?_
  rintro e w_ ⟨rfl, rfl⟩
  go_wp2_with fail
  refine HUP.out.mono ?_
  rintro e w3 ⟨rfl, L', q3, p3, h3, o3⟩
  have HF := hid (show QM w3 hb qb n L' ∧ L'.Perm (s :: L) ∧ Hp L' (m + 1) ∧ Only lo hi w w3 from ⟨q3, p3.trans (List.perm_append_comm (l₁ := L) (l₂ := [s])), h3, O2.out.trans o3⟩)
  clear q3 p3 h3 o3
  go_wp2
  go_end0
  exact ⟨rfl, L', HF.out⟩
/-- container/heap's Pop: the first, the least, comes out. -/
theorem pop_q {hb qb n m lo hi : Nat} {L : List Snd} {w : World} (h : QM w hb qb n L) (hm : L.length = m + 1) (hl : n ≤ 8) (hp : Hp L (m + 1)) (hq1 : lo ≤ hb) (hq2 : hb < hi) (hq3 : lo ≤ qb) (hq4 : qb < hi) :
    Calls Try.prog 33 #[.iface 48 (.pointer (some ⟨hb, 0, none⟩))] w fun e w' => e = .returned (.iface 46 (.agg #[.int .i64 (gt L 0).slot, .int .i64 (gt L 0).number, .int .i64 (gt L 0).seed, .int .i64 (gt L 0).fails])) ∧
      ∃ L', QM w' hb qb n L' ∧ (gt L 0 :: L').Perm L ∧ L'.length = m ∧ Hp L' m ∧ Only lo hi w w' := by
  have HLE := hid (len_q (some ⟨qb, 0, none⟩) L.length n w)
  have hM := meth_Len ⟨hb, 0, none⟩ w _ h.var
  have hM2 := meth_Swap ⟨hb, 0, none⟩ w _ h.var
  have HSW := hid (swap_m (lo := lo) (hi := hi) h (i := 0) (j := m) (by omega) (by omega) hq3 hq4)
  have HDI := hid (di_start hp (by omega))
  have hln := h.len
  have hm8 : m ≤ 8 := by omega
  rw [hm] at HLE hM hM2 HSW
  have HM := hid hm
  have r1 : ((m + 1 : Nat) : Int) - 1 = (m : Int) := by omega
  have r2 : (m : Int) + 1 - 1 = (m : Int) := by omega
  clear h hm hp hln
  go_enter Try.func33, Try.ntmps33
  go_wp2_with fail
  refine HLE.out.mono ?_
  rintro e w_ ⟨rfl, rfl⟩
  go_wp2_with fail
  refine HSW.out.mono ?_
  rintro e w2 ⟨rfl, q2, o2⟩
  have HLS := hid (show (swp L 0 m).length = m + 1 by rw [swp_len]; exact HM.out)
  have HDN := hid (down_q (lo := lo) (hi := hi) q2 (m := m) (by rw [HLS.out]; omega) (by rw [HLS.out]; have := q2.len; rw [HLS.out] at this; omega) HDI.out hq3 hq4)
  have O2 := hid o2
  clear q2 o2 hM hM2
  go_wp2_with fail
  refine HDN.out.mono ?_
  rintro e w3 ⟨⟨b3, rfl⟩, L', q3, p3, h3, k3, o3⟩
  have HLL := hid (show L'.length = m + 1 by rw [p3.length_eq]; exact HLS.out)
  have hPM := meth_Pop ⟨hb, 0, none⟩ w3
  have HPO := hid (popm_q (lo := lo) (hi := hi) q3 HLL.out hl hq1 hq2)
  have HK := hid (show gt L' m = gt L 0 by rw [k3 m (Nat.le_refl _), swp_gt (by have := HM.out; omega) (by have := HM.out; omega), if_pos rfl])
  have HPE := hid (p3.trans (swp_perm (by have := HM.out; omega) (by have := HM.out; omega)))
  have HH := hid (show Hp (L'.take m) m from h3.take)
  have O3 := hid (O2.out.trans o3)
  clear q3 p3 h3 k3 o3
  go_wp2_with fail
  refine HPO.out.mono ?_
  rintro e w4 ⟨rfl, q4, o4⟩
  have HF := hid (show ∃ L'', QM w4 hb qb n L'' ∧ (gt L 0 :: L'').Perm L ∧ L''.length = m ∧ Hp L'' m ∧ Only lo hi w w4 from ⟨L'.take m, q4, by
    refine List.Perm.trans ?_ HPE.out
    have e : L' = L'.take m ++ [gt L' m] := by
      have := take_snoc L' m (gt L' m) (gt_some (by have := HLL.out; omega))
      rw [← this, List.take_of_length_le (by rw [HLL.out]; exact Nat.le_refl _)]
    rw [HK.out] at e
    refine List.Perm.trans ?_ (List.Perm.of_eq e.symm)
    exact List.perm_append_comm (l₁ := [gt L 0]) (l₂ := L'.take m), by rw [List.length_take, HLL.out]; omega, HH.out, O3.out.trans o4⟩)
  rw [HK.out]
  clear q4 o4
  go_wp2
  go_ret
  exact ⟨rfl, HF.out⟩
end Go.Proofs.Ytnebmfdjcikegaa
