/-
  AccessRun, the program's, walked.
-/
import Derived.Test.YtnebmfdjcikegaaAccQ
import Derived.Deep.LoopGhost
namespace Go.Proofs.Ytnebmfdjcikegaa
open Go.RowKit
set_option linter.unusedVariables false

theorem infoI3 : (Try.prog.info? 3).map (fun i => (i.zero, i.size, i.bytes)) = some (some (.int .i64 0), 1, 8) := by kernel_rfl
theorem make_i (n : Nat) (hn : n ≤ 8) : ∃ D : Array Value, D = ((List.replicate n (0 : Int)).map (Value.int .i64)).toArray ∧ ∀ w, (Instr.makeSlice 32 (.int .i64 (n : Int)) (.int .i64 (n : Int))).run Try.prog w = .ok (.slice (some ⟨w.heap.size, 0, none⟩) n n) (w.alloc (.cells D 3)) := by
  obtain ⟨i, hi, hz⟩ := Option.map_eq_some_iff.1 infoI3
  simp only [Prod.mk.injEq] at hz
  refine ⟨madeCells #[.int .i64 0] n, ?_, fun w => ?_⟩
  · apply Array.toList_inj.1
    rw [toList_madeCells_one]
    simp
  · have hr := run_make (P := Try.prog) w 32 3 i _ Try.underlying32 hi hz.1 .i64 .i64 (n : Int) (n : Int) (by omega) (by omega) (by rw [hz.2.2]; omega) (by omega)
    simp only [Int.toNat_natCast, hz.2.1, Nat.mul_one] at hr
    exact hr
theorem P4.nil (cs : Array Value) : P4 cs [] := fun i s h => by simp at h
set_option maxRecDepth 100000 in
set_option maxHeartbeats 3200000 in
theorem accessRun_impl (A : Option Addr) (n c B : Nat) (xs : List Int) (w : World) (h : RI w B A n xs) (hB : B ≤ w.heap.size) (hn : n ≤ 1000000000) :
    Calls Try.prog 26 #[.slice A n c] w fun e w' => RetI 3 w e w' (runI xs) := by
  have HL := hid (RI.len h)
  have HR := hid h
  by_cases h8 : n ≤ 8
  · obtain ⟨C, hC, hmk⟩ := make_q n h8
    obtain ⟨D, hD, hmi⟩ := make_i n h8
    have HC := hid hC
    have HD := hid hD
    have h8' : (n : Int) ≤ 8 := by omega
    obtain ⟨z, hz⟩ : ∃ z, w.heap.size = z := ⟨_, rfl⟩
    obtain ⟨hb, e1⟩ : ∃ k, z + 1 = k := ⟨_, rfl⟩
    obtain ⟨db, e2⟩ : ∃ k, hb + 1 = k := ⟨_, rfl⟩
    obtain ⟨i4, h40, _, h41, _⟩ := info4
    have Q0 : QM (((w.alloc (.cells C 46)).alloc (.cells #[.slice (some ⟨z, 0, none⟩) 0 n] 44)).alloc (.cells D 3)) hb z n [] := by
      have k1 := Blk.new w 46 C
      rw [hz] at k1
      have k2 := Blk.new (w.alloc (.cells C 46)) 44 #[.slice (some ⟨z, 0, none⟩) 0 n]
      have e : (w.alloc (.cells C 46)).heap.size = hb := by simp; omega
      rw [e] at k2
      exact ⟨k2.alloc _, by omega, Nat.zero_le _, by unfold maxLen; omega, C, (k1.alloc _).alloc _, hC, P4.nil _⟩
    have O0 : OwnI (((w.alloc (.cells C 46)).alloc (.cells #[.slice (some ⟨z, 0, none⟩) 0 n] 44)).alloc (.cells D 3)) 3 db (db + 1) (some ⟨db, 0, none⟩) n n ((List.range n).map fun j => if j < 0 then (-1 : Int) else 0) := by
      have k3 := Blk.new ((w.alloc (.cells C 46)).alloc (.cells #[.slice (some ⟨z, 0, none⟩) 0 n] 44)) 3 D
      have e : ((w.alloc (.cells C 46)).alloc (.cells #[.slice (some ⟨z, 0, none⟩) 0 n] 44)).heap.size = db := by simp; omega
      rw [e] at k3
      subst hD
      have el : ((List.range n).map fun j => if j < 0 then (-1 : Int) else 0) = List.replicate n 0 := by
        apply List.ext_getElem?
        intro j
        by_cases hj : j < n <;> simp [hj]
      rw [el]
      exact ownV_blk k3 (Nat.le_refl _) (Nat.lt_succ_self _) (by simp) (by unfold maxLen; omega)
    have B0 : Below z w (((w.alloc (.cells C 46)).alloc (.cells #[.slice (some ⟨z, 0, none⟩) 0 n] 44)).alloc (.cells D 3)) :=
      (((Below.refl z w).alloc (by omega) _).alloc (by simp; omega) _).alloc (by simp; omega) _
    have HS := hid (And.intro Q0 (And.intro O0 B0))
    clear h hC hD Q0 O0 B0
    go_enter Try.func26, Try.ntmps26
    go_wp2
    go_loopw [22] (fun v22 wr => ∃ k : Nat, k ≤ n ∧ v22 = .int .i64 k ∧ Hid (∀ j, j < k → 0 ≤ xs.getD j 0 ∧ xs.getD j 0 ≤ 2047) ∧ Hid (QM wr hb z n ((List.range k).map (qf (initS xs)))) ∧ Hid (OwnI wr 3 db (db + 1) (some ⟨db, 0, none⟩) n n ((List.range n).map fun j => if j < k then (-1 : Int) else 0)) ∧ Hid (Below z w wr)) (fun v22 _ => n - (intOf v22).toNat)
    case atStart => exact ⟨0, Nat.zero_le _, rfl, hid (fun j hj => absurd hj (Nat.not_lt_zero _)), hid (by simpa using HS.out.1), hid HS.out.2.1, hid HS.out.2.2⟩
    case round =>
      obtain ⟨k, hk, rfl, HI, Q, OD, BB⟩ := hrel
      have hsz := BB.out.size
      by_cases hlt : k < n
      · have hkn : (k : Int) < (n : Int) := by omega
        obtain ⟨b, o, x, rfl, hbb, hx, hcx⟩ := RI.at_ (RV.below HR.out (BB.out.mono (by omega))) hlt
        have HX := hid (show xs.getD k 0 = x by rw [List.getD_eq_getElem?_getD, hx]; rfl)
        have HMX := hid (List.mem_of_getElem? hx)
        have hsv := seedV x wr
        clear hx
        by_cases hx0 : 0 ≤ x ∧ x ≤ 2047
        · rw [decide_eq_true hx0.1, decide_eq_true hx0.2] at hsv
          have HSV := hid hsv
          have hv : wr.cell? ⟨hb, 0, none⟩ = some (.slice (some ⟨z, 0, none⟩) k n) := by have := Q.out.var; simpa using this
          have hf := Q.out.vfr
          have hvl := Q.out.var_.lt
          have hql : z < wr.heap.size := by obtain ⟨_, hc, _⟩ := Q.out.cells; exact hc.lt
          have hne1 : ¬ hb = z := by omega
          have hne2 : ¬ db = z := by omega
          have hne3 : ¬ db = hb := by omega
          have hne4 : ¬ z = hb := by omega
          obtain ⟨g, y, eg, _, _, hgl, _, hcd, hfd, hst⟩ := OwnI.stored OD.out hlt (-1)
          injection eg with eg
          injection eg with eg _ _
          subst eg
          have HRM := hid (And.intro Q.out.fr (Q.out.room hlt))
          have HST := hid hst
          have HFN := hid (show ∀ W : World, QM W hb z n ((List.range k).map (qf (initS xs)) ++ [⟨0, (k : Int), x, 0⟩]) → QM W hb z n ((List.range (k + 1)).map (qf (initS xs))) from fun W hW => by
            rw [List.range_succ, List.map_append]
            have e : [k].map (qf (initS xs)) = [⟨0, (k : Int), x, 0⟩] := by
              show [(⟨0, (k : Int), xs.getD k 0, 0⟩ : Snd)] = _
              rw [HX.out]
            rw [e]
            exact hW)
          clear hsv hst
          go_wp2_with fail
          refine HSV.out.mono ?_
          rintro e w_ ⟨rfl, rfl⟩
          go_wp2_with (at_builtin; refine wpList_room4 rfl _ _ _ rfl 46 i4 Try.underlying44 h40 h41 z k n 0 (k : Int) x 0 _ rfl rfl (by omega) (by omega) HRM.out.2 HRM.out.1 ?_)
          go_roundw
          case rel => exact ⟨k + 1, by omega, by go_num, hid (fun j hj => by
            by_cases hjk : j = k
            · rw [hjk, HX.out]; exact hx0
            · exact HI.out j (by omega)), hid (HFN.out _ (((Q.out.app (by simp) hlt ⟨0, (k : Int), x, 0⟩).setFar (p := ⟨db, k, none⟩) hne3 hne2 _).alloc _)),
            hid (OwnV.alloc (done_step (own_far (p := ⟨hb, 0, none⟩) (own_far (p := ⟨z, k * 4 + 3, none⟩) (own_far (p := ⟨z, k * 4 + 2, none⟩) (own_far (p := ⟨z, k * 4 + 1, none⟩) (own_far (p := ⟨z, k * 4, none⟩) OD.out (by simp only; omega) _) (by simp only; omega) _) (by simp only; omega) _) (by simp only; omega) _) (by simp only; omega) _) hlt) _),
            hid (((((((BB.out.setCell (p := ⟨z, k * 4, none⟩) (by simp only; omega) _).setCell (p := ⟨z, k * 4 + 1, none⟩) (by simp only; omega) _).setCell (p := ⟨z, k * 4 + 2, none⟩) (by simp only; omega) _).setCell (p := ⟨z, k * 4 + 3, none⟩) (by simp only; omega) _).setCell (p := ⟨hb, 0, none⟩) (by simp only; omega) _).setCell (p := ⟨db, k, none⟩) (by simp only; omega) _).alloc (by simp [World.setCell]; omega) _)⟩
          case measure => simp [intOf]; omega
        · have HN := hid (runI_no (xs := xs) (fun hh => hx0 (hh.2 x HMX.out)))
          have HBW := hid (show Below w.heap.size w wr by rw [hz]; exact BB.out)
          have hsvf : (decide (0 ≤ x) && decide (x ≤ 2047)) = false := by
            rcases Classical.not_and_iff_not_or_not.1 hx0 with h1 | h1
            · rw [decide_eq_false h1]; rfl
            · rw [decide_eq_false h1]; simp
          rw [hsvf] at hsv
          have HSV := hid hsv
          clear hsv hsvf hx0
          go_wp2_with fail
          refine HSV.out.mono ?_
          rintro e w_ ⟨rfl, rfl⟩
          go_wp2
          go_ret
          rw [HN.out]
          exact retI_of (World.ownsRow_nil _ _ _ _) HBW.out
      · have hkn : k = n := by omega
        subst hkn
        have HOK : Hid (SeedsOk xs) := hid ⟨by rw [HL.out]; exact h8, fun x hx => by
          obtain ⟨j, hj⟩ := List.getElem?_of_mem hx
          have hjl : j < k := by
            rcases Nat.lt_or_ge j xs.length with h1 | h1
            · rw [← HL.out]; exact h1
            · rw [List.getElem?_eq_none h1] at hj; cases hj
          have := HI.out j hjl
          rw [List.getD_eq_getElem?_getD, hj] at this
          exact this⟩
        have HG : Hid (∀ t, GoodD k t (itS k (initS xs) t)) := hid (fun t => by have := good_it (good_init HOK.out) t; rw [HL.out] at this; exact this)
        have HRUN : Hid (runI xs = outs k (itS k (initS xs) 400)) := hid (by rw [runI_yes HOK.out, HL.out])
        have HQ0 : Hid (QM wr hb z k (qL k (itS k (initS xs) 0))) := hid (by show QM wr hb z k (qL k (initS xs)); rw [qL_init]; exact Q.out)
        have HH0 : Hid (Hp (qL k (itS k (initS xs) 0)) (qL k (itS k (initS xs) 0)).length) := hid (by show Hp (qL k (initS xs)) (qL k (initS xs)).length; rw [qL_init]; exact hp_init _ _)
        have HO0 : Hid (OwnI wr 3 db (db + 1) (some ⟨db, 0, none⟩) k k (outs k (itS k (initS xs) 0))) := hid (by show OwnI wr 3 db (db + 1) (some ⟨db, 0, none⟩) k k (outs k (initS xs)); rw [outs_init]; exact OD.out)
        obtain ⟨σ, hσ⟩ : ∃ σ, initS xs = σ := ⟨_, rfl⟩
        rw [hσ] at HG HRUN HQ0 HH0 HO0
        obtain ⟨wk, rfl⟩ : ∃ wk : World, wk = wr := ⟨_, rfl⟩
        clear hσ HI Q OD
        go_wp2
        go_loopg [] 400 (fun gk wr => ∃ (t : Nat) (L : List Snd), t + gk = 400 ∧ Hid (QM wr hb z k L) ∧ Hid (L.Perm (qL k (itS k σ t))) ∧ Hid (Hp L L.length) ∧ Hid (OwnI wr 3 db (db + 1) (some ⟨db, 0, none⟩) k k (outs k (itS k σ t))) ∧ Hid (Below z w wr))
        case atStart => exact ⟨0, _, by omega, HQ0, hid (List.Perm.refl _), HH0, HO0, BB⟩
        case round =>
          obtain ⟨t, L, htg, Q, PE, HH, OD, BB⟩ := hrel
          have hsz := BB.out.size
          obtain ⟨m, hm⟩ : ∃ m, L.length = m := ⟨_, rfl⟩
          have HM := hid hm
          have hmk : m ≤ k := by rw [← hm, PE.out.length_eq]; exact qL_len _ _
          have hv := Q.out.var
          rw [hm] at hv
          have hdl : db < wr.heap.size := own_lt OD.out
          have HRET : Hid ((∀ s ∈ L, (400 : Int) ≤ s.slot) → RetI 3 w (.returned (.slice (some ⟨db, 0, none⟩) k k)) wr (runI xs)) := hid (fun hall => by
            have hj := jump (n := k) (σ := σ) (t := t) (u := 400) (by omega) (fun s hs => hall s (PE.out.mem_iff.2 hs))
            rw [HRUN.out, hj]
            exact ⟨_, _, _, rfl, OwnV.more OD.out (by omega) (by omega), by rw [hz]; exact BB.out⟩)
          clear hm
          by_cases hm0 : m = 0
          · subst hm0
            have HF := hid (HRET.out (fun s hs => by rw [List.eq_nil_of_length_eq_zero HM.out] at hs; cases hs))
            go_wp2
            go_ret
            exact HF.out
          · have hmp : (0 : Int) < (m : Int) := by omega
            have HALL := hid HH.out.all
            have HME : Hid (∀ s ∈ L, (t : Int) ≤ s.slot ∧ 0 ≤ s.seed ∧ s.seed ≤ 2047 ∧ 0 ≤ s.fails ∧ s.fails ≤ t) := hid (fun s hs => by
              obtain ⟨j, hj, ho, rfl⟩ := mem_qL (PE.out.mem_iff.1 hs)
              obtain ⟨h1, h2, h3⟩ := HG.out t j hj
              exact ⟨(h3 ho).1, h1.1, h1.2, h2.1, h2.2⟩)
            have hmem0 : gt L 0 ∈ L := gt_mem (by rw [HM.out]; omega)
            obtain ⟨U, hU⟩ : ∃ U : Nat, sl L 0 = (U : Int) := ⟨(sl L 0).toNat, by have := (HME.out _ hmem0).1; show (gt L 0).slot = _; unfold sl; omega⟩
            have htU : t ≤ U := by have := (HME.out _ hmem0).1; have e : (gt L 0).slot = (U : Int) := hU; omega
            have hc0 : wr.cell? ⟨z, 0, none⟩ = some (.int .i64 (U : Int)) := by
              have := (Q.out.at_ (i := 0) (by rw [HM.out]; omega)).1
              simp only [Nat.zero_mul, Nat.add_zero] at this
              rw [show (gt L 0).slot = (U : Int) from hU] at this
              exact this
            have HAU : Hid (∀ s ∈ L, (U : Int) ≤ s.slot) := hid (fun s hs => by rw [← hU]; exact HALL.out s hs)
            clear hU hmem0 HALL
            by_cases hU4 : U < 400
            · have hU4' : (U : Int) < 400 := by omega
              have HJ := hid (jump (n := k) (σ := σ) htU (fun s hs => HAU.out s (PE.out.mem_iff.2 hs)))
              have PEU := hid (show L.Perm (qL k (itS k σ U)) by rw [HJ.out]; exact PE.out)
              have ODU := hid (show OwnI wr 3 db (db + 1) (some ⟨db, 0, none⟩) k k (outs k (itS k σ U)) by rw [HJ.out]; exact OD.out)
              obtain ⟨wo, rfl⟩ : ∃ wo : World, wo = wr := ⟨_, rfl⟩
              obtain ⟨gko, rfl⟩ : ∃ x : Nat, x = gk := ⟨_, rfl⟩
              clear PE OD HRET
              go_wp2
              go_loopg [8] m (fun gk v8 wr => ∃ (G L1 : List Snd) (A8 : Option Addr) (c8 q : Nat), q + gk = m ∧ v8 = .slice A8 q c8 ∧ Hid (L1.length = gk) ∧ Hid (QM wr hb z k L1) ∧ Hid ((G ++ L1).Perm L) ∧ Hid (Hp L1 L1.length) ∧ Hid (∀ s ∈ G, s.slot = (U : Int)) ∧ Hid (Grp wr (db + 1) A8 q c8 G) ∧ Hid (OwnI wr 3 db (db + 1) (some ⟨db, 0, none⟩) k k (outs k (itS k σ U))) ∧ Hid (Below z w wr))
              case atStart => exact ⟨[], L, none, 0, 0, by omega, rfl, HM, Q, hid (List.Perm.refl _), HH, hid (fun s hs => absurd hs List.not_mem_nil), hid (Grp.nil _ _), ODU, BB⟩
              case round =>
                obtain ⟨G, L1, A8, c8, q, hq, rfl, HL1, Q1, P1, H1, S1, GR, OD1, B1⟩ := hrel
                have hsz1 := B1.out.size
                have hv1 : wr.cell? ⟨hb, 0, none⟩ = some (.slice (some ⟨z, 0, none⟩) gk k) := by have := Q1.out.var; rw [HL1.out] at this; exact this
                have hdl1 : db < wr.heap.size := own_lt OD1.out
                have HGL := hid GR.out.len
                have HOKS : Hid (∀ s, s ∈ G ∨ s ∈ L1 → OkS s ∨ s.slot ≠ (U : Int)) := hid (fun s hs => by
                  have hm := HME.out s (P1.out.mem_iff.1 (List.mem_append.2 hs))
                  by_cases he : s.slot = (U : Int)
                  · exact .inl ⟨by omega, by omega, hm.2.1, hm.2.2.1, hm.2.2.2.1, by omega⟩
                  · exact .inr he)
                by_cases hgk : gk = 0
                · have hg0 : ¬ (0 : Int) < (gk : Int) := by omega
                  have HD : Hid (∀ s ∈ L1, s.slot ≠ (U : Int)) := hid (fun s hs => by
                    have := HL1.out
                    rw [hgk] at this
                    rw [List.eq_nil_of_length_eq_zero this] at hs
                    cases hs)
                  clear hv hc0 hgk
                  by_cases hq1 : q = 1
                  · subst hq1
                    obtain ⟨kk, hkk, hgt, hpm, hou⟩ := due_win (n := k) (t := (U : Int)) (σ := itS k σ U) (by omega) (P1.out.trans PEU.out) S1.out HD.out HGL.out
                    obtain ⟨g, rfl, hg1, hg2, _, d1, _, _⟩ := GR.out.at_ (i := 0) (by omega)
                    rw [hgt] at d1
                    have d1' : wr.cell? ⟨g, 1, none⟩ = some (.int .i64 (kk : Int)) := by have := d1; simp only [Nat.zero_mul, Nat.zero_add] at this; exact this
                    obtain ⟨g9, y9, eg9, _, _, _, _, hcd, hfd, hst⟩ := OwnI.stored OD1.out hkk (U : Int)
                    injection eg9 with eg9
                    injection eg9 with eg9 _ _
                    subst eg9
                    rw [← hou] at hst
                    have hkk' : (kk : Int) < (k : Int) := by omega
                    have HST := hid hst
                    have HPM := hid hpm
                    clear d1 hst hpm hou hgt
                    go_wp2
                    go_roundg (400 - (U + 1))
                    case measure => omega
                    case rel => exact ⟨U + 1, L1, by omega, hid (Q1.out.setFar (p := ⟨db, kk, none⟩) (by simp only; omega) (by simp only; omega) _), hid HPM.out, H1, hid HST.out, hid (B1.out.setCell (p := ⟨db, kk, none⟩) (by simp only; omega) _)⟩
                  · have hq1' : ((q : Int) == 1) = false := by simp; omega
                    obtain ⟨hpm, hou⟩ := due_fail (n := k) (t := (U : Int)) (σ := itS k σ U) (P1.out.trans PEU.out) S1.out HD.out (by rw [HGL.out]; exact hq1)
                    have ODN := hid (show OwnI wr 3 db (db + 1) (some ⟨db, 0, none⟩) k k (outs k (itS k σ (U + 1))) by show OwnI wr 3 db (db + 1) (some ⟨db, 0, none⟩) k k (outs k (stepS k (U : Int) (itS k σ U))); rw [hou]; exact OD1.out)
                    have HPM := hid (show (G.map failS ++ L1).Perm (qL k (itS k σ (U + 1))) from hpm)
                    have HLL := hid (show q + L1.length = m by have := P1.out.length_eq; rw [List.length_append, HGL.out, HM.out] at this; exact this)
                    obtain ⟨wi, rfl⟩ : ∃ wi : World, wi = wr := ⟨_, rfl⟩
                    clear hpm hou
                    go_wp2
                    go_loopw [83] (fun v83 wr => ∃ (i : Nat) (L2 : List Snd), i ≤ q ∧ v83 = .int .i64 i ∧ Hid (QM wr hb z k L2) ∧ Hid (L2.Perm ((G.take i).map failS ++ L1)) ∧ Hid (Hp L2 L2.length) ∧ Hid (Grp wr (db + 1) A8 q c8 G) ∧ Hid (OwnI wr 3 db (db + 1) (some ⟨db, 0, none⟩) k k (outs k (itS k σ (U + 1)))) ∧ Hid (Below z w wr)) (fun v83 _ => q - (intOf v83).toNat)
                    case atStart => exact ⟨0, L1, Nat.zero_le _, rfl, Q1, hid (List.Perm.refl _), H1, GR, ODN, B1⟩
                    case round =>
                      obtain ⟨i, L2, hi, rfl, Q2, P2, H2, GR2, OD2, B2⟩ := hrel
                      have hsz2 := B2.out.size
                      have hdl2 : db < wr.heap.size := own_lt OD2.out
                      by_cases hiq : i < q
                      · have hiq' : (i : Int) < (q : Int) := by omega
                        obtain ⟨g, rfl, hg1, hg2, d0, d1, d2, d3⟩ := GR2.out.at_ hiq
                        have hgm : gt G i ∈ G := gt_mem (by rw [HGL.out]; exact hiq)
                        have hok : OkS (gt G i) := by
                          rcases HOKS.out _ (.inl hgm) with h1 | h1
                          · exact h1
                          · exact absurd (S1.out _ hgm) h1
                        have HTK := hid (take_snoc G i (gt G i) (gt_some (by rw [HGL.out]; exact hiq)))
                        obtain ⟨S, hS⟩ : ∃ S, gt G i = S := ⟨_, rfl⟩
                        rw [hS] at d0 d1 d2 d3 hok HTK
                        have hb0 := Blk.new wr 46 #[.int .i64 S.slot, .int .i64 S.number, .int .i64 S.seed, .int .i64 S.fails]
                        have HFA := hid (fail_q hb0 hok)
                        have HL2 := hid (show L2.length = i + L1.length by rw [P2.out.length_eq, List.length_append, List.length_map, List.length_take, HGL.out]; omega)
                        have hlt2 : i + L1.length < k := by have := HLL.out; omega
                        obtain ⟨l1, hl1⟩ : ∃ l1, i + L1.length = l1 := ⟨_, rfl⟩
                        rw [hl1] at HL2 hlt2
                        obtain ⟨s0, hs0⟩ : ∃ x, S.slot = x := ⟨_, rfl⟩
                        obtain ⟨s1, hs1⟩ : ∃ x, S.number = x := ⟨_, rfl⟩
                        obtain ⟨s2, hs2⟩ : ∃ x, S.seed = x := ⟨_, rfl⟩
                        obtain ⟨s3, hs3⟩ : ∃ x, S.fails = x := ⟨_, rfl⟩
                        rw [hs0] at d0
                        rw [hs1] at d1
                        rw [hs2] at d2
                        rw [hs3] at d3
                        rw [hs0, hs1, hs2, hs3] at HFA
                        clear hS hok hb0 hl1 hgm hs0 hs1 hs2 hs3
                        go_wp2_with fail
                        refine HFA.out.mono ?_
                        rintro e w2 ⟨rfl, b2, o2⟩
                        have q2 : QM w2 hb z k L2 := (Q2.out.alloc (.cells #[.int .i64 s0, .int .i64 s1, .int .i64 s2, .int .i64 s3] 46)).keep (o2.block hb (by simp; omega) (by omega)) (o2.block z (by simp; omega) (by omega))
                        have HE2 : Hid (∀ j, j < wr.heap.size → w2.heap[j]? = wr.heap[j]?) := hid (fun j hj => (o2.block j (by simp; omega) (by omega)).trans (Below.heap_alloc wr _ j hj))
                        have HB2 := hid (show Below z w w2 from (B2.out.alloc (by omega) _).trans (o2.below (by omega) (by simp; omega)))
                        have hz2 : wr.heap.size < w2.heap.size := by have := o2.size; simp at this; omega
                        have f0 : w2.cell? ⟨wr.heap.size, 0, none⟩ = some (.int .i64 (failS S).slot) := by rw [b2.cell]; rfl
                        have f1 : w2.cell? ⟨wr.heap.size, 1, none⟩ = some (.int .i64 (failS S).number) := by rw [b2.cell]; rfl
                        have f2 : w2.cell? ⟨wr.heap.size, 2, none⟩ = some (.int .i64 (failS S).seed) := by rw [b2.cell]; rfl
                        have f3 : w2.cell? ⟨wr.heap.size, 3, none⟩ = some (.int .i64 (failS S).fails) := by rw [b2.cell]; rfl
                        have HPU := hid (push_q (lo := z) (hi := db) (failS S) q2 HL2.out hlt2 h8 (by rw [← HL2.out]; exact H2.out) (by omega) (by omega) (Nat.le_refl _) (by omega))
                        obtain ⟨F, hF⟩ : ∃ F, failS S = F := ⟨_, rfl⟩
                        rw [hF] at f0 f1 f2 f3 HPU
                        have HFF := hid hF
                        clear b2 o2 q2 hF d0 d1 d2 d3
                        go_wp2_with fail
                        refine HPU.out.mono ?_
                        rintro e w3 ⟨rfl, L3, q3, p3, h3, o3⟩
                        have HE3 : Hid (∀ j, db ≤ j → j < wr.heap.size → w3.heap[j]? = wr.heap[j]?) := hid (fun j h1 h2 => (o3.block j (by omega) (by omega)).trans (HE2.out j h2))
                        have hz3 := o3.size
                        have HR3 : Hid (QM w3 hb z k L3 ∧ L3.Perm ((G.take (i + 1)).map failS ++ L1) ∧ Hp L3 L3.length ∧ Grp w3 (db + 1) (some ⟨g, 0, none⟩) q c8 G ∧ OwnI w3 3 db (db + 1) (some ⟨db, 0, none⟩) k k (outs k (itS k σ (U + 1))) ∧ Below z w w3) := hid (by
                          refine ⟨q3, ?_, ?_, GR2.out.keep (fun j h1 h2 => HE3.out j (by omega) h2), OwnV.keep OD2.out (by omega) (fun j h1 _ h2 => HE3.out j h1 h2), HB2.out.trans (o3.below (Nat.le_refl _) (by omega))⟩
                          · rw [HTK.out, List.map_append, List.append_assoc]
                            refine p3.trans ?_
                            refine ((P2.out.cons F)).trans ?_
                            have e : [S].map failS = [F] := by rw [← HFF.out]; rfl
                            rw [e]
                            exact List.perm_middle.symm
                          · have : L3.length = l1 + 1 := by rw [p3.length_eq, List.length_cons, HL2.out]
                            rw [this]; exact h3)
                        clear q3 p3 h3 o3 f0 f1 f2 f3
                        go_wp2
                        go_roundw
                        case rel => exact ⟨i + 1, L3, by omega, by go_num, hid HR3.out.1, hid HR3.out.2.1, hid HR3.out.2.2.1, hid HR3.out.2.2.2.1, hid HR3.out.2.2.2.2.1, hid HR3.out.2.2.2.2.2⟩
                        case measure => simp [intOf]; omega
                      · have hiq' : ¬ (i : Int) < (q : Int) := by omega
                        have HPF := hid (show L2.Perm (qL k (itS k σ (U + 1))) from by
                          have := P2.out
                          rw [List.take_of_length_le (by rw [HGL.out]; omega)] at this
                          exact this.trans HPM.out)
                        go_wp2
                        go_roundg (400 - (U + 1))
                        case measure => omega
                        case rel => exact ⟨U + 1, L2, by omega, Q2, HPF, H2, OD2, B2⟩
                · have hgp : (0 : Int) < (gk : Int) := by omega
                  have hc1 : wr.cell? ⟨z, 0, none⟩ = some (.int .i64 (sl L1 0)) := by
                    have := (Q1.out.at_ (i := 0) (by rw [HL1.out]; omega)).1
                    simp only [Nat.zero_mul, Nat.add_zero] at this
                    exact this
                  obtain ⟨V, hV⟩ : ∃ V, sl L1 0 = V := ⟨_, rfl⟩
                  rw [hV] at hc1
                  by_cases hVU : V = (U : Int)
                  · subst hVU
                    have HV := hid hV
                    obtain ⟨r, hr⟩ : ∃ r, gk = r + 1 := ⟨gk - 1, by omega⟩
                    have HPO := hid (pop_q (lo := z) (hi := db) Q1.out (by rw [HL1.out]; exact hr) h8 (by rw [← hr, ← HL1.out]; exact H1.out) (by omega) (by omega) (Nat.le_refl _) (by omega))
                    have HR := hid hr
                    have hq100 : q ≤ 100 := by omega
                    obtain ⟨S, hS⟩ : ∃ S, gt L1 0 = S := ⟨_, rfl⟩
                    rw [hS] at HPO
                    have HSS := hid (show S.slot = (U : Int) from by rw [← hS]; exact hV)
                    obtain ⟨s0, hs0⟩ : ∃ x, S.slot = x := ⟨_, rfl⟩
                    obtain ⟨s1, hs1⟩ : ∃ x, S.number = x := ⟨_, rfl⟩
                    obtain ⟨s2, hs2⟩ : ∃ x, S.seed = x := ⟨_, rfl⟩
                    obtain ⟨s3, hs3⟩ : ∃ x, S.fails = x := ⟨_, rfl⟩
                    have HS4 := hid (And.intro hs0 (And.intro hs1 (And.intro hs2 hs3)))
                    rw [hs0, hs1, hs2, hs3] at HPO
                    have hta := ta_snd s0 s1 s2 s3
                    clear hV hr hS hs0 hs1 hs2 hs3 hv hc0
                    go_wp2_with fail
                    refine HPO.out.mono ?_
                    rintro e w2 ⟨rfl, L2, q2, p2, l2, h2, o2⟩
                    have HG2 := hid (show Grp w2 (db + 1) A8 q c8 G from GR.out.only o2 (by omega))
                    have HO2 := hid (show OwnI w2 3 db (db + 1) (some ⟨db, 0, none⟩) k k (outs k (itS k σ U)) from OwnV.only OD1.out o2 (.inr (Nat.le_refl _)))
                    have HB2 := hid (show Below z w w2 from B1.out.trans (o2.below (Nat.le_refl _) (by omega)))
                    have hsz2 := HB2.out.size
                    have hdl2 : db < w2.heap.size := by have := o2.size; omega
                    have HQ2 := hid (And.intro q2 (And.intro p2 (And.intro l2 h2)))
                    clear q2 p2 l2 h2 o2 hv1 hc1
                    go_wp2_with (at_builtin; refine wpList_push4 (w := w2) rfl _ _ rfl (db + 1) A8 q c8 G ⟨s0, s1, s2, s3⟩ rfl HG2.out hq100 rfl (by omega) _ ?_; intro A9 c9 w9 hgr9 hgw9; have HGR9 := hid hgr9; have HGW9 := hid hgw9; clear hgr9 hgw9)
                    have HSE : Hid ((⟨s0, s1, s2, s3⟩ : Snd) = S) := hid (by obtain ⟨rfl, rfl, rfl, rfl⟩ := HS4.out; rfl)
                    have hrow : Hid (∀ j, Value.ownBlock (.slice A8 q c8) = some j → db < j) := hid (fun j hj => by have := World.ownsRow.lt HG2.out j hj; omega)
                    go_roundg (gk - 1)
                    case measure => omega
                    case rel => exact ⟨G ++ [⟨s0, s1, s2, s3⟩], L2, A9, c9, q + 1, by omega, rfl, hid (by have := HR.out; have := HQ2.out.2.2.1; omega), hid (HQ2.out.1.grown HGW9.out (fun j hj => by have := hrow.out j hj; omega)), hid (by
                        rw [List.append_assoc, HSE.out]
                        exact ((List.Perm.refl G).append HQ2.out.2.1).trans P1.out), hid (by have := HQ2.out.2.2.2; rw [HQ2.out.2.2.1]; exact this), hid (fun s hs => by
                        rcases List.mem_append.1 hs with h1 | h1
                        · exact S1.out s h1
                        · have : s = ⟨s0, s1, s2, s3⟩ := by simpa using h1
                          rw [this, HSE.out]; exact HSS.out), HGR9, hid (OwnV.keep HO2.out HGW9.out.size (fun j h1 h2 h3 => HGW9.out.block j h3 (fun e => by have := hrow.out j e.symm; omega))), hid (HB2.out.grown HGW9.out (by omega) (fun j hj => by have := hrow.out j hj; omega))⟩
                  · have hVU' : (V == (U : Int)) = false := by simp [hVU]
                    have HD : Hid (∀ s ∈ L1, s.slot ≠ (U : Int)) := hid (fun s hs he => by
                      have h1 := H1.out.all s hs
                      have h2 := HAU.out _ (P1.out.mem_iff.1 (List.mem_append.2 (.inr (gt_mem (L := L1) (k := 0) (by rw [HL1.out]; omega)))))
                      have h3 : (gt L1 0).slot = V := hV
                      rw [hV] at h1
                      omega)
                    clear hV hVU hv hc0
                    by_cases hq1 : q = 1
                    · subst hq1
                      obtain ⟨kk, hkk, hgt, hpm, hou⟩ := due_win (n := k) (t := (U : Int)) (σ := itS k σ U) (by omega) (P1.out.trans PEU.out) S1.out HD.out HGL.out
                      obtain ⟨g, rfl, hg1, hg2, _, d1, _, _⟩ := GR.out.at_ (i := 0) (by omega)
                      rw [hgt] at d1
                      have d1' : wr.cell? ⟨g, 1, none⟩ = some (.int .i64 (kk : Int)) := by have := d1; simp only [Nat.zero_mul, Nat.zero_add] at this; exact this
                      obtain ⟨g9, y9, eg9, _, _, _, _, hcd, hfd, hst⟩ := OwnI.stored OD1.out hkk (U : Int)
                      injection eg9 with eg9
                      injection eg9 with eg9 _ _
                      subst eg9
                      rw [← hou] at hst
                      have hkk' : (kk : Int) < (k : Int) := by omega
                      have HST := hid hst
                      have HPM := hid hpm
                      clear d1 hst hpm hou hgt
                      go_wp2
                      go_roundg (400 - (U + 1))
                      case measure => omega
                      case rel => exact ⟨U + 1, L1, by omega, hid (Q1.out.setFar (p := ⟨db, kk, none⟩) (by simp only; omega) (by simp only; omega) _), hid HPM.out, H1, hid HST.out, hid (B1.out.setCell (p := ⟨db, kk, none⟩) (by simp only; omega) _)⟩
                    · have hq1' : ((q : Int) == 1) = false := by simp; omega
                      obtain ⟨hpm, hou⟩ := due_fail (n := k) (t := (U : Int)) (σ := itS k σ U) (P1.out.trans PEU.out) S1.out HD.out (by rw [HGL.out]; exact hq1)
                      have ODN := hid (show OwnI wr 3 db (db + 1) (some ⟨db, 0, none⟩) k k (outs k (itS k σ (U + 1))) by show OwnI wr 3 db (db + 1) (some ⟨db, 0, none⟩) k k (outs k (stepS k (U : Int) (itS k σ U))); rw [hou]; exact OD1.out)
                      have HPM := hid (show (G.map failS ++ L1).Perm (qL k (itS k σ (U + 1))) from hpm)
                      have HLL := hid (show q + L1.length = m by have := P1.out.length_eq; rw [List.length_append, HGL.out, HM.out] at this; exact this)
                      obtain ⟨wi, rfl⟩ : ∃ wi : World, wi = wr := ⟨_, rfl⟩
                      clear hpm hou
                      go_wp2
                      go_loopw [83] (fun v83 wr => ∃ (i : Nat) (L2 : List Snd), i ≤ q ∧ v83 = .int .i64 i ∧ Hid (QM wr hb z k L2) ∧ Hid (L2.Perm ((G.take i).map failS ++ L1)) ∧ Hid (Hp L2 L2.length) ∧ Hid (Grp wr (db + 1) A8 q c8 G) ∧ Hid (OwnI wr 3 db (db + 1) (some ⟨db, 0, none⟩) k k (outs k (itS k σ (U + 1)))) ∧ Hid (Below z w wr)) (fun v83 _ => q - (intOf v83).toNat)
                      case atStart => exact ⟨0, L1, Nat.zero_le _, rfl, Q1, hid (List.Perm.refl _), H1, GR, ODN, B1⟩
                      case round =>
                        obtain ⟨i, L2, hi, rfl, Q2, P2, H2, GR2, OD2, B2⟩ := hrel
                        have hsz2 := B2.out.size
                        have hdl2 : db < wr.heap.size := own_lt OD2.out
                        by_cases hiq : i < q
                        · have hiq' : (i : Int) < (q : Int) := by omega
                          obtain ⟨g, rfl, hg1, hg2, d0, d1, d2, d3⟩ := GR2.out.at_ hiq
                          have hgm : gt G i ∈ G := gt_mem (by rw [HGL.out]; exact hiq)
                          have hok : OkS (gt G i) := by
                            rcases HOKS.out _ (.inl hgm) with h1 | h1
                            · exact h1
                            · exact absurd (S1.out _ hgm) h1
                          have HTK := hid (take_snoc G i (gt G i) (gt_some (by rw [HGL.out]; exact hiq)))
                          obtain ⟨S, hS⟩ : ∃ S, gt G i = S := ⟨_, rfl⟩
                          rw [hS] at d0 d1 d2 d3 hok HTK
                          have hb0 := Blk.new wr 46 #[.int .i64 S.slot, .int .i64 S.number, .int .i64 S.seed, .int .i64 S.fails]
                          have HFA := hid (fail_q hb0 hok)
                          have HL2 := hid (show L2.length = i + L1.length by rw [P2.out.length_eq, List.length_append, List.length_map, List.length_take, HGL.out]; omega)
                          have hlt2 : i + L1.length < k := by have := HLL.out; omega
                          obtain ⟨l1, hl1⟩ : ∃ l1, i + L1.length = l1 := ⟨_, rfl⟩
                          rw [hl1] at HL2 hlt2
                          obtain ⟨s0, hs0⟩ : ∃ x, S.slot = x := ⟨_, rfl⟩
                          obtain ⟨s1, hs1⟩ : ∃ x, S.number = x := ⟨_, rfl⟩
                          obtain ⟨s2, hs2⟩ : ∃ x, S.seed = x := ⟨_, rfl⟩
                          obtain ⟨s3, hs3⟩ : ∃ x, S.fails = x := ⟨_, rfl⟩
                          rw [hs0] at d0
                          rw [hs1] at d1
                          rw [hs2] at d2
                          rw [hs3] at d3
                          rw [hs0, hs1, hs2, hs3] at HFA
                          clear hS hok hb0 hl1 hgm hs0 hs1 hs2 hs3
                          go_wp2_with fail
                          refine HFA.out.mono ?_
                          rintro e w2 ⟨rfl, b2, o2⟩
                          have q2 : QM w2 hb z k L2 := (Q2.out.alloc (.cells #[.int .i64 s0, .int .i64 s1, .int .i64 s2, .int .i64 s3] 46)).keep (o2.block hb (by simp; omega) (by omega)) (o2.block z (by simp; omega) (by omega))
                          have HE2 : Hid (∀ j, j < wr.heap.size → w2.heap[j]? = wr.heap[j]?) := hid (fun j hj => (o2.block j (by simp; omega) (by omega)).trans (Below.heap_alloc wr _ j hj))
                          have HB2 := hid (show Below z w w2 from (B2.out.alloc (by omega) _).trans (o2.below (by omega) (by simp; omega)))
                          have hz2 : wr.heap.size < w2.heap.size := by have := o2.size; simp at this; omega
                          have f0 : w2.cell? ⟨wr.heap.size, 0, none⟩ = some (.int .i64 (failS S).slot) := by rw [b2.cell]; rfl
                          have f1 : w2.cell? ⟨wr.heap.size, 1, none⟩ = some (.int .i64 (failS S).number) := by rw [b2.cell]; rfl
                          have f2 : w2.cell? ⟨wr.heap.size, 2, none⟩ = some (.int .i64 (failS S).seed) := by rw [b2.cell]; rfl
                          have f3 : w2.cell? ⟨wr.heap.size, 3, none⟩ = some (.int .i64 (failS S).fails) := by rw [b2.cell]; rfl
                          have HPU := hid (push_q (lo := z) (hi := db) (failS S) q2 HL2.out hlt2 h8 (by rw [← HL2.out]; exact H2.out) (by omega) (by omega) (Nat.le_refl _) (by omega))
                          obtain ⟨F, hF⟩ : ∃ F, failS S = F := ⟨_, rfl⟩
                          rw [hF] at f0 f1 f2 f3 HPU
                          have HFF := hid hF
                          clear b2 o2 q2 hF d0 d1 d2 d3
                          go_wp2_with fail
                          refine HPU.out.mono ?_
                          rintro e w3 ⟨rfl, L3, q3, p3, h3, o3⟩
                          have HE3 : Hid (∀ j, db ≤ j → j < wr.heap.size → w3.heap[j]? = wr.heap[j]?) := hid (fun j h1 h2 => (o3.block j (by omega) (by omega)).trans (HE2.out j h2))
                          have hz3 := o3.size
                          have HR3 : Hid (QM w3 hb z k L3 ∧ L3.Perm ((G.take (i + 1)).map failS ++ L1) ∧ Hp L3 L3.length ∧ Grp w3 (db + 1) (some ⟨g, 0, none⟩) q c8 G ∧ OwnI w3 3 db (db + 1) (some ⟨db, 0, none⟩) k k (outs k (itS k σ (U + 1))) ∧ Below z w w3) := hid (by
                            refine ⟨q3, ?_, ?_, GR2.out.keep (fun j h1 h2 => HE3.out j (by omega) h2), OwnV.keep OD2.out (by omega) (fun j h1 _ h2 => HE3.out j h1 h2), HB2.out.trans (o3.below (Nat.le_refl _) (by omega))⟩
                            · rw [HTK.out, List.map_append, List.append_assoc]
                              refine p3.trans ?_
                              refine ((P2.out.cons F)).trans ?_
                              have e : [S].map failS = [F] := by rw [← HFF.out]; rfl
                              rw [e]
                              exact List.perm_middle.symm
                            · have : L3.length = l1 + 1 := by rw [p3.length_eq, List.length_cons, HL2.out]
                              rw [this]; exact h3)
                          clear q3 p3 h3 o3 f0 f1 f2 f3
                          go_wp2
                          go_roundw
                          case rel => exact ⟨i + 1, L3, by omega, by go_num, hid HR3.out.1, hid HR3.out.2.1, hid HR3.out.2.2.1, hid HR3.out.2.2.2.1, hid HR3.out.2.2.2.2.1, hid HR3.out.2.2.2.2.2⟩
                          case measure => simp [intOf]; omega
                        · have hiq' : ¬ (i : Int) < (q : Int) := by omega
                          have HPF := hid (show L2.Perm (qL k (itS k σ (U + 1))) from by
                            have := P2.out
                            rw [List.take_of_length_le (by rw [HGL.out]; omega)] at this
                            exact this.trans HPM.out)
                          go_wp2
                          go_roundg (400 - (U + 1))
                          case measure => omega
                          case rel => exact ⟨U + 1, L2, by omega, Q2, HPF, H2, OD2, B2⟩
            · have hU4' : ¬ (U : Int) < 400 := by omega
              have HF := hid (HRET.out (fun s hs => by have := HAU.out s hs; omega))
              go_wp2
              go_ret
              exact HF.out
  · have HX := hid (runI_no (xs := xs) (fun hh => h8 (by rw [← HL.out]; exact hh.1)))
    have h8' : (8 : Int) < (n : Int) := by omega
    clear h
    go_enter Try.func26, Try.ntmps26
    go_wp2
    go_ret
    rw [HX.out]
    exact retI_nil _ _
end Go.Proofs.Ytnebmfdjcikegaa
