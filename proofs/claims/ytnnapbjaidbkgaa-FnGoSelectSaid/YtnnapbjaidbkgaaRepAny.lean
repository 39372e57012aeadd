/-
  repeatLost over the receiver that accepts every message, walked; and SelectRepeat.
-/
import Derived.Test.YtnnapbjaidbkgaaRepC
import Derived.Test.YtnnapbjaidbkgaaRepD
import Derived.Test.YtnnapbjaidbkgaaTab
import Derived.Handy
namespace Go.Proofs.Ytnnapbjaidbkgaa
open Go.RowKit
set_option linter.unusedVariables false

/-- The length of a slice as a value. -/
def slLenAny : Value → Nat
  | .slice _ n _ => n
  | _ => 0
/-- The call returned a slice of its own and a bool; of what was there only block g has turned. -/
def RetGoAny (g : Nat) (w : World) (e : Ending) (w' : World) (V : List Int × Bool) : Prop :=
  ∃ A n c, e = .returned (.tuple #[.slice A n c, .bool V.2]) ∧ OwnI w' 3 w.heap.size w'.heap.size A n c V.1 ∧ Only g (g + 1) w w'
/-- What holds at the head of a round: b messages are behind, d is the receiver's state, s has been sent. -/
def HeadAny (w wr : World) (g n win : Nat) (lost : List Bool) (V : Option (List Int)) (b : Nat) (A : Option Addr) (l c : Nat) : Prop :=
  ∃ (f : Nat) (d : Nat → Bool) (s : List Int), b ≤ n ∧ True ∧ AnO wr g d ∧ OwnI wr 3 w.heap.size wr.heap.size A l c s ∧ s.length ≤ 308 ∧ 301 ≤ f + s.length ∧ Only g (g + 1) w wr ∧
    gO accAny stepAny lost n win f (firstN n (accAny d) n b) d s = V
theorem ownPushAny {w w' : World} {lo : Nat} {A : Option Addr} {n c g cap : Nat} {us : List Value} {u : Value} {t : TypeId} (hlo : lo ≤ w.heap.size) (ho : OwnV w t lo w.heap.size A n c us)
    (h : w'.ownsRow lo t 1 (.slice (some ⟨g, 0, none⟩) (n + 1) cap) (n + 1) (us ++ [u])) : OwnV w' t lo w'.heap.size (some ⟨g, 0, none⟩) (n + 1) cap (us ++ [u]) := by
  obtain ⟨A1, c1, hv, hov⟩ := ownV_of h
  injection hv with e1 e2 e3
  subst e1 e3
  exact hov
theorem own_blkneAny {w : World} {t : TypeId} {lo hi n c : Nat} {A : Option Addr} {vs : List Value} (h : OwnV w t lo hi A n c vs) : ∀ k, Value.ownBlock (.slice A n c) = some k → lo ≤ k ∧ k < hi ∧ ∃ a, A = some a ∧ a.block = k := by
  intro k hk
  rcases h.2.2.2 with ⟨h, _⟩ | ⟨g0, _, h, h1, h2, _⟩
  · subst h; cases hk
  · subst h; injection hk with hk; subst hk; exact ⟨h1, h2, _, rfl, rfl⟩
set_option maxHeartbeats 4000000 in
set_option maxRecDepth 20000 in
theorem repeatAny (n win l c B g : Nat) (A : Option Addr) (lost : List Bool) (w : World) (h : RT w B A l lost) (hg : AnO w g (fun _ => false)) (hB : B ≤ g) (hn : n ≤ 30) (hw1 : 1 ≤ win) (hw8 : win ≤ 8) (hl : l ≤ 1000000000) :
    Calls Try.prog 34 #[.iface 54 (.pointer (some ⟨g, 0, none⟩)), .int .i64 (n : Int), .int .i64 (win : Int), .slice A l c] w fun e w' => RetGoAny g w e w' (goOut (gO accAny stepAny lost n win 301 0 (fun _ => false) [])) := by
  obtain ⟨V, HV⟩ : ∃ V, Hid (V = gO accAny stepAny lost n win 301 0 (fun _ => false) []) := ⟨_, hid rfl⟩
  rw [← HV.out]
  have hgw : g < w.heap.size := Blk.lt hg
  obtain ⟨i0, hi0, hz0, hz1, hz2⟩ := info_parts infoI
  have HH := hid h
  have hstart : HeadAny w w g n win lost V 0 none 0 0 := ⟨301, (fun _ => false), [], Nat.zero_le _, trivial, hg, OwnV.nil_ _ _ _ _, by simp, by simp, Only.refl _ _ _, by rw [HV.out]; have : firstN n (accAny (fun _ => false)) n 0 = 0 := firstN_false n n; rw [this]⟩
  have HSt := hid hstart
  clear h hg hstart
  go_enter Try.func34, Try.ntmps34
  go_wp2
  go_loopw [11, 10] (fun bv sv wr => ∃ (b l c : Nat) (A : Option Addr), bv = .int .i64 b ∧ sv = .slice A l c ∧ l ≤ 308 ∧ Hid (HeadAny w wr g n win lost V b A l c)) (fun _ sv _ => 400 - slLenAny sv)
  case atStart => exact ⟨0, 0, 0, none, rfl, rfl, by omega, HSt⟩
  case round =>
    obtain ⟨b0, l1, c1, A1, rfl, rfl, hl1, HHd⟩ := hrel
    obtain ⟨f, d, s, hb0, hinv, hp, hown, hsl, hfs, honly, hgo⟩ := HHd.out
    have hls : s.length = l1 := OwnI.len hown
    obtain ⟨q, HQ⟩ : ∃ q, Hid (q = firstN n (accAny d) n b0) := ⟨_, hid rfl⟩
    obtain ⟨q1, q2, q3, q4⟩ := firstN_mid n (accAny d) n b0 hb0 (by omega)
    rw [← HQ.out] at q1 q2 q3 q4 hgo
    have HQ3 := hid q3; have HQ4 := hid q4
    have HG := hid (And.intro hgo (And.intro hls (And.intro hown honly)))
    have hsz : w.heap.size ≤ wr.heap.size := honly.size
    clear q3 q4 hgo hls hown honly HQ HHd HSt
    obtain ⟨wo, rfl⟩ : ∃ wo : World, wo = wr := ⟨_, rfl⟩
    go_wp2
    go_loop [11] (fun bv => ∃ b : Nat, b0 ≤ b ∧ b ≤ q ∧ bv = .int .i64 b) (fun bv => n - (intOf bv).toNat)
    case atStart => exact ⟨b0, Nat.le_refl _, q1, rfl⟩
    case round =>
      obtain ⟨b, hb1, hb2, rfl⟩ := hrel
      by_cases hbq : b < q
      · have hbn : b < n := by omega
        have hac := anyAccepted_any g b d wo hp (by omega)
        have e1 : d b = true := HQ3.out b hb1 hbq
        rw [e1] at hac
        have HAC := hid hac
        clear hac e1
        go_wp2_with fail
        refine HAC.out.mono ?_
        rintro e w1 ⟨rfl, rfl⟩
        go_wp2
        go_round
        case rel => exact ⟨b + 1, by omega, by omega, by go_num⟩
        case measure => simp [intOf]; omega
      · have hbq' : b = q := by omega
        subst hbq'
        clear hbq hb2
        by_cases hbn : b < n
        · have hac := anyAccepted_any g b d wo hp (by omega)
          have e1 : d b = false := HQ4.out hbn
          rw [e1] at hac
          have HAC := hid hac
          clear hac e1
          have hne : ((b : Int) == (n : Int)) = false := by simp; omega
          by_cases h300 : 300 ≤ l1
          · have hN : Hid (V = none) := hid (by
              have h1 := HG.out.1
              have h2 := HG.out.2.1
              cases f with
              | zero => rw [gO, if_pos hbn] at h1; exact h1.symm
              | succ f => rw [gO, if_pos hbn, if_pos (by omega)] at h1; exact h1.symm)
            go_wp2_with fail
            refine HAC.out.mono ?_
            rintro e w1 ⟨rfl, rfl⟩
            go_wp2
            go_ret2
            rw [hN.out]
            exact ⟨none, 0, 0, rfl, OwnV.nil_ _ _ _ _, HG.out.2.2.2⟩
          · obtain ⟨f, rfl⟩ : ∃ f', f = f' + 1 := ⟨f - 1, by have := HG.out.2.1; omega⟩
            obtain ⟨ms, Hms⟩ : ∃ ms, Hid (ms = toSend accAny n win b d) := ⟨_, hid rfl⟩
            obtain ⟨R, HR⟩ : ∃ R, Hid (R = gF stepAny lost ms d s) := ⟨_, hid rfl⟩
            have HG1 : Hid (gO accAny stepAny lost n win f (firstN n (accAny R.1) n b) R.1 R.2 = V) := hid (by
              have h1 := HG.out.1
              rw [gO, if_pos hbn, if_neg (by have := HG.out.2.1; omega), ← Hms.out, ← HR.out] at h1
              exact h1)
            have hml := toSend_len accAny n win b d
            have hmp := toSend_pos (acc := accAny) (d := d) hbn hw1 (HQ4.out hbn)
            rw [← Hms.out] at hml hmp
            have Hmm : Hid (∀ m ∈ ms, b ≤ m ∧ m < n) := hid (fun m hm => by rw [Hms.out] at hm; exact toSend_mem accAny hm)
            have hRl := gF_len stepAny lost ms d s
            rw [← HR.out, HG.out.2.1] at hRl
            have HRl := hid hRl
            obtain ⟨M, HM⟩ : ∃ M, Hid (M = min (b + win) n - b) := ⟨_, hid rfl⟩
            have hM : b + M = min (b + win) n := by rw [HM.out]; omega
            have Hms2 : Hid (ms = (List.range' b M).filter fun j => !accAny d j) := hid (by rw [Hms.out, HM.out]; rfl)
            have hM1 : b + M ≤ n := by omega
            have hM8 : M ≤ 8 := by omega
            have hMw : M ≤ win := by omega
            have HM2 := hid hM
            clear hRl Hms hM
            go_wp2_with fail
            refine HAC.out.mono ?_
            rintro e w1 ⟨rfl, rfl⟩
            go_wp2
            -- the messages of the round
            have HB1 := hid (And.intro HG.out.2.2.1 HG.out.2.2.2)
            go_loopw [12, 13] (fun rv mv wr => ∃ (j l2 c2 : Nat) (A2 : Option Addr), j ≤ M ∧ mv = .int .i64 ((b : Int) + (j : Int)) ∧ rv = .slice A2 l2 c2 ∧ l2 ≤ j ∧
                OwnI wr 3 wo.heap.size wr.heap.size A2 l2 c2 (((List.range' b j).filter fun j => !accAny d j).map Int.ofNat) ∧ Below wo.heap.size wo wr) (fun _ mv _ => 100 - (intOf mv).toNat)
            case atStart => exact ⟨0, 0, 0, none, Nat.zero_le _, by simp, rfl, Nat.le_refl _, OwnV.nil_ _ _ _ _, Below.refl _ _⟩
            case round =>
              obtain ⟨j, l2, c2, A2, hj, rfl, rfl, hlj, hown2, hbel2⟩ := hrel
              by_cases hjM : j < M
              · have hp2 : AnO wr g d := Blk.below hp hbel2 (Nat.lt_of_lt_of_le hgw hsz)
                have hmin : (if (n : Int) < (b : Int) + (win : Int) then (n : Int) else (b : Int) + (win : Int)) = (b : Int) + (M : Int) := by have := HM2.out; split <;> omega
                have hac := anyAccepted_any g (b + j) d wr hp2 (by omega)
                have hrs : List.range' b (j + 1) = List.range' b j ++ [b + j] := by rw [List.range'_concat]; simp
                cases hv : d (b + j)
                · rw [hv] at hac
                  have HAC2 := hid hac
                  have Hrs : Hid (((List.range' b (j + 1)).filter fun j => !accAny d j).map Int.ofNat = ((List.range' b j).filter fun j => !accAny d j).map Int.ofNat ++ [((b + j : Nat) : Int)]) := hid (by
                    rw [hrs, List.filter_append]
                    have : (!accAny d (b + j)) = true := by have h7 : accAny d (b + j) = false := hv; rw [h7]; rfl
                    simp [this])
                  have HO := hid (And.intro hown2 hbel2)
                  have hus := OwnV.own hown2
                  have hbz : wo.heap.size ≤ wr.heap.size := hbel2.size
                  clear hac hv hown2 hbel2 hrs
                  go_wp2_with fail
                  refine HAC2.out.mono ?_
                  rintro e w1 ⟨rfl, rfl⟩
                  go_wp2_with (at_builtin; refine wpList_push rfl _ _ _ rfl wo.heap.size 3 i0 _ 8 Try.underlying23 hi0 hz0 hz1 hz2 rfl (by omega) _ _ A2 l2 c2 _ rfl hus rfl rfl (by omega) hbz ?_; intro g_ cap_ w3 hown3 hgrow3 hlies3 hlt3)
                  have H3 := hid (And.intro (ownPushAny hbz HO.out.1 hown3) (below_push HO.out.2 hus (Nat.le_refl _) hbz hgrow3))
                  clear hown3 hgrow3 hlies3 hlt3 hus
                  go_roundw
                  case rel => exact ⟨j + 1, l2 + 1, cap_, _, by omega, by go_num, rfl, by omega, by have h4 := H3.out.1; unfold OwnI; rw [Hrs.out, List.map_append]; exact h4, H3.out.2⟩
                  case measure => simp [intOf]; omega
                · rw [hv] at hac
                  have HAC2 := hid hac
                  have Hrs : Hid (((List.range' b (j + 1)).filter fun j => !accAny d j).map Int.ofNat = ((List.range' b j).filter fun j => !accAny d j).map Int.ofNat) := hid (by
                    rw [hrs, List.filter_append]
                    have : (!accAny d (b + j)) = false := by have h7 : accAny d (b + j) = true := hv; rw [h7]; rfl
                    simp [this])
                  have HO := hid (And.intro hown2 hbel2)
                  clear hac hv hown2 hbel2 hrs
                  go_wp2_with fail
                  refine HAC2.out.mono ?_
                  rintro e w1 ⟨rfl, rfl⟩
                  go_wp2
                  go_roundw
                  case rel => exact ⟨j + 1, l2, c2, _, by omega, by go_num, rfl, by omega, by have h4 := HO.out.1; rw [Hrs.out]; exact h4, HO.out.2⟩
                  case measure => simp [intOf]; omega
              · have hjM' : j = M := by omega
                subst hjM'
                have hmin : (if (n : Int) < (b : Int) + (win : Int) then (n : Int) else (b : Int) + (win : Int)) = (b : Int) + (j : Int) := by have := HM2.out; split <;> omega
                have hms2 : OwnI wr 3 wo.heap.size wr.heap.size A2 l2 c2 (ms.map Int.ofNat) := by rw [Hms2.out]; exact hown2
                have hlm : l2 = ms.length := by have := OwnI.len hms2; simpa using this.symm
                subst hlm
                obtain ⟨gb, hA2, gb1, gb2⟩ : ∃ gb, A2 = some ⟨gb, 0, none⟩ ∧ wo.heap.size ≤ gb ∧ gb < wr.heap.size := by
                  obtain ⟨gb, cs, e1, e2, e3, _⟩ := OwnV.blk hms2 (by omega)
                  exact ⟨gb, e1, e2, e3⟩
                subst hA2
                have hr0 : RI wr wr.heap.size (some ⟨gb, 0, none⟩) ms.length (ms.map Int.ofNat) := OwnI.ri hms2
                have hcells : ∀ (i : Nat) m, ms[i]? = some m → wr.cell? ⟨gb, i, none⟩ = some (.int .i64 (m : Int)) := by
                  intro i m hi
                  obtain ⟨_, hx⟩ := hr0
                  obtain ⟨b', o', e', _, hc'⟩ := hx (by omega)
                  injection e' with e'
                  injection e' with e1 e2
                  subst e1 e2
                  have := hc' i (.int .i64 (m : Int)) (by rw [List.getElem?_map, List.getElem?_map, hi]; rfl)
                  rwa [Nat.zero_add] at this
                have hp3 : AnO wr g d := Blk.below hp hbel2 (Nat.lt_of_lt_of_le hgw hsz)
                have hs3 : OwnI wr 3 w.heap.size wr.heap.size A1 l1 c1 s := (OwnV.below HB1.out.1 hbel2 (Nat.le_refl _)).more (Nat.le_refl _) hbel2.size
                have hon3 : Only g (g + 1) w wr := HB1.out.2.trans (Below.only hbel2)
                have hns : ∀ a, A1 = some a → a.block ≠ gb := fun a ha => by have := (OwnV.addr HB1.out.1 ha).2.1; omega
                have HL3 := hid (And.intro hcells (And.intro hp3 (And.intro hs3 (And.intro hon3 hns))))
                clear hcells hp3 hs3 hon3 hns hr0 hms2 hown2 hbel2
                go_wp2
                obtain ⟨wp, rfl⟩ : ∃ wp : World, wp = wr := ⟨_, rfl⟩
                go_loopw [10, 67] (fun sv iv wr => ∃ (i l3 c3 : Nat) (A3 : Option Addr) (d3 : Nat → Bool) (s3 : List Int), i ≤ ms.length ∧ iv = .int .i64 i ∧ sv = .slice A3 l3 c3 ∧ l3 ≤ l1 + i ∧ True ∧ Hid (AnO wr g d3 ∧
                    OwnI wr 3 w.heap.size wr.heap.size A3 l3 c3 s3 ∧ Only g (g + 1) w wr ∧ (∀ a, A3 = some a → a.block ≠ gb) ∧ gb < wr.heap.size ∧ (∀ (i : Nat) m, ms[i]? = some m → wr.cell? ⟨gb, i, none⟩ = some (.int .i64 (m : Int))) ∧ gF stepAny lost (ms.drop i) d3 s3 = R)) (fun _ iv _ => 100 - (intOf iv).toNat)
                case atStart => exact ⟨0, l1, c1, A1, d, s, Nat.zero_le _, rfl, rfl, Nat.le_refl _, hinv, hid ⟨HL3.out.2.1, HL3.out.2.2.1, HL3.out.2.2.2.1, HL3.out.2.2.2.2, gb2, HL3.out.1, HR.out.symm⟩⟩
                case round =>
                  obtain ⟨i, l3, c3, A3, d3, s3, hi, rfl, rfl, hl3, hinv3, HX3⟩ := hrel
                  obtain ⟨hp4, hs4, hon4, hns4, hgb4, hcl4, hgf4⟩ := HX3.out
                  clear HX3
                  have hs3l : s3.length = l3 := OwnI.len hs4
                  by_cases him : i < ms.length
                  · have hget : ms[i]? = some ms[i] := List.getElem?_eq_getElem him
                    obtain ⟨m, hmm⟩ : ∃ m, m = ms[i] := ⟨_, rfl⟩
                    rw [← hmm] at hget
                    have hmb := Hmm.out m (List.mem_of_getElem? hget)
                    have hcm := hcl4 i m hget
                    have hdr : ms.drop i = m :: ms.drop (i + 1) := by rw [List.drop_eq_getElem_cons him, hmm]
                    rw [hdr, gF] at hgf4
                    have hlo := lostAt_impl A l c B lost s3.length wr (RV.below HH.out (hon4.below hB (by omega))) (by omega)
                    rw [hs3l] at hlo hgf4
                    have hac := anyAccept_any g m d3 wr hp4 (by omega)
                    have hw4 : w.heap.size ≤ wr.heap.size := hon4.size
                    have hus := OwnV.own hs4
                    have hl3b : l3 ≤ 308 := by omega
                    cases hv : lostB lost l3
                    · rw [hv] at hlo hgf4
                      rw [if_neg Bool.false_ne_true] at hgf4
                      have HLO := hid hlo
                      have HAC := hid hac
                      have H4 := hid (And.intro hs4 (And.intro hon4 (And.intro hns4 (And.intro hcl4 hgf4))))
                      clear hlo hac hv hs4 hon4 hns4 hcl4 hgf4 hdr hmm hget hs3l hus
                      go_wp2_with fail
                      refine HLO.out.mono ?_
                      rintro e w1 ⟨rfl, rfl⟩
                      go_wp2_with fail
                      refine HAC.out.mono ?_
                      rintro e w5 ⟨rfl, hp5, hon5, hsz5⟩
                      have hne5 : ∀ k, k < wr.heap.size → k ≠ g → w5.heap[k]? = wr.heap[k]? := fun k hk hkg => hon5.block k hk (by omega)
                      have hs5 : OwnI w5 3 w.heap.size w5.heap.size A3 l3 c3 s3 := by rw [hsz5]; exact OwnV.keep H4.out.1 (by omega) (fun k h1 h2 h3 => hne5 k h3 (by omega))
                      have hcl5 : ∀ (i : Nat) m, ms[i]? = some m → w5.cell? ⟨gb, i, none⟩ = some (.int .i64 (m : Int)) := fun i m hi => (World.cell?_of_block (hne5 gb hgb4 (by omega))).trans (H4.out.2.2.2.1 i m hi)
                      have hus := OwnV.own hs5
                      have hw5 : w.heap.size ≤ w5.heap.size := by omega
                      have H5 := hid (And.intro hs5 (And.intro hcl5 (And.intro hp5 (H4.out.2.1.trans hon5))))
                      have hgb5 : gb < w5.heap.size := by omega
                      have hg5 : g < w5.heap.size := by omega
                      clear hs5 hcl5 hne5 hon5 hp5 hsz5
                      go_wp2_with (at_builtin; refine wpList_push rfl _ _ _ rfl w.heap.size 3 i0 _ 8 Try.underlying23 hi0 hz0 hz1 hz2 rfl (by omega) _ _ A3 l3 c3 _ rfl hus rfl rfl (by omega) hw5 ?_; intro g_ cap_ w6 hown6 hgrow6 hlies6 hlt6)
                      have hblk := own_blkneAny H5.out.1
                      have hng : ∀ k, Value.ownBlock (.slice A3 l3 c3) = some k → w.heap.size ≤ k ∧ k ≠ gb := fun k hk => by
                        obtain ⟨h1, h2, a, ha, hb⟩ := hblk k hk
                        exact ⟨h1, fun e => H4.out.2.2.1 a ha (by omega)⟩
                      have hgb6 : w6.heap[gb]? = w5.heap[gb]? := hgrow6.block gb hgb5 (fun e => (hng gb e.symm).2 rfl)
                      have hg6 : w6.heap[g]? = w5.heap[g]? := hgrow6.block g hg5 (fun e => by have := (hng g e.symm).1; omega)
                      have H6 : Hid (AnO w6 g (stepAny d3 m) ∧ OwnI w6 3 w.heap.size w6.heap.size (some ⟨g_, 0, none⟩) (l3 + 1) cap_ (s3 ++ [(m : Int)]) ∧ Only g (g + 1) w w6 ∧ (∀ a, (some ⟨g_, 0, none⟩ : Option Addr) = some a → a.block ≠ gb) ∧ gb < w6.heap.size ∧ (∀ (i : Nat) m, ms[i]? = some m → w6.cell? ⟨gb, i, none⟩ = some (.int .i64 (m : Int))) ∧ gF stepAny lost (ms.drop (i + 1)) (stepAny d3 m) (s3 ++ [(m : Int)]) = R) := hid (by
                        refine ⟨hg6.trans H5.out.2.2.1, ?_, Only.grown H5.out.2.2.2 hgrow6 (fun k hk => (hng k hk).1), ?_, ?_, ?_, H4.out.2.2.2.2⟩
                        · unfold OwnI; rw [List.map_append]; exact ownPushAny hw5 H5.out.1 hown6
                        · intro a ha
                          injection ha with ha
                          subst ha
                          rcases hlies6 with h | h
                          · exact (hng g_ h).2
                          · show g_ ≠ gb; omega
                        · exact Nat.lt_of_lt_of_le hgb5 hgrow6.size
                        · exact fun i m hi => (World.cell?_of_block hgb6).trans (H5.out.2.1 i m hi))
                      clear hown6 hgrow6 hlies6 hlt6 hus hblk hng hgb6 hg6
                      go_roundw
                      case rel => exact ⟨i + 1, l3 + 1, cap_, _, stepAny d3 m, s3 ++ [(m : Int)], by omega, by go_num, rfl, by omega, trivial, H6⟩
                      case measure => simp [intOf]; omega
                    · rw [hv] at hlo hgf4
                      rw [if_pos rfl] at hgf4
                      have HLO := hid hlo
                      have H4 := hid (And.intro hs4 (And.intro hon4 (And.intro hns4 (And.intro hcl4 (And.intro hgf4 hp4)))))
                      clear hlo hac hv hs4 hon4 hns4 hcl4 hgf4 hdr hmm hget hs3l hp4
                      have hgw5 : g < wr.heap.size := by omega
                      go_wp2_with fail
                      refine HLO.out.mono ?_
                      rintro e w1 ⟨rfl, rfl⟩
                      go_wp2_with (at_builtin; refine wpList_push rfl _ _ _ rfl w.heap.size 3 i0 _ 8 Try.underlying23 hi0 hz0 hz1 hz2 rfl (by omega) _ _ A3 l3 c3 _ rfl hus rfl rfl (by omega) hw4 ?_; intro g_ cap_ w6 hown6 hgrow6 hlies6 hlt6)
                      have hblk := own_blkneAny H4.out.1
                      have hng : ∀ k, Value.ownBlock (.slice A3 l3 c3) = some k → w.heap.size ≤ k ∧ k ≠ gb := fun k hk => by
                        obtain ⟨h1, h2, a, ha, hb⟩ := hblk k hk
                        exact ⟨h1, fun e => H4.out.2.2.1 a ha (by omega)⟩
                      have hgb6 : w6.heap[gb]? = wr.heap[gb]? := hgrow6.block gb hgb4 (fun e => (hng gb e.symm).2 rfl)
                      have hg6 : w6.heap[g]? = wr.heap[g]? := hgrow6.block g hgw5 (fun e => by have := (hng g e.symm).1; omega)
                      have H6 : Hid (AnO w6 g d3 ∧ OwnI w6 3 w.heap.size w6.heap.size (some ⟨g_, 0, none⟩) (l3 + 1) cap_ (s3 ++ [(m : Int)]) ∧ Only g (g + 1) w w6 ∧ (∀ a, (some ⟨g_, 0, none⟩ : Option Addr) = some a → a.block ≠ gb) ∧ gb < w6.heap.size ∧ (∀ (i : Nat) m, ms[i]? = some m → w6.cell? ⟨gb, i, none⟩ = some (.int .i64 (m : Int))) ∧ gF stepAny lost (ms.drop (i + 1)) d3 (s3 ++ [(m : Int)]) = R) := hid (by
                        refine ⟨hg6.trans H4.out.2.2.2.2.2, ?_, Only.grown H4.out.2.1 hgrow6 (fun k hk => (hng k hk).1), ?_, ?_, ?_, H4.out.2.2.2.2.1⟩
                        · unfold OwnI; rw [List.map_append]; exact ownPushAny hw4 H4.out.1 hown6
                        · intro a ha
                          injection ha with ha
                          subst ha
                          rcases hlies6 with h | h
                          · exact (hng g_ h).2
                          · show g_ ≠ gb; omega
                        · exact Nat.lt_of_lt_of_le hgb4 hgrow6.size
                        · exact fun i m hi => (World.cell?_of_block hgb6).trans (H4.out.2.2.2.1 i m hi))
                      clear hown6 hgrow6 hlies6 hlt6 hus hblk hng hgb6 hg6
                      go_roundw
                      case rel => exact ⟨i + 1, l3 + 1, cap_, _, d3, s3 ++ [(m : Int)], by omega, by go_num, rfl, by omega, hinv3, H6⟩
                      case measure => simp [intOf]; omega
                  · have him' : i = ms.length := by omega
                    subst him'
                    rw [List.drop_eq_nil_of_le (Nat.le_refl _), gF] at hgf4
                    have hR : R = (d3, s3) := hgf4.symm
                    have hl3r : l3 = l1 + ms.length := by have := HRl.out; rw [hR] at this; rw [← hs3l]; exact this
                    have H7 : Hid (HeadAny w wr g n win lost V b A3 l3 c3) := hid ⟨f, d3, s3, by omega, hinv3, hp4, hs4, by omega, by have := HG.out.2.1; omega, hon4, by have := HG1.out; rw [hR] at this; exact this⟩
                    have hl31 : l1 < l3 := by omega
                    have hl38 : l3 ≤ 308 := by omega
                    clear hl3r hR hgf4 hs3l hs4 hon4 hns4 hcl4 hp4
                    go_wp2
                    go_roundw
                    case rel => exact ⟨b, l3, c3, A3, rfl, rfl, hl38, H7⟩
                    case measure => simp [slLenAny]; omega
        · have hbn' : b = n := by omega
          have hV : Hid (V = some s) := hid (by
            have h1 := HG.out.1
            cases f with
            | zero => rw [gO, if_neg hbn] at h1; exact h1.symm
            | succ f => rw [gO, if_neg hbn] at h1; exact h1.symm)
          have hqq : ((b : Int) == (n : Int)) = true := by simp; omega
          clear hbn'
          go_wp2
          go_ret2
          rw [hV.out]
          exact ⟨_, _, _, rfl, HG.out.2.2.1, HG.out.2.2.2⟩

end Go.Proofs.Ytnnapbjaidbkgaa
