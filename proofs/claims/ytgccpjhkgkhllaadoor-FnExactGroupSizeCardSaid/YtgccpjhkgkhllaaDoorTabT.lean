/-
  THE HELPERS OF THE EXACT LAWS for tables, walked: szBoolSS counts; toBoolSS copies; eqBoolSS compares; markBoolSS writes into every row.
-/
import Derived.Test.YtgccpjhkgkhllaaDoorExactT
import Derived.Test.YtgccpjhkgkhllaaDoorTab
namespace Go.Proofs.YtgccpjhkgkhllaaDoor
open Go.RowKit
set_option linter.unusedVariables false

theorem infoRowT : (Tryd.prog.info? 26).map (fun i => (i.zero, i.size, i.bytes)) = some (some (.slice none 0 0), 1, 24) := by kernel_rfl

def szvT (n : Nat) (left : Int) : Int := if left - n < 0 then -1 else left - n
def szRT : List Nat → Int → Int
  | [], left => left
  | n :: ns, left => if left - n < 0 then -1 else szRT ns (left - n)
def szSST (ls : List Nat) (left : Int) : Int := if left - ls.length < 0 then -1 else szRT ls (left - ls.length)
theorem szRT_ok : ∀ (ls : List Nat) (left : Int), 0 ≤ left → szRT ls left = -1 ∨ (0 ≤ szRT ls left ∧ (ls.sum : Int) ≤ left ∧ ∀ x ∈ ls, (x : Int) ≤ left) := by
  intro ls
  induction ls with
  | nil => intro left h; right; simp [szRT, h]
  | cons n ns ih =>
    intro left h
    rw [szRT]
    split
    · exact .inl rfl
    · rcases ih (left - n) (by omega) with h1 | ⟨h1, h2, h3⟩
      · exact .inl h1
      · refine .inr ⟨h1, by rw [List.sum_cons]; omega, fun x hx => ?_⟩
        rw [List.mem_cons] at hx
        rcases hx with rfl | hx
        · omega
        · have := h3 x hx; omega
theorem szSST_ok (ls : List Nat) (left : Int) (h : 0 ≤ left) : szSST ls left = -1 ∨ (0 ≤ szSST ls left ∧ (ls.length : Int) ≤ left ∧ (ls.sum : Int) ≤ left ∧ ∀ x ∈ ls, (x : Int) ≤ left) := by
  unfold szSST
  split
  · exact .inl rfl
  · rcases szRT_ok ls (left - ls.length) (by omega) with h1 | ⟨h1, h2, h3⟩
    · exact .inl h1
    · exact .inr ⟨h1, by omega, by omega, fun x hx => by have := h3 x hx; omega⟩

theorem szBoolS_any (A : Option Addr) (n c : Nat) (left : Int) (w : World) (h0 : 0 ≤ left) (h1 : left ≤ 1048576) (hn : n ≤ maxLen) :
    Calls Tryd.prog 40 #[.slice A n c, .int .i64 left] w fun e w' => e = .returned (.int .i64 (szvT n left)) ∧ w = w' := by
  unfold maxLen at hn
  by_cases hl : left - n < 0
  · have HV : Hid (szvT n left = -1) := hid (if_pos hl)
    go_enter Tryd.func40, Tryd.ntmps40
    go_wp2
    go_ret
    rw [HV.out]
    exact ⟨rfl, rfl⟩
  · have HV : Hid (szvT n left = left - n) := hid (if_neg hl)
    go_enter Tryd.func40, Tryd.ntmps40
    go_wp2
    go_ret
    rw [HV.out]
    exact ⟨rfl, rfl⟩
set_option maxHeartbeats 800000 in
theorem szBoolSS_any (A : Option Addr) (n c B : Nat) (rows : List (List Bool)) (left : Int) (w : World) (h : RTT w B A n rows) (hc : n ≤ c) (hm : c ≤ maxLen) (h0 : 0 ≤ left) (h1 : left ≤ 1048576) :
    Calls Tryd.prog 18 #[.slice A n c, .int .i64 left] w fun e w' => e = .returned (.int .i64 (szSST (rows.map List.length) left)) ∧ w = w' := by
  unfold maxLen at hm
  have HL := hid (RTT.len h)
  obtain ⟨V, HV⟩ : ∃ V, Hid (V = szSST (rows.map List.length) left) := ⟨_, hid rfl⟩
  by_cases hl : left - n < 0
  · have HW : Hid (V = -1) := hid (by rw [HV.out, szSST, if_pos (by rw [List.length_map, HL.out]; exact hl)])
    go_enter Tryd.func18, Tryd.ntmps18
    go_wp2
    go_ret
    rw [← HV.out, HW.out]
    exact ⟨rfl, rfl⟩
  · have HW : Hid (V = szRT (rows.map List.length) (left - n)) := hid (by rw [HV.out, szSST, if_neg (by rw [List.length_map, HL.out]; exact hl), List.length_map, HL.out])
    go_enter Tryd.func18, Tryd.ntmps18
    go_wp2
    go_loop [1, 5] (fun lv i => ∃ (k : Nat) (L : Int), k ≤ n ∧ i = .int .i64 k ∧ lv = .int .i64 L ∧ 0 ≤ L ∧ L ≤ 1048576 ∧ Hid (szRT ((rows.drop k).map List.length) L = V)) (fun _ i => n - (intOf i).toNat)
    case atStart => exact ⟨0, left - n, Nat.zero_le _, rfl, rfl, by omega, by omega, hid HW.out.symm⟩
    case round =>
      obtain ⟨k, L, hk, rfl, rfl, L0, L1, HS⟩ := hrel
      by_cases hlt : k < n
      · obtain ⟨b, o, A', n', c', r, rfl, hb, hx, hcl, hr, hn', hc'⟩ := RTT.at_ h hlt
        have hrl : r.length = n' := RT.len hr
        have hdk : rows.drop k = r :: rows.drop (k + 1) := by
          have hkl := (List.getElem?_eq_some_iff.1 hx)
          rw [List.drop_eq_getElem_cons hkl.1, hkl.2]
        have hs := HS.out
        rw [hdk, List.map_cons, szRT, hrl] at hs
        have hcon := szBoolS_any A' n' c' L w L0 L1 (by omega)
        by_cases hneg : L - n' < 0
        · rw [if_pos hneg] at hs
          rw [szvT, if_pos hneg] at hcon
          have HS' := hid hs
          have HC := hid hcon
          clear hs hcon hdk hrl hx
          go_wp2_with fail
          refine HC.out.mono ?_
          rintro e w1 ⟨rfl, rfl⟩
          go_wp2
          go_ret
          rw [← HV.out, ← HS'.out]
          exact ⟨rfl, rfl⟩
        · rw [if_neg hneg] at hs
          rw [szvT, if_neg hneg] at hcon
          have HS' := hid hs
          have HC := hid hcon
          clear hs hcon hdk hrl hx
          go_wp2_with fail
          refine HC.out.mono ?_
          rintro e w1 ⟨rfl, rfl⟩
          go_wp2
          go_round
          case rel => exact ⟨k + 1, L - n', by omega, by go_num, rfl, by omega, by omega, HS'⟩
          case measure => simp [intOf]; omega
      · have hs := HS.out
        rw [List.drop_eq_nil_of_le (by rw [HL.out]; omega), List.map_nil, szRT] at hs
        have HS' := hid hs
        clear hs
        go_wp2
        go_ret
        rw [← HV.out, HS'.out]
        exact ⟨rfl, rfl⟩

theorem fill_setT {α : Type} (rows : List α) (k n : Nat) (r z : α) (hk : k < n) (hl : rows.length = n) (hr : rows[k]? = some r) :
    (rows.take k ++ List.replicate (n - k) z).set k r = rows.take (k + 1) ++ List.replicate (n - (k + 1)) z := by
  have h1 : (rows.take k).length = k := by rw [List.length_take]; omega
  rw [List.set_append_right _ _ (by omega), h1, Nat.sub_self]
  obtain ⟨m, hm⟩ : ∃ m, n - k = m + 1 := ⟨n - k - 1, by omega⟩
  rw [hm, List.replicate_succ, List.set_cons_zero, take_snoc _ _ _ hr, List.append_assoc]
  have : n - (k + 1) = m := by omega
  rw [this]; rfl
set_option maxHeartbeats 800000 in
theorem toBoolSS_any (A : Option Addr) (n c B : Nat) (rows : List (List Bool)) (w : World) (h : RTT w B A n rows) (hB : B ≤ w.heap.size) (hn : n ≤ 1048576) (hr : ∀ r ∈ rows, r.length ≤ 1048576) :
    Calls Tryd.prog 19 #[.slice A n c] w fun e w' => e = .returned (.slice (some ⟨w.heap.size, 0, none⟩) n n) ∧
      OwnTT w' 26 4 w.heap.size w'.heap.size (some ⟨w.heap.size, 0, none⟩) n n rows ∧ Below w.heap.size w w' := by
  have hmk := run_make_row' (P := Tryd.prog) 23 26 (.slice none 0 0) 24 Tryd.underlying23 infoRowT rfl .i64 .i64 n (by omega) (by omega)
  have HL := hid (RTT.len h)
  have HR := hid hr
  clear hr
  go_enter Tryd.func19, Tryd.ntmps19
  go_wp2
  go_loopw [4] (fun i wr => ∃ (k : Nat), k ≤ n ∧ i = .int .i64 k ∧ OwnTT wr 26 4 w.heap.size wr.heap.size (some ⟨w.heap.size, 0, none⟩) n n (rows.take k ++ List.replicate (n - k) []) ∧ Below w.heap.size w wr)
    (fun i _ => n - (intOf i).toNat)
  case atStart => exact ⟨0, Nat.zero_le _, rfl, by have := OwnVV.made (w := w.alloc (.cells (madeCells #[.slice none 0 0] n) 26)) (n := n) (t := 4) (hi := w.heap.size + 1) (Blk.new w 26 _) (Nat.le_refl _) (Nat.lt_succ_self _) (by unfold maxLen; omega); unfold OwnTT; simpa using this, (Below.refl _ _).alloc (Nat.le_refl _) _⟩
  case round =>
    obtain ⟨k, hk, rfl, hown, hbel⟩ := hrel
    by_cases hlt : k < n
    · obtain ⟨b, o, A', n', c', r, rfl, hb, hx, hcl, hrr, hn', hc'⟩ := RTT.at_ (RVV.below h (hbel.mono hB)) hlt
      have hrl : r.length = n' := RT.len hrr
      have hn2 := HR.out r (List.mem_of_getElem? hx)
      have hcon := toBoolS_any A' n' c' B r wr hrr (Nat.le_trans hB hbel.size) (by omega)
      have HC := hid hcon
      have HX := hid hx
      have HO := hid (And.intro hown hbel)
      clear hcon hx hrl hrr hown hbel
      go_wp2_with fail
      refine HC.out.mono ?_
      rintro e w1 ⟨rfl, hrow, hb1, hs1⟩
      have hown1 := OwnVV.below HO.out.1 hb1 (Nat.le_refl _)
      have hbel1 := HO.out.2.trans (hb1.mono HO.out.2.size)
      obtain ⟨g, he, g1, g2, g3, ⟨u, hcu⟩, hfu, hput⟩ := OwnVV.put hown1 hlt hrow (Nat.le_refl _) (Nat.le_succ _) HO.out.2.size
      injection he with he
      injection he with he
      subst he
      have hbel2 := hbel1.setCell (p := ⟨w.heap.size, k, none⟩) (Nat.le_refl _) (.slice (some ⟨wr.heap.size, 0, none⟩) n' n')
      have H2 := hid (And.intro hput hbel2)
      have HS1 := hid hs1
      clear hput hbel2 hown1 hbel1 hrow hb1 hs1
      go_wp2
      go_roundw
      case rel => exact ⟨k + 1, by omega, by go_num, by
        have h3 := H2.out.1
        have h4 := HS1.out
        unfold OwnTT
        rw [← fill_setT rows k n r [] hlt HL.out HX.out, List.map_set]
        have : (World.setCell w1 ⟨w.heap.size, k, none⟩ (.slice (some ⟨wr.heap.size, 0, none⟩) n' n')).heap.size = wr.heap.size + 1 := by simpa [World.setCell] using h4
        rw [this]
        exact h3, H2.out.2⟩
      case measure => simp [intOf]; omega
    · have hkn : k = n := by omega
      subst hkn
      have HO := hid (And.intro hown hbel)
      clear hown hbel
      go_wp2
      go_ret
      have h3 := HO.out.1
      rw [List.take_of_length_le (by rw [HL.out]; omega), Nat.sub_self, List.replicate_zero, List.append_nil] at h3
      exact ⟨rfl, h3, HO.out.2⟩

set_option maxHeartbeats 800000 in
theorem eqBoolSS_yes (A A' : Option Addr) (n n' c c' B B' : Nat) (rows : List (List Bool)) (w : World) (h : RTT w B A n rows) (h' : RTT w B' A' n' rows) (hn : n ≤ 1000000000) (hr : ∀ r ∈ rows, r.length ≤ 1000000000) :
    Calls Tryd.prog 21 #[.slice A n c, .slice A' n' c'] w fun e w' => e = .returned (.bool true) ∧ ∃ m, w' = w.drewN m := by
  have hnn : n' = n := by rw [← RTT.len h, ← RTT.len h']
  subst hnn
  have hne : ((n' : Int) != (n' : Int)) = false := by simp
  have HR := hid hr
  clear hr
  go_enter Tryd.func21, Tryd.ntmps21
  go_wp2
  go_loopw [5] (fun i wr => ∃ k m : Nat, k ≤ n' ∧ i = .int .i64 k ∧ wr = w.drewN m) (fun i _ => n' - (intOf i).toNat)
  case atStart => exact ⟨0, 0, Nat.zero_le _, rfl, rfl⟩
  case round =>
    obtain ⟨k, m, hk, rfl, rfl⟩ := hrel
    by_cases hlt : k < n'
    · obtain ⟨b, o, A1, n1, c1, r, rfl, hb, hx, hcl, hrr, hn1, hc1⟩ := RTT.at_ h hlt
      obtain ⟨b', o', A2, n2, c2, r2, rfl, hb', hx2, hcl2, hrr2, hn2, hc2⟩ := RTT.at_ h' hlt
      rw [hx] at hx2
      injection hx2 with hx2
      subst hx2
      have hrl := HR.out r (List.mem_of_getElem? hx)
      have hl1 : n1 ≤ 1000000000 := by rw [← RT.len hrr]; exact hrl
      have HC := hid (fun (K : Nat) => eqBoolS_yes A1 A2 n1 n2 c1 c2 B B' r (w.drewN K) hrr hrr2 hl1)
      clear hx hrl hrr hrr2 hl1
      go_wp2
      go_quiet ((go_at_call 42; exact quiet_two HC.out))
      go_wp2
      go_roundw
      case rel => exact ⟨k + 1, _, by omega, by go_num, rfl⟩
      case measure => simp [intOf]; omega
    · go_wp2
      go_ret
      exact ⟨rfl, _, by first | rfl | exact World.drewN_drewN _ _ _⟩
theorem eqBoolSS_same (A A' : Option Addr) (n n' c c' B B' : Nat) (rows : List (List Bool)) (w : World) (h : RTT w B A n rows) (h' : RTT w B' A' n' rows) (hn : rows.length ≤ 1000000000) (hr : ∀ r ∈ rows, r.length ≤ 1000000000) :
    Calls Tryd.prog 21 #[.slice A n c, .slice A' n' c'] w fun e w' => e = .returned (.bool true) ∧ Below w.heap.size w w' :=
  (eqBoolSS_yes A A' n n' c c' B B' rows w h h' (by have := RTT.len h; omega) hr).mono fun _ _ ⟨he, hw⟩ => ⟨he, (Same.of_drewN hw).bel _⟩
end Go.Proofs.YtgccpjhkgkhllaaDoor
