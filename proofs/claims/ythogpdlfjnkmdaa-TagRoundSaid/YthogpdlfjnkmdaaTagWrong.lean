/- What tag.wrong computes. Conditions: as each theorem states. -/
import Derived.Test.YthogpdlfjnkmdaaTagTurn
import Derived.Test.YthogpdlfjnkmdaaPredW
import Derived.Test.YthogpdlfjnkmdaaPred
import Derived.Test.YthogpdlfjnkmdaaFirst
import Derived.Test.YthogpdlfjnkmdaaInside
import Derived.WalkSpells
import Derived.WalkLawsBesides
namespace Go.Proofs.Ythogpdlfjnkmdaa
open Go.ChangeShapes Go.WideShapes Go.ChangeAt Go.RowKit
set_option linter.unusedVariables false
theorem ERg : Elem Try.prog 22 25 1 24 := Elem.of Try.underlying22 (by kernel_rfl : (Try.prog.info? 25).map (fun i => (i.zero, i.size, i.bytes)) = some (some (.slice none 0 0), 1, 24)) rfl (by omega)
set_option maxRecDepth 100000 in
theorem cloneRows_any (A : Option Addr) (m c : Nat) (V : Nat → Value) (hV : ∀ i, (V i).oneCell' = true) (w : World) (h : Rd w A m V) (hm : m ≤ 1000000) :
    Calls Try.prog 16 #[.slice A m c] w fun e w' => ∃ A' c', e = .returned (.slice A' m c') ∧ Own w' w.heap.size 25 1 A' m c' m V ∧ Below w.heap.size w w' := by
  have hnil := fun (W : World) (a : Option Addr) (n c : Nat) => Lib.run_eql_slice_nil (P := Try.prog) W 22 25 a n c 0 0 Try.underlying22
  cases A with
  | none =>
    obtain rfl : m = 0 := by
      rcases Nat.eq_zero_or_pos m with h0 | h0
      · exact h0
      · obtain ⟨b, off, e, _⟩ := h h0; cases e
    go_enter Try.func16, Try.ntmps16
    go_wp2_with fail
    go_ret
    exact ⟨_, _, rfl, Own.nil _ _ _ _ _, Below.refl _ _⟩
  | some a =>
    go_enter Try.func16, Try.ntmps16
    go_wp2_with (at_builtin; refine wpList_app _ rfl (.tmp 5) (.tmp 6) 22 rfl ERg rfl (Own.empty w w.heap.size 25 1 V (Nat.le_refl _)) rfl (l := m) (by omega) (h.alloc _) (fun i _ => hV i) (by unfold maxLen; omega) (by omega) (by simp) m m (by omega) (by omega) ?_; intro A2 c2 w2 hown2 hg2 hat2 hbl2)
    go_ret
    exact ⟨_, _, rfl, hown2.congr (fun i hi => by rw [cat_ge (Nat.zero_le _), Nat.sub_zero]), ((Below.refl w.heap.size w).alloc (Nat.le_refl _) _).trans hbl2⟩
def lnG (R : Nat → SI) (i : Nat) : Bool := decide (8 < ((R i).n : Int))
def outG (S x : Int) : Bool := decide (x < 0 ∨ S ≤ x)
set_option maxRecDepth 100000 in
theorem lenG_any (A : Option Addr) (n c : Nat) (w : World) : Calls Try.prog 15 #[.slice A n c] w fun e w' => e = .returned (.bool (decide (8 < (n : Int)))) ∧ w = w' := by
  go_enter Try.func15, Try.ntmps15
  go_wp2_with fail
  go_ret
  exact ⟨rfl, rfl⟩
set_option maxRecDepth 100000 in
theorem outG_any (S x : Int) (g : Nat) (w : World) (h : w.cell? ⟨g, 0, none⟩ = some (.int .i64 S)) : Calls Try.prog 18 #[.int .i64 x, .pointer (some ⟨g, 0, none⟩)] w fun e w' => e = .returned (.bool (outG S x)) ∧ w = w' := by
  by_cases h1 : x < 0
  · have e1 := Lib.hid (show outG S x = true by unfold outG; rw [decide_eq_true_eq]; exact .inl h1)
    go_enter Try.func18, Try.ntmps18
    go_wp2_with fail
    go_ret
    exact ⟨ret_bool e1.out.symm, rfl⟩
  · by_cases h2 : S ≤ x
    · have e1 := Lib.hid (show outG S x = true by unfold outG; rw [decide_eq_true_eq]; exact .inr h2)
      go_enter Try.func18, Try.ntmps18
      go_wp2_with fail
      go_ret
      exact ⟨ret_bool e1.out.symm, rfl⟩
    · have e1 := Lib.hid (show outG S x = false by unfold outG; rw [decide_eq_false_iff_not]; omega)
      go_enter Try.func18, Try.ntmps18
      go_wp2_with fail
      go_ret
      exact ⟨ret_bool e1.out.symm, rfl⟩
def rowG (S : Int) (s : SI) : Bool := anyB (fun j => outG S (s.f j)) s.n
/-- the rows of a system and, last, a word -/
def RX (R : Nat → SI) (nb : Nat) (X : SI) (i : Nat) : SI := if i < nb then R i else X
theorem anyRX (S : Int) (R : Nat → SI) (nb : Nat) (X : SI) : (anyB (fun i => rowG S (R i)) nb = true ∨ rowG S X = true) ↔ ∃ i, i < nb + 1 ∧ rowG S (RX R nb X i) = true := by
  unfold anyB
  rw [decide_eq_true_eq]
  constructor
  · rintro (⟨i, hi, e⟩ | e)
    · exact ⟨i, by omega, by rw [show RX R nb X i = R i from if_pos hi]; exact e⟩
    · exact ⟨nb, by omega, by rw [show RX R nb X nb = X from if_neg (by omega)]; exact e⟩
  · rintro ⟨i, hi, e⟩
    by_cases h : i < nb
    · exact .inl ⟨i, h, by rw [show RX R nb X i = R i from if_pos h] at e; exact e⟩
    · exact .inr (by rw [show RX R nb X i = X from if_neg h] at e; exact e)
theorem rd_one (W : World) (v : Value) (e : TypeId) {K : Nat} (hK : W.heap.size = K) : Rd (W.alloc (.cells #[v] e)) (some ⟨K, 0, none⟩) 1 (fun _ => v) := by
  subst hK
  exact fun _ => ⟨W.heap.size, 0, rfl, by simp, fun i hi => by
    obtain rfl : i = 0 := by omega
    rw [cell_of_row _ W.heap.size (0 + 0) #[v] e (0, 0) (heap_alloc_new W _)]; rfl⟩
/-- what is wrong with a system of tags and a word -/
def tgE (S D : Int) (nb : Nat) (R : Nat → SI) (X : SI) : Int :=
  if S < 1 ∨ 4 < S ∨ D < 1 ∨ 4 < D ∨ 40 < (X.n : Int) ∨ anyB (lnG R) nb = true then 1 else if (nb : Int) ≠ S then 3 else if anyB (fun i => rowG S (R i)) nb = true ∨ rowG S X = true then 2 else 0
set_option maxRecDepth 100000 in
set_option maxHeartbeats 4000000 in
theorem tagWrong_any (S D : Int) (B : Option Addr) (nb cb : Nat) (R : Nat → SI) (X : SI) (w : World) (hB : Rd w B nb (fun i => (R i).val)) (hR : ∀ i, i < nb → Rd w (R i).A (R i).n (fun j => .int .i64 ((R i).f j)) ∧ (R i).n ≤ maxLen) (hX : Rd w X.A X.n (fun j => .int .i64 (X.f j))) (hn : nb ≤ maxLen) (hXn : X.n ≤ maxLen) :
    Calls Try.prog 9 #[.int .i64 S, .agg #[.int .i64 D, .slice B nb cb], .slice X.A X.n X.c] w fun e w' => e = .returned (.int .i64 (tgE S D nb R X)) ∧ Below w.heap.size w w' := by
  have HB := Lib.hid hB
  have HR := Lib.hid hR
  have HX := Lib.hid hX
  have HN := Lib.hid hn
  have HXN := Lib.hid hXn
  have hxm := hXn
  unfold maxLen at hxm
  clear hB hR hX hn hXn
  obtain ⟨XA, Xn, Xc, Xf⟩ := X
  have hxm2 : Xn ≤ 2 ^ 63 - 1 := hxm
  show Calls Try.prog 9 #[.int .i64 S, .agg #[.int .i64 D, .slice B nb cb], .slice XA Xn Xc] w fun e w' => e = .returned (.int .i64 (tgE S D nb R ⟨XA, Xn, Xc, Xf⟩)) ∧ Below w.heap.size w w'
  have HB2 := Lib.hid (((Below.refl w.heap.size w).alloc (Nat.le_refl _) (.cells #[.int .i64 S] 3)).alloc (by simp) (.cells #[.int .i64 D, .slice B nb cb] 24))
  clear hxm
  by_cases h1 : S < 1 ∨ 4 < S ∨ D < 1 ∨ 4 < D ∨ 40 < (Xn : Int)
  · have HE : Hid (tgE S D nb R ⟨XA, Xn, Xc, Xf⟩ = 1) := Lib.hid (if_pos (by rcases h1 with h | h | h | h | h <;> simp [h]))
    by_cases a1 : S < 1
    · go_enter Try.func9, Try.ntmps9
      go_wp2_with fail
      go_ret
      exact ⟨ret_int HE.out.symm, HB2.out⟩
    · by_cases a2 : 4 < S
      · go_enter Try.func9, Try.ntmps9
        go_wp2_with fail
        go_ret
        exact ⟨ret_int HE.out.symm, HB2.out⟩
      · by_cases a3 : D < 1
        · go_enter Try.func9, Try.ntmps9
          go_wp2_with fail
          go_ret
          exact ⟨ret_int HE.out.symm, HB2.out⟩
        · by_cases a4 : 4 < D
          · go_enter Try.func9, Try.ntmps9
            go_wp2_with fail
            go_ret
            exact ⟨ret_int HE.out.symm, HB2.out⟩
          · have a5 : 40 < (Xn : Int) := by omega
            clear h1
            go_enter Try.func9, Try.ntmps9
            go_wp2_with fail
            go_ret
            exact ⟨ret_int HE.out.symm, HB2.out⟩
  · have g1 : 1 ≤ S := by omega
    have g2 : S ≤ 4 := by omega
    have g3 : 1 ≤ D := by omega
    have g4 : D ≤ 4 := by omega
    have g5 : Xn ≤ 40 := by omega
    have HE0 : Hid (tgE S D nb R ⟨XA, Xn, Xc, Xf⟩ = if anyB (lnG R) nb = true then 1 else if (nb : Int) ≠ S then 3 else if anyB (fun i => rowG S (R i)) nb = true ∨ rowG S ⟨XA, Xn, Xc, Xf⟩ = true then 2 else 0) := Lib.hid (by
      unfold tgE
      by_cases e : anyB (lnG R) nb = true
      · rw [if_pos (by simp [e]), if_pos e]
      · rw [if_neg (by intro h; rcases h with h | h | h | h | h | h <;> first | exact h1 (by simp [h]) | exact e h | omega), if_neg e])
    clear h1
    have CL : ∀ W, Below w.heap.size w W → Calls Try.prog 14 #[.slice B nb cb, .func (.func 15) #[] #[]] W fun e w' => e = .returned (.bool (anyB (lnG R) nb)) ∧ W = w' := fun W hW =>
      containsW_any 15 #[] B nb cb (fun i => (R i).val) (lnG R) W (HB.out.below hW) HN.out (fun _ _ => rfl) (fun i hi => lenG_any _ _ _ _)
    have HCL := Lib.hid CL
    clear CL
    go_enter Try.func9, Try.ntmps9
    go_wp2_with fail
    refine (HCL.out _ HB2.out).mono ?_
    rintro e w' ⟨rfl, rfl⟩
    cases hl : anyB (lnG R) nb with
    | true =>
      have HE : Hid (tgE S D nb R ⟨XA, Xn, Xc, Xf⟩ = 1) := Lib.hid (by rw [HE0.out, if_pos hl])
      clear hl
      go_wp2_with fail
      go_ret
      exact ⟨ret_int HE.out.symm, HB2.out⟩
    | false =>
      have HL := Lib.hid hl
      clear hl
      by_cases hs : (nb : Int) = S
      · subst hs
        have HE1 : Hid (tgE (nb : Int) D nb R ⟨XA, Xn, Xc, Xf⟩ = if anyB (fun i => rowG (nb : Int) (R i)) nb = true ∨ rowG (nb : Int) ⟨XA, Xn, Xc, Xf⟩ = true then 2 else 0) := Lib.hid (by rw [HE0.out, HL.out, if_neg (by simp), if_neg (by simp)])
        clear HE0
        go_wp2_with fail
        refine (cloneRows_any B nb cb (fun i => (R i).val) (fun _ => rfl) _ (HB.out.below HB2.out) (by omega)).mono ?_
        rintro e w1 ⟨A1, c1, rfl, hown1, hbl1⟩
        have HB3 := Lib.hid (HB2.out.trans (hbl1.mono (by simp <;> omega)))
        go_wp2_with (at_builtin; refine wpList_app _ rfl (.tmp 42) (.tmp 44) 22 rfl ERg rfl (hown1.alloc _) rfl (l := 1) (by omega) (rd_one _ _ _ rfl) (fun _ _ => rfl) (by unfold maxLen; omega) (by omega) (by have := hbl1.size; simp at this ⊢; omega) (nb + 1) (nb + 1) rfl rfl ?_; intro A2 c2 w2 hown2 hg2 hat2 hbl2)
        have hb3 := ((hbl1.alloc (by have := hbl1.size; simp at this ⊢; omega) _).trans hbl2)
        have hv2 : Rd w2 A2 (nb + 1) (fun i => (RX R nb ⟨XA, Xn, Xc, Xf⟩ i).val) := (hown2.congr (fun i hi => by
          by_cases h : i < nb
          · rw [cat_lt h, show RX R nb ⟨XA, Xn, Xc, Xf⟩ i = R i from if_pos h]
          · rw [cat_ge (by omega), show RX R nb ⟨XA, Xn, Xc, Xf⟩ i = _ from if_neg h]; rfl)).rd
        have hcell : w2.cell? ⟨w.heap.size, 0, none⟩ = some (.int .i64 (nb : Int)) := by
          rw [hb3.cell (by simp <;> omega)]
          rw [(Below.refl _ (w.alloc (.cells #[.int .i64 (nb : Int)] 3))).alloc (Nat.le_refl _) _ |>.cell (by simp <;> omega), cell_of_row _ w.heap.size 0 #[.int .i64 (nb : Int)] 3 (0, 0) (heap_alloc_new w _)]; rfl
        have hbw := HB2.out.trans (hb3.mono (by simp <;> omega))
        have hrr : ∀ i, i < nb + 1 → Rd w2 (RX R nb ⟨XA, Xn, Xc, Xf⟩ i).A (RX R nb ⟨XA, Xn, Xc, Xf⟩ i).n (fun j => .int .i64 ((RX R nb ⟨XA, Xn, Xc, Xf⟩ i).f j)) ∧ (RX R nb ⟨XA, Xn, Xc, Xf⟩ i).n ≤ maxLen := fun i hi => by
          by_cases h : i < nb
          · rw [show RX R nb ⟨XA, Xn, Xc, Xf⟩ i = R i from if_pos h]
            exact ⟨(HR.out i h).1.below hbw, (HR.out i h).2⟩
          · rw [show RX R nb ⟨XA, Xn, Xc, Xf⟩ i = _ from if_neg h]
            exact ⟨HX.out.below hbw, HXN.out⟩
        have HV := Lib.hid hv2
        have HRR := Lib.hid hrr
        have HC := Lib.hid hcell
        have HBW := Lib.hid hbw
        clear hv2 hrr hcell hbw hb3 hown2 hg2 hat2 hbl2 hown1 hbl1 HB3
        have HCP : Hid (∀ i, i < nb + 1 → Calls Try.prog 17 #[(RX R nb ⟨XA, Xn, Xc, Xf⟩ i).val, .func (.func 18) #[] #[.pointer (some ⟨w.heap.size, 0, none⟩)]] w2 fun e w' => e = .returned (.bool (rowG (nb : Int) (RX R nb ⟨XA, Xn, Xc, Xf⟩ i))) ∧ w2 = w') := Lib.hid fun i hi =>
          containsP_any 18 #[.pointer (some ⟨w.heap.size, 0, none⟩)] _ _ _ (RX R nb ⟨XA, Xn, Xc, Xf⟩ i).f (fun j => outG (nb : Int) ((RX R nb ⟨XA, Xn, Xc, Xf⟩ i).f j)) w2 (HRR.out i hi).1 (HRR.out i hi).2 (fun _ _ => rfl) (fun j hj => outG_any _ _ _ _ HC.out)
        go_loop [47] (fun s47 => ∃ i : Nat, i ≤ nb + 1 ∧ s47 = .int .i64 (i : Nat) ∧ Hid (∀ j, j < i → rowG (nb : Int) (RX R nb ⟨XA, Xn, Xc, Xf⟩ j) = false)) (fun s47 => nb + 1 - (intOf s47).toNat)
        case atStart => exact ⟨0, Nat.zero_le _, rfl, Lib.hid (fun _ h => absurd h (by omega))⟩
        case round =>
          obtain ⟨i, hi, rfl, hall⟩ := hrel
          by_cases hlt : i < nb + 1
          · obtain ⟨b, off, rfl, hb, hc⟩ := HV.out.at_ hlt
            have hcp := HCP.out i hlt
            obtain ⟨rn, hrn⟩ : ∃ x, x = (RX R nb ⟨XA, Xn, Xc, Xf⟩ i).n := ⟨_, rfl⟩
            obtain ⟨rc, hrc⟩ : ∃ x, x = (RX R nb ⟨XA, Xn, Xc, Xf⟩ i).c := ⟨_, rfl⟩
            obtain ⟨rA, hrA⟩ : ∃ x, x = (RX R nb ⟨XA, Xn, Xc, Xf⟩ i).A := ⟨_, rfl⟩
            have hval : (RX R nb ⟨XA, Xn, Xc, Xf⟩ i).val = .slice rA rn rc := by rw [hrn, hrc, hrA]; rfl
            have hc2 : w2.cell? ⟨b, off + i, none⟩ = some (.slice rA rn rc) := by rw [hc, hval]
            rw [hval] at hcp
            have HCQ := Lib.hid hcp
            clear hc hrn hrc hrA hval hcp
            cases hq : rowG (nb : Int) (RX R nb ⟨XA, Xn, Xc, Xf⟩ i) with
            | true =>
              have HE : Hid (tgE (nb : Int) D nb R ⟨XA, Xn, Xc, Xf⟩ = 2) := Lib.hid (by rw [HE1.out, if_pos ((anyRX _ _ _ _).mpr ⟨i, hlt, hq⟩)])
              rw [hq] at HCQ
              clear hq
              go_wp2_with fail
              refine HCQ.out.mono ?_
              rintro e w' ⟨rfl, rfl⟩
              go_wp2_with fail
              go_ret
              exact ⟨ret_int HE.out.symm, HBW.out⟩
            | false =>
              have HQ := Lib.hid hq
              rw [hq] at HCQ
              clear hq
              go_wp2_with fail
              refine HCQ.out.mono ?_
              rintro e w' ⟨rfl, rfl⟩
              go_wp2_with fail
              go_round
              case rel => exact ⟨i + 1, by omega, by go_num, Lib.hid fun j hj => by
                by_cases e : j = i
                · rw [e]; exact HQ.out
                · exact hall.out j (by omega)⟩
              case measure => simp [intOf]; omega
          · obtain rfl : i = nb + 1 := by omega
            have HE : Hid (tgE (nb : Int) D nb R ⟨XA, Xn, Xc, Xf⟩ = 0) := Lib.hid (by
              rw [HE1.out, if_neg]
              intro h
              obtain ⟨j, hj, e⟩ := (anyRX _ _ _ _).mp h
              rw [hall.out j hj] at e; cases e)
            go_wp2_with fail
            go_ret
            exact ⟨ret_int HE.out.symm, HBW.out⟩
      · have HE : Hid (tgE S D nb R ⟨XA, Xn, Xc, Xf⟩ = 3) := Lib.hid (by rw [HE0.out, HL.out, if_neg (by simp), if_pos hs])
        have hq : ((nb : Int) != S) = true := by rw [bne_iff_ne]; exact hs
        clear hs
        go_wp2_with fail
        go_ret
        exact ⟨ret_int HE.out.symm, HB2.out⟩
end Go.Proofs.Ythogpdlfjnkmdaa
