/- What half.wrong and the references say of a graph. Condition: the rows read as told. -/
import Derived.Test.YtnkgdcaojfoanaaConcat
import Derived.Test.YtnkgdcaojfoanaaPredW
import Derived.Test.YtnkgdcaojfoanaaInside
import Derived.Test.YtnkgdcaojfoanaaHalfLaw
import Derived.WalkSpells
namespace Go.Proofs.Ytnkgdcaojfoanaa
open Go.ChangeShapes Go.WideShapes Go.ChangeAt Go.RowKit
set_option linter.unusedVariables false
set_option linter.unusedSimpArgs false
def lnH (R : Nat → SI) (i : Nat) : Bool := decide (4 < ((R i).n : Int))
def outH (n x : Int) : Bool := decide (x < 0 ∨ n ≤ x)
def rowH (n : Int) (s : SI) : Bool := anyB (fun j => outH n (s.f j)) s.n
def hwE (n : Nat) (R : Nat → SI) (m : Nat) (D : Nat → Int) : Int :=
  if n < 1 ∨ 8 < n ∨ anyB (lnH R) n = true then 1 else if anyB (fun i => rowH n (R i)) n = true ∨ anyB (fun j => outH n (D j)) m = true then 2 else 0
/-- a graph that lies in the world -/
def Gr (w : World) (A : Option Addr) (n : Nat) (R : Nat → SI) : Prop := Rd w A n (fun i => (R i).val) ∧ ∀ i, i < n → (R i).good w
theorem Gr.below {w w' : World} {A : Option Addr} {n : Nat} {R : Nat → SI} (h : Gr w A n R) (hb : Below w.heap.size w w') : Gr w' A n R := ⟨h.1.below hb, fun i hi => (h.2 i hi).below hb⟩
theorem hwE_zero {n m : Nat} {R : Nat → SI} {D : Nat → Int} (h : hwE n R m D = 0) : (1 ≤ n ∧ n ≤ 8) ∧ (∀ i, i < n → (R i).n ≤ 4) ∧ (∀ i, i < n → ∀ q, q < (R i).n → 0 ≤ (R i).f q ∧ (R i).f q < (n : Int)) ∧ ∀ q, q < m → 0 ≤ D q ∧ D q < (n : Int) := by
  unfold hwE at h
  by_cases c1 : n < 1 ∨ 8 < n ∨ anyB (lnH R) n = true
  · rw [if_pos c1] at h; omega
  rw [if_neg c1] at h
  by_cases c2 : anyB (fun i => rowH n (R i)) n = true ∨ anyB (fun j => outH n (D j)) m = true
  · rw [if_pos c2] at h; omega
  have h1 : anyB (lnH R) n = false := by cases e : anyB (lnH R) n; rfl; exact absurd (.inr (.inr e)) c1
  have h2 : anyB (fun i => rowH n (R i)) n = false := by cases e : anyB (fun i => rowH n (R i)) n; rfl; exact absurd (.inl e) c2
  have h3 : anyB (fun j => outH n (D j)) m = false := by cases e : anyB (fun j => outH n (D j)) m; rfl; exact absurd (.inr e) c2
  refine ⟨by omega, fun i hi => ?_, fun i hi q hq => ?_, fun q hq => ?_⟩
  · have := of_decide_eq_false (anyB_false.1 h1 i hi); omega
  · have := of_decide_eq_false (anyB_false.1 (anyB_false.1 h2 i hi) q hq); omega
  · have := of_decide_eq_false (anyB_false.1 h3 q hq); omega
/-- the numbers of the first i rows, one row behind the other -/
def ccI (R : Nat → SI) : Nat → Nat → Int
  | 0 => fun _ => 0
  | i + 1 => fun q => if q < szR R i then ccI R i q else (R i).f (q - szR R i)
theorem ccI_eq (R : Nat → SI) : ∀ i q, ccR R i q = .int .i64 (ccI R i q)
  | 0, _ => rfl
  | i + 1, q => by
    simp only [ccR, ccI]
    unfold cat
    split
    · exact ccI_eq R i q
    · rfl
theorem any_cc (p : Int → Bool) (R : Nat → SI) : ∀ n, anyB (fun q => p (ccI R n q)) (szR R n) = anyB (fun i => anyB (fun j => p ((R i).f j)) (R i).n) n
  | 0 => rfl
  | n + 1 => by
    have ih := any_cc p R n
    rw [Bool.eq_iff_iff, anyB_iff, anyB_iff] at ih ⊢
    constructor
    · rintro ⟨q, hq, hp⟩
      simp only [ccI] at hp
      by_cases h : q < szR R n
      · rw [if_pos h] at hp
        obtain ⟨i, hi, h1⟩ := ih.1 ⟨q, h, hp⟩
        exact ⟨i, by omega, h1⟩
      · rw [if_neg h] at hp
        exact ⟨n, by omega, anyB_iff.2 ⟨q - szR R n, by simp only [szR] at hq; omega, hp⟩⟩
    · rintro ⟨i, hi, hp⟩
      by_cases e : i = n
      · subst e
        obtain ⟨j, hj, h1⟩ := anyB_iff.1 hp
        refine ⟨szR R i + j, by simp only [szR]; omega, ?_⟩
        simp only [ccI]
        rw [if_neg (by omega), show szR R i + j - szR R i = j by omega]; exact h1
      · obtain ⟨q, hq, h1⟩ := ih.2 ⟨i, by omega, hp⟩
        refine ⟨q, by simp only [szR]; omega, ?_⟩
        simp only [ccI]
        rw [if_pos hq]; exact h1
theorem szR_4 {R : Nat → SI} : ∀ {n : Nat}, (∀ i, i < n → (R i).n ≤ 4) → szR R n ≤ 4 * n
  | 0, _ => Nat.le_refl _
  | n + 1, h => by
    have := szR_4 (n := n) fun i hi => h i (by omega)
    have := h n (by omega)
    simp only [szR]; omega
def b2x (v0 v1 : Value) (q : Nat) : Value := if q = 0 then v0 else v1
theorem b2x_rd (W : World) (N : Nat) (hN : W.heap.size = N) (v0 v1 : Value) (e : TypeId) : Rd (W.alloc (.cells #[v0, v1] e)) (some ⟨N, 0, none⟩) 2 (b2x v0 v1) := by
  subst hN
  exact fun _ => ⟨W.heap.size, 0, rfl, by simp, fun i hi => by
    rw [cell_of_row _ W.heap.size (0 + i) #[v0, v1] e (0, 0) (heap_alloc_new W _)]
    match i, hi with
    | 0, _ => rfl
    | 1, _ => rfl⟩
set_option maxRecDepth 100000 in
theorem lenH_any (A : Option Addr) (n c : Nat) (w : World) : Calls Try.prog 21 #[.slice A n c] w fun e w' => e = .returned (.bool (decide (4 < (n : Int)))) ∧ w = w' := by
  go_enter Try.func21, Try.ntmps21
  go_wp2_with fail
  go_ret
  exact ⟨rfl, rfl⟩
set_option maxRecDepth 100000 in
theorem outH_any (S x : Int) (g : Nat) (w : World) (h : w.cell? ⟨g, 0, none⟩ = some (.int .i64 S)) : Calls Try.prog 24 #[.int .i64 x, .pointer (some ⟨g, 0, none⟩)] w fun e w' => e = .returned (.bool (outH S x)) ∧ w = w' := by
  by_cases h1 : x < 0
  · have e1 := Lib.hid (show outH S x = true by unfold outH; rw [decide_eq_true_eq]; exact .inl h1)
    go_enter Try.func24, Try.ntmps24
    go_wp2_with fail
    go_ret
    exact ⟨ret_bool e1.out.symm, rfl⟩
  · by_cases h2 : S ≤ x
    · have e1 := Lib.hid (show outH S x = true by unfold outH; rw [decide_eq_true_eq]; exact .inr h2)
      go_enter Try.func24, Try.ntmps24
      go_wp2_with fail
      go_ret
      exact ⟨ret_bool e1.out.symm, rfl⟩
    · have e1 := Lib.hid (show outH S x = false by unfold outH; rw [decide_eq_false_iff_not]; omega)
      go_enter Try.func24, Try.ntmps24
      go_wp2_with fail
      go_ret
      exact ⟨ret_bool e1.out.symm, rfl⟩
set_option maxRecDepth 100000 in
set_option maxHeartbeats 2000000 in
theorem halfWrong_any (A : Option Addr) (n c : Nat) (R : Nat → SI) (DA : Option Addr) (m dc : Nat) (D : Nat → Int) (w : World) (h : Gr w A n R) (hD : Rd w DA m (fun i => .int .i64 (D i))) (hn : n ≤ maxLen) (hm : m ≤ 1000) :
    Calls Try.prog 14 #[.slice A n c, .slice DA m dc] w fun e w' => e = .returned (.int .i64 (hwE n R m D)) ∧ Below w.heap.size w w' := by
  have H := Lib.hid h
  have HD := Lib.hid hD
  have HN := Lib.hid hn
  have hnx := hn
  unfold maxLen at hnx
  have HB1 : Hid (Below w.heap.size w (w.alloc (.cells #[.int .i64 (n : Nat)] 3))) := Lib.hid ((Below.refl w.heap.size w).alloc (Nat.le_refl _) (.cells #[.int .i64 (n : Nat)] 3))
  clear h hD hn
  by_cases h1 : n < 1
  · have HE : Hid (hwE n R m D = 1) := Lib.hid (if_pos (.inl h1))
    go_enter Try.func14, Try.ntmps14
    go_wp2_with fail
    go_ret
    exact ⟨ret_int HE.out.symm, HB1.out⟩
  by_cases h2 : 8 < n
  · have HE : Hid (hwE n R m D = 1) := Lib.hid (if_pos (.inr (.inl h2)))
    go_enter Try.func14, Try.ntmps14
    go_wp2_with fail
    go_ret
    exact ⟨ret_int HE.out.symm, HB1.out⟩
  have hcl := containsW_any 21 #[] A n c (fun i => (R i).val) (lnH R) (w.alloc (.cells #[.int .i64 (n : Nat)] 3)) (H.out.below HB1.out).1 HN.out (fun _ _ => rfl) (fun i hi => lenH_any _ _ _ _)
  have HCL := Lib.hid hcl
  clear hcl
  go_enter Try.func14, Try.ntmps14
  go_wp2_with fail
  refine HCL.out.mono ?_
  rintro e w' ⟨rfl, rfl⟩
  clear HCL
  cases hl : anyB (lnH R) n with
  | true =>
    have HE : Hid (hwE n R m D = 1) := Lib.hid (if_pos (.inr (.inr hl)))
    clear hl
    go_wp2_with fail
    go_ret
    exact ⟨ret_int HE.out.symm, HB1.out⟩
  | false =>
    have HE : Hid (hwE n R m D = if anyB (fun i => rowH n (R i)) n = true ∨ anyB (fun j => outH n (D j)) m = true then 2 else 0) := Lib.hid (if_neg (by rw [hl]; simp; omega))
    have h4 : ∀ i, i < n → (R i).n ≤ 4 := fun i hi => by have := of_decide_eq_false (anyB_false.1 hl i hi); omega
    have hs := szR_4 h4
    obtain ⟨W1, hW1⟩ : ∃ W, W = w.alloc (.cells #[.int .i64 (n : Nat)] 3) := ⟨_, rfl⟩
    have hcell : W1.cell? ⟨w.heap.size, 0, none⟩ = some (.int .i64 (n : Nat)) := by rw [hW1]; simp
    have hz1 : W1.heap.size = w.heap.size + 1 := by rw [hW1]; simp
    rw [← hW1] at HB1
    have HC1 := Lib.hid hcell
    have HZ1 := Lib.hid hz1
    have HW1 := Lib.hid hW1
    clear hl h4 hcell hz1 hW1
    go_wp2_with fail
    rw [← HW1.out]
    refine (concat_any A n c R W1 (H.out.below HB1.out).1 (fun i hi => ((H.out.below HB1.out).2 i hi).1) (by omega) (by omega)).mono ?_
    rintro e w1 ⟨⟨A1, c1, rfl, hown⟩, hb1⟩
    obtain ⟨z, hz⟩ : ∃ z, z = szR R n := ⟨_, rfl⟩
    rw [← hz] at hown hs ⊢
    obtain ⟨W2, hW2⟩ : ∃ W, W = w1.alloc (.cells #[.slice A1 z c1, .slice DA m dc] 23) := ⟨_, rfl⟩
    have hbA : Below w1.heap.size w1 W2 := by rw [hW2]; exact (Below.refl _ _).alloc (Nat.le_refl _) _
    have hb12 : Below W1.heap.size W1 W2 := hb1.trans (hbA.mono hb1.size)
    have HB2 : Hid (Below w.heap.size w W2) := Lib.hid (HB1.out.trans (hb12.mono HB1.out.size))
    have hrw : Rd W2 (some ⟨w1.heap.size, 0, none⟩) 2 (b2x (.slice A1 z c1) (.slice DA m dc)) := by rw [hW2]; exact b2x_rd w1 _ rfl _ _ _
    have hr0 : Rd W2 A1 z (fun j => .int .i64 (ccI R n j)) := (hown.rd.below hbA).congr fun q _ => ccI_eq R n q
    have hr1 := HD.out.below HB2.out
    have hc2 : W2.cell? ⟨w.heap.size, 0, none⟩ = some (.int .i64 (n : Nat)) := (hb12.cell (p := ⟨w.heap.size, 0, none⟩) (by rw [HZ1.out]; exact Nat.lt_succ_self _)).trans HC1.out
    have HRW := Lib.hid hrw
    have HR0 := Lib.hid hr0
    have HR1 := Lib.hid hr1
    have HC2 := Lib.hid hc2
    have HZ := Lib.hid hz
    have HW2 := Lib.hid hW2
    have HS2 : Hid (w.heap.size < W2.heap.size) := Lib.hid (by have := hb12.size; have := HZ1.out; omega)
    clear hown hb1 hbA hb12 hrw hr0 hr1 hc2 hz hW2
    go_wp2_with fail
    rw [← HW2.out]
    obtain ⟨R2, hR2⟩ : ∃ R2 : Nat → SI, R2 = fun i => if i = 0 then (⟨A1, z, c1, ccI R n⟩ : SI) else ⟨DA, m, dc, D⟩ := ⟨_, rfl⟩
    have e0 : R2 0 = ⟨A1, z, c1, ccI R n⟩ := by rw [hR2]; rfl
    have e1 : R2 1 = ⟨DA, m, dc, D⟩ := by rw [hR2]; rfl
    have hsz2 : szR R2 2 = z + m := by simp only [szR]; rw [e0, e1]; simp
    refine (concat_any (some ⟨w1.heap.size, 0, none⟩) 2 2 R2 W2 (HRW.out.congr fun q hq => by
      match q, hq with
      | 0, _ => rw [e0]; rfl
      | 1, _ => rw [e1]; rfl) (fun i hi => by
      match i, hi with
      | 0, _ => rw [e0]; exact HR0.out
      | 1, _ => rw [e1]; exact HR1.out) (by omega) (by rw [hsz2]; omega)).mono ?_
    rintro e w3 ⟨⟨A3, c3, rfl, hown3⟩, hb3⟩
    have hany : anyB (fun q => outH n (ccI R2 2 q)) (szR R2 2) = (anyB (fun i => rowH n (R i)) n || anyB (fun j => outH n (D j)) m) := by
      rw [any_cc (outH n) R2 2, Bool.eq_iff_iff, anyB_iff, Bool.or_eq_true]
      have h0 : anyB (fun j => outH n ((R2 0).f j)) (R2 0).n = anyB (fun i => rowH n (R i)) n := by rw [e0]; show anyB (fun j => outH n (ccI R n j)) z = _; rw [HZ.out]; exact any_cc (outH n) R n
      have h1 : anyB (fun j => outH n ((R2 1).f j)) (R2 1).n = anyB (fun j => outH n (D j)) m := by rw [e1]
      rw [← h0, ← h1]
      constructor
      · rintro ⟨i, hi, hp⟩
        match i, hi with
        | 0, _ => exact .inl hp
        | 1, _ => exact .inr hp
      · rintro (hp | hp)
        · exact ⟨0, by omega, hp⟩
        · exact ⟨1, by omega, hp⟩
    have hcc := containsP_any 24 #[.pointer (some ⟨w.heap.size, 0, none⟩)] A3 (szR R2 2) c3 (ccI R2 2) (fun q => outH n (ccI R2 2 q)) w3 (hown3.rd.congr fun q _ => ccI_eq R2 2 q) (by rw [hsz2]; unfold maxLen; omega) (fun _ _ => rfl) (fun i hi => outH_any _ _ _ _ ((hb3.cell (p := ⟨w.heap.size, 0, none⟩) HS2.out).trans HC2.out))
    rw [hany] at hcc
    have HCC := Lib.hid hcc
    have HB3 := Lib.hid (HB2.out.trans (hb3.mono HB2.out.size))
    obtain ⟨z2, hz2⟩ : ∃ z2, z2 = szR R2 2 := ⟨_, rfl⟩
    rw [← hz2] at HCC ⊢
    clear hcc hany hsz2 e0 e1 hR2 hown3 hb3 hz2
    go_wp2_with fail
    refine HCC.out.mono ?_
    rintro e w4 ⟨rfl, rfl⟩
    clear HCC
    cases h3 : anyB (fun i => rowH n (R i)) n with
    | true =>
      have HE2 : Hid (hwE n R m D = 2) := Lib.hid (by rw [HE.out, if_pos (.inl h3)])
      clear h3
      go_wp2_with fail
      go_ret
      exact ⟨ret_int HE2.out.symm, HB3.out⟩
    | false =>
      cases h4 : anyB (fun j => outH n (D j)) m with
      | true =>
        have HE2 : Hid (hwE n R m D = 2) := Lib.hid (by rw [HE.out, if_pos (.inr h4)])
        clear h3 h4
        go_wp2_with fail
        go_ret
        exact ⟨ret_int HE2.out.symm, HB3.out⟩
      | false =>
        have HE2 : Hid (hwE n R m D = 0) := Lib.hid (by rw [HE.out, if_neg (by rw [h3, h4]; simp)])
        clear h3 h4
        go_wp2_with fail
        go_ret
        exact ⟨ret_int HE2.out.symm, HB3.out⟩
theorem ins_rowH {n : Int} {s : SI} : insB n s.n s.f = !(rowH n s) := by
  unfold rowH
  cases h : anyB (fun j => outH n (s.f j)) s.n
  · rw [Bool.not_false, insB_iff]
    intro i hi
    have := of_decide_eq_false (anyB_false.1 h i hi); omega
  · obtain ⟨i, hi, h1⟩ := anyB_iff.1 h
    exact insB_no hi (by have := of_decide_eq_true h1; omega)
set_option maxRecDepth 100000 in
set_option maxHeartbeats 1000000 in
theorem nexts_any (A : Option Addr) (n c : Nat) (R : Nat → SI) (DA : Option Addr) (m dc : Nat) (D : Nat → Int) (w : World) (h : Gr w A n R) (hD : Rd w DA m (fun i => .int .i64 (D i))) (hn : n ≤ maxLen) (hm : m ≤ 1000) :
    Calls Try.prog 16 #[.slice A n c, .slice DA m dc] w fun e w' => e = .returned (.int .i64 (hwE n R m D)) ∧ w = w' := by
  have H := Lib.hid h
  have HD := Lib.hid hD
  have HN := Lib.hid hn
  have hnx := hn
  unfold maxLen at hnx
  clear h hD hn
  by_cases hw : n < 1 ∨ 8 < n
  · have HE : Hid (hwE n R m D = 1) := Lib.hid (if_pos (by rcases hw with h | h; exact .inl h; exact .inr (.inl h)))
    have hin : inB 1 (n : Int) 8 = false := inB_no (by omega)
    have HIN := Lib.hid hin
    clear hin
    go_enter Try.func16, Try.ntmps16
    go_wp2_with fail
    refine (within_any 1 n 8 w).mono ?_
    rintro e w' ⟨rfl, rfl⟩
    rw [HIN.out]
    go_wp2_with fail
    go_ret
    exact ⟨ret_int HE.out.symm, rfl⟩
  have n1 : 1 ≤ n := by omega
  have n8 : n ≤ 8 := by omega
  have HE : Hid (hwE n R m D = if anyB (lnH R) n = true then 1 else if anyB (fun i => rowH n (R i)) n = true ∨ anyB (fun j => outH n (D j)) m = true then 2 else 0) := Lib.hid (by
    unfold hwE
    by_cases e : anyB (lnH R) n = true
    · rw [if_pos (.inr (.inr e)), if_pos e]
    · rw [if_neg (by rintro (a | a | a); exact hw (.inl a); exact hw (.inr a); exact e a), if_neg e])
  have hin : inB 1 (n : Int) 8 = true := inB_yes (by omega) (by omega)
  have HIN := Lib.hid hin
  clear hin hw
  go_enter Try.func16, Try.ntmps16
  go_wp2_with fail
  refine (within_any 1 n 8 w).mono ?_
  rintro e w' ⟨rfl, rfl⟩
  rw [HIN.out]
  go_wp2_with fail
  go_loop [15] (fun s15 => ∃ i : Nat, i ≤ n ∧ s15 = .int .i64 (i : Nat) ∧ Hid (∀ j, j < i → lnH R j = false)) (fun s15 => n - (intOf s15).toNat)
  case atStart => exact ⟨0, Nat.zero_le _, rfl, Lib.hid (fun _ h => absurd h (Nat.not_lt_zero _))⟩
  case round =>
    obtain ⟨i, hi, rfl, HALL⟩ := hrel
    by_cases hlt : i < n
    · obtain ⟨b, off, rfl, hb, hc⟩ := H.out.1.at_ hlt
      obtain ⟨y, hy⟩ : ∃ y, y = R i := ⟨_, rfl⟩
      rw [← hy] at hc
      have hyl : y.n ≤ 9223372036854775807 := by have h1 := (H.out.2 i hlt).2.2; rw [← hy] at h1; unfold maxLen at h1; omega
      have HY := Lib.hid hy
      obtain ⟨ya, yn, yc, yf⟩ := y
      have hc' : w.cell? ⟨b, off + i, none⟩ = some (.slice ya yn yc) := hc
      clear hc hy
      by_cases h4 : 4 < yn
      · have HE1 : Hid (hwE n R m D = 1) := Lib.hid (by rw [HE.out, if_pos (anyB_yes hlt (by unfold lnH; rw [← HY.out]; exact decide_eq_true (by show (4 : Int) < (yn : Int); omega)))])
        go_wp2_with fail
        go_ret
        exact ⟨ret_int HE1.out.symm, rfl⟩
      · have h4' := h4
        go_wp2_with fail
        go_round
        case rel => exact ⟨i + 1, by omega, by go_num, Lib.hid (fun j hj => by
          by_cases e : j = i
          · subst e; unfold lnH; rw [← HY.out]; exact decide_eq_false (by show ¬ (4 < (yn : Int)); omega)
          · exact HALL.out j (by omega))⟩
        case measure => simp [intOf]; omega
    · obtain rfl : i = n := by omega
      have HE1 : Hid (hwE i R m D = if anyB (fun k => rowH i (R k)) i = true ∨ anyB (fun j => outH i (D j)) m = true then 2 else 0) := Lib.hid (by rw [HE.out, anyB_no HALL.out, if_neg (by decide)])
      clear HE HALL
      go_wp2_with fail
      go_loop [25] (fun s25 => ∃ k : Nat, k ≤ i ∧ s25 = .int .i64 (k : Nat) ∧ Hid (∀ j, j < k → rowH i (R j) = false)) (fun s25 => i - (intOf s25).toNat)
      case atStart => exact ⟨0, Nat.zero_le _, rfl, Lib.hid (fun _ h => absurd h (Nat.not_lt_zero _))⟩
      case round =>
        obtain ⟨k, hk, rfl, HALL⟩ := hrel
        by_cases hlt : k < i
        · obtain ⟨b, off, rfl, hb, hc⟩ := H.out.1.at_ hlt
          have hg := H.out.2 k hlt
          have hii := ins_rowH (n := (i : Int)) (s := R k)
          obtain ⟨y, hy⟩ : ∃ y, y = R k := ⟨_, rfl⟩
          rw [← hy] at hc hg hii
          have HY := Lib.hid hy
          obtain ⟨ya, yn, yc, yf⟩ := y
          have hc' : w.cell? ⟨b, off + k, none⟩ = some (.slice ya yn yc) := hc
          have hins := inside_any (i : Int) ya yn yc yf w hg.1 (Nat.le_trans hg.2.2.1 hg.2.2.2)
          rw [show insB (i : Int) yn yf = _ from hii] at hins
          obtain ⟨r, hr⟩ : ∃ r, r = rowH (i : Int) ⟨ya, yn, yc, yf⟩ := ⟨_, rfl⟩
          rw [← hr] at hins
          have HINS := Lib.hid hins
          have HR : Hid (r = rowH (i : Int) (R k)) := Lib.hid (by rw [hr, HY.out])
          clear hc hy hg hii hins hr
          go_wp2_with fail
          refine HINS.out.mono ?_
          rintro e w' ⟨rfl, rfl⟩
          clear HINS
          cases r
          · go_wp2_with fail
            go_round
            case rel => exact ⟨k + 1, by omega, by go_num, Lib.hid (fun j hj => by
              by_cases e : j = k
              · subst e; exact HR.out.symm
              · exact HALL.out j (by omega))⟩
            case measure => simp [intOf]; omega
          · have HE2 : Hid (hwE i R m D = 2) := Lib.hid (by rw [HE1.out, if_pos (.inl (anyB_yes hlt HR.out.symm))])
            go_wp2_with fail
            go_ret
            exact ⟨ret_int HE2.out.symm, rfl⟩
        · obtain rfl : k = i := by omega
          have hins := inside_any (k : Int) DA m dc D w HD.out (by unfold maxLen; omega)
          have hii := ins_rowH (n := (k : Int)) (s := ⟨DA, m, dc, D⟩)
          rw [show insB (k : Int) m D = _ from hii] at hins
          obtain ⟨r, hr⟩ : ∃ r, r = rowH (k : Int) ⟨DA, m, dc, D⟩ := ⟨_, rfl⟩
          rw [← hr] at hins
          have HINS := Lib.hid hins
          have HR : Hid (r = anyB (fun j => outH k (D j)) m) := Lib.hid hr
          clear hii hins hr
          go_wp2_with fail
          refine HINS.out.mono ?_
          rintro e w' ⟨rfl, rfl⟩
          clear HINS
          cases r
          · have HE2 : Hid (hwE k R m D = 0) := Lib.hid (by rw [HE1.out, if_neg]; rw [anyB_no HALL.out, ← HR.out]; simp)
            go_wp2_with fail
            go_ret
            exact ⟨ret_int HE2.out.symm, rfl⟩
          · have HE2 : Hid (hwE k R m D = 2) := Lib.hid (by rw [HE1.out, if_pos (.inr HR.out.symm)])
            go_wp2_with fail
            go_ret
            exact ⟨ret_int HE2.out.symm, rfl⟩
set_option maxRecDepth 100000 in
theorem nexted_any (A : Option Addr) (n c : Nat) (R : Nat → SI) (DA : Option Addr) (m dc : Nat) (D : Nat → Int) (w : World) (h : Gr w A n R) (hD : Rd w DA m (fun i => .int .i64 (D i))) (hn : n ≤ maxLen) (hm : m ≤ 1000) :
    Calls Try.prog 7 #[.slice A n c, .slice DA m dc] w fun e w' => e = .returned (.bool (hwE n R m D == 0)) ∧ w = w' := by
  have hc := nexts_any A n c R DA m dc D w h hD hn hm
  obtain ⟨x, hx⟩ : ∃ x, x = hwE n R m D := ⟨_, rfl⟩
  rw [← hx] at hc ⊢
  have HC := Lib.hid hc
  clear hc hx h hD
  go_enter Try.func7, Try.ntmps7
  go_wp2_with fail
  refine HC.out.mono ?_
  rintro e w' ⟨rfl, rfl⟩
  go_wp2_with fail
  go_ret
  exact ⟨rfl, rfl⟩
set_option maxRecDepth 100000 in
theorem refHas_any (A : Option Addr) (m c : Nat) (f : Nat → Int) (x : Int) (w : World) (h : Rd w A m (fun i => .int .i64 (f i))) (hm : m ≤ maxLen) :
    Calls Try.prog 9 #[.slice A m c, .int .i64 x] w fun e w' => e = .returned (.bool (hasI f m x)) ∧ w = w' := by
  unfold maxLen at hm
  have H := Lib.hid h
  clear h
  go_enter Try.func9, Try.ntmps9
  go_wp2_with fail
  go_loop [9] (fun s9 => ∃ k : Nat, k ≤ m ∧ s9 = .int .i64 k ∧ Hid (∀ j, j < k → f j ≠ x)) (fun s9 => m - (intOf s9).toNat)
  case atStart => exact ⟨0, Nat.zero_le _, rfl, Lib.hid (fun j hj => absurd hj (Nat.not_lt_zero _))⟩
  case round =>
    obtain ⟨k, hk, rfl, HALL⟩ := hrel
    by_cases hlt : k < m
    · obtain ⟨b, off, rfl, _, hc⟩ := H.out.at_ hlt
      obtain ⟨y, hy⟩ : ∃ y, y = f k := ⟨_, rfl⟩
      rw [← hy] at hc
      have HY := Lib.hid hy
      clear hy
      by_cases hq : x = y
      · subst hq
        have HE : Hid (hasI f m x = true) := Lib.hid (hasI_iff.2 ⟨k, hlt, HY.out.symm⟩)
        go_wp2_with fail
        go_ret
        exact ⟨ret_bool HE.out.symm, rfl⟩
      · have hb : (x == y) = false := by simpa using hq
        have HQ := Lib.hid hq
        go_wp2_with fail
        go_round
        case rel => exact ⟨k + 1, by omega, by go_num, Lib.hid (fun j hj => by
          by_cases e : j = k
          · subst e; rw [← HY.out]; exact fun e => HQ.out e.symm
          · exact HALL.out j (by omega))⟩
        case measure => simp [intOf]; omega
    · obtain rfl : k = m := by omega
      have HE : Hid (hasI f k x = false) := Lib.hid (by
        cases e : hasI f k x
        · rfl
        · obtain ⟨j, hj, e⟩ := hasI_iff.1 e
          exact absurd e (HALL.out j hj))
      go_wp2_with fail
      go_ret
      exact ⟨ret_bool HE.out.symm, rfl⟩
end Go.Proofs.Ytnkgdcaojfoanaa
