/- What pairs.wrong and the reference say of a square. Condition: the rows read as told. -/
import Derived.Test.YtenlnkcmabphfaaConcat
import Derived.Test.YtenlnkcmabphfaaPredW
import Derived.Test.YtenlnkcmabphfaaPred
import Derived.Test.YtenlnkcmabphfaaInside
import Derived.WalkSpells
namespace Go.Proofs.Ytenlnkcmabphfaa
open Go.ChangeShapes Go.WideShapes Go.ChangeAt Go.RowKit
set_option linter.unusedVariables false
set_option linter.unusedSimpArgs false
def lnP (n : Nat) (R : Nat → SI) (i : Nat) : Bool := ((R i).n : Int) != (n : Int)
def outP (x : Int) : Bool := decide (x < -20 ∨ 20 < x)
def rowP (s : SI) : Bool := anyB (fun j => outP (s.f j)) s.n
def pwE (n : Nat) (R : Nat → SI) : Int :=
  if n < 1 ∨ 6 < n then 1 else if anyB (lnP n R) n = true then 3 else if anyB (fun i => rowP (R i)) n = true then 4 else 0
/-- rows that lie in the world -/
def GrP (w : World) (A : Option Addr) (n : Nat) (R : Nat → SI) : Prop := Rd w A n (fun i => (R i).val) ∧ ∀ i, i < n → (R i).good w
theorem GrP.below {w w' : World} {A : Option Addr} {n : Nat} {R : Nat → SI} (h : GrP w A n R) (hb : Below w.heap.size w w') : GrP w' A n R := ⟨h.1.below hb, fun i hi => (h.2 i hi).below hb⟩
theorem pwE_zero {n : Nat} {R : Nat → SI} (h : pwE n R = 0) : (1 ≤ n ∧ n ≤ 6) ∧ (∀ i, i < n → (R i).n = n) ∧ ∀ i, i < n → ∀ q, q < n → -20 ≤ (R i).f q ∧ (R i).f q ≤ 20 := by
  unfold pwE at h
  by_cases c1 : n < 1 ∨ 6 < n
  · rw [if_pos c1] at h; omega
  rw [if_neg c1] at h
  by_cases c2 : anyB (lnP n R) n = true
  · rw [if_pos c2] at h; omega
  rw [if_neg c2] at h
  by_cases c3 : anyB (fun i => rowP (R i)) n = true
  · rw [if_pos c3] at h; omega
  have h1 : anyB (lnP n R) n = false := by cases e : anyB (lnP n R) n; rfl; exact absurd e c2
  have h2 : anyB (fun i => rowP (R i)) n = false := by cases e : anyB (fun i => rowP (R i)) n; rfl; exact absurd e c3
  have hl : ∀ i, i < n → (R i).n = n := fun i hi => by
    have := anyB_false.1 h1 i hi
    unfold lnP at this
    have := (bne_eq_false_iff_eq).1 this
    omega
  refine ⟨by omega, hl, fun i hi q hq => ?_⟩
  have := of_decide_eq_false (anyB_false.1 (anyB_false.1 h2 i hi) q (by rw [hl i hi]; exact hq)); omega
theorem pwE_ok {n : Nat} {R : Nat → SI} (h0 : 1 ≤ n ∧ n ≤ 6) (hl : ∀ i, i < n → (R i).n = n) (hv : ∀ i, i < n → ∀ q, q < n → -20 ≤ (R i).f q ∧ (R i).f q ≤ 20) : pwE n R = 0 := by
  unfold pwE
  rw [if_neg (by omega), if_neg, if_neg]
  · rw [anyB_no]; decide
    intro i hi
    exact anyB_no fun q hq => decide_eq_false (by have := hv i hi q (by rw [← hl i hi]; exact hq); omega)
  · rw [anyB_no]; decide
    intro i hi
    show (((R i).n : Int) != (n : Int)) = false
    rw [hl i hi]; simp
theorem anyB_iffP {p : Nat → Bool} {m : Nat} : anyB p m = true ↔ ∃ i, i < m ∧ p i = true := by unfold anyB; exact decide_eq_true_iff
/-- the numbers of the first i rows, one row behind the other -/
def ccP (R : Nat → SI) : Nat → Nat → Int
  | 0 => fun _ => 0
  | i + 1 => fun q => if q < szR R i then ccP R i q else (R i).f (q - szR R i)
theorem ccP_eq (R : Nat → SI) : ∀ i q, ccR R i q = .int .i64 (ccP R i q)
  | 0, _ => rfl
  | i + 1, q => by
    simp only [ccR, ccP]
    unfold cat
    split
    · exact ccP_eq R i q
    · rfl
theorem any_ccP (p : Int → Bool) (R : Nat → SI) : ∀ n, anyB (fun q => p (ccP R n q)) (szR R n) = anyB (fun i => anyB (fun j => p ((R i).f j)) (R i).n) n
  | 0 => rfl
  | n + 1 => by
    have ih := any_ccP p R n
    rw [Bool.eq_iff_iff, anyB_iffP, anyB_iffP] at ih ⊢
    constructor
    · rintro ⟨q, hq, hp⟩
      simp only [ccP] at hp
      by_cases h : q < szR R n
      · rw [if_pos h] at hp
        obtain ⟨i, hi, h1⟩ := ih.1 ⟨q, h, hp⟩
        exact ⟨i, by omega, h1⟩
      · rw [if_neg h] at hp
        exact ⟨n, by omega, anyB_iffP.2 ⟨q - szR R n, by simp only [szR] at hq; omega, hp⟩⟩
    · rintro ⟨i, hi, hp⟩
      by_cases e : i = n
      · subst e
        obtain ⟨j, hj, h1⟩ := anyB_iffP.1 hp
        refine ⟨szR R i + j, by simp only [szR]; omega, ?_⟩
        simp only [ccP]
        rw [if_neg (by omega), show szR R i + j - szR R i = j by omega]; exact h1
      · obtain ⟨q, hq, h1⟩ := ih.2 ⟨i, by omega, hp⟩
        refine ⟨q, by simp only [szR]; omega, ?_⟩
        simp only [ccP]
        rw [if_pos hq]; exact h1
theorem szR_P {R : Nat → SI} {s : Nat} : ∀ {n : Nat}, (∀ i, i < n → (R i).n = s) → szR R n = n * s
  | 0, _ => by simp [szR]
  | n + 1, h => by
    have := szR_P (n := n) fun i hi => h i (by omega)
    have := h n (by omega)
    simp only [szR, Nat.add_mul]; omega
set_option maxRecDepth 100000 in
theorem lenP_any (A B : Option Addr) (m c n d g : Nat) (w : World) (h : w.cell? ⟨g, 0, none⟩ = some (.slice B n d)) : Calls Try.prog 24 #[.slice A m c, .pointer (some ⟨g, 0, none⟩)] w fun e w' => e = .returned (.bool ((m : Int) != (n : Int))) ∧ w = w' := by
  go_enter Try.func24, Try.ntmps24
  go_wp2_with fail
  go_ret
  exact ⟨rfl, rfl⟩
set_option maxRecDepth 100000 in
theorem outP_any (x : Int) (w : World) : Calls Try.prog 27 #[.int .i64 x] w fun e w' => e = .returned (.bool (outP x)) ∧ w = w' := by
  by_cases h1 : x < -20
  · have e1 := Lib.hid (show outP x = true by unfold outP; rw [decide_eq_true_eq]; exact .inl h1)
    go_enter Try.func27, Try.ntmps27
    go_wp2_with fail
    go_ret
    exact ⟨ret_bool e1.out.symm, rfl⟩
  · by_cases h2 : 20 < x
    · have e1 := Lib.hid (show outP x = true by unfold outP; rw [decide_eq_true_eq]; exact .inr h2)
      go_enter Try.func27, Try.ntmps27
      go_wp2_with fail
      go_ret
      exact ⟨ret_bool e1.out.symm, rfl⟩
    · have e1 := Lib.hid (show outP x = false by unfold outP; rw [decide_eq_false_iff_not]; omega)
      go_enter Try.func27, Try.ntmps27
      go_wp2_with fail
      go_ret
      exact ⟨ret_bool e1.out.symm, rfl⟩
set_option maxRecDepth 100000 in
set_option maxHeartbeats 2000000 in
theorem wrongP_any (A : Option Addr) (n c : Nat) (R : Nat → SI) (w : World) (h : GrP w A n R) (hn : n ≤ maxLen) :
    Calls Try.prog 17 #[.slice A n c] w fun e w' => e = .returned (.int .i64 (pwE n R)) ∧ Below w.heap.size w w' := by
  have H := Lib.hid h
  have HN := Lib.hid hn
  have hnx := hn
  unfold maxLen at hnx
  have HB1 : Hid (Below w.heap.size w (w.alloc (.cells #[.slice A n c] 22))) := Lib.hid ((Below.refl w.heap.size w).alloc (Nat.le_refl _) (.cells #[.slice A n c] 22))
  clear h hn
  by_cases h1 : n < 1
  · have HE : Hid (pwE n R = 1) := Lib.hid (if_pos (.inl h1))
    go_enter Try.func17, Try.ntmps17
    go_wp2_with fail
    go_ret
    exact ⟨ret_int HE.out.symm, HB1.out⟩
  by_cases h2 : 6 < n
  · have HE : Hid (pwE n R = 1) := Lib.hid (if_pos (.inr h2))
    go_enter Try.func17, Try.ntmps17
    go_wp2_with fail
    go_ret
    exact ⟨ret_int HE.out.symm, HB1.out⟩
  obtain ⟨W1, hW1⟩ : ∃ W, W = w.alloc (.cells #[.slice A n c] 22) := ⟨_, rfl⟩
  have hcell : W1.cell? ⟨w.heap.size, 0, none⟩ = some (.slice A n c) := by rw [hW1]; simp
  rw [← hW1] at HB1
  have hcl := containsW_any 24 #[.pointer (some ⟨w.heap.size, 0, none⟩)] A n c (fun i => (R i).val) (lnP n R) W1 (H.out.below HB1.out).1 HN.out (fun _ _ => rfl) (fun i hi => lenP_any _ A _ _ n c w.heap.size W1 hcell)
  have HCL := Lib.hid hcl
  have HW1 := Lib.hid hW1
  clear hcl hW1 hcell
  go_enter Try.func17, Try.ntmps17
  go_wp2_with fail
  rw [← HW1.out]
  refine HCL.out.mono ?_
  rintro e w' ⟨rfl, rfl⟩
  clear HCL
  have hcell : W1.cell? ⟨w.heap.size, 0, none⟩ = some (.slice A n c) := by rw [HW1.out]; simp
  cases hl : anyB (lnP n R) n with
  | true =>
    have HE : Hid (pwE n R = 3) := Lib.hid (by unfold pwE; rw [if_neg (by omega), if_pos hl])
    clear hl
    go_wp2_with fail
    go_ret
    exact ⟨ret_int HE.out.symm, HB1.out⟩
  | false =>
    have HE : Hid (pwE n R = if anyB (fun i => rowP (R i)) n = true then 4 else 0) := Lib.hid (by unfold pwE; rw [if_neg (by omega), if_neg (by rw [hl]; decide)])
    have h4 : ∀ i, i < n → (R i).n = n := fun i hi => by
      have := (bne_eq_false_iff_eq).1 (anyB_false.1 hl i hi); omega
    have hs := szR_P h4
    have hs2 : szR R n ≤ 36 := by rw [hs]; exact Nat.mul_le_mul (show n ≤ 6 by omega) (show n ≤ 6 by omega)
    clear hl h4 hs
    go_wp2_with fail
    refine (concat_any A n c R W1 (H.out.below HB1.out).1 (fun i hi => ((H.out.below HB1.out).2 i hi).1) (by omega) (by omega)).mono ?_
    rintro e w1 ⟨⟨A1, c1, rfl, hown⟩, hb1⟩
    have hcc := containsP_any 27 #[] A1 (szR R n) c1 (ccP R n) (fun q => outP (ccP R n q)) w1 (hown.rd.congr fun q _ => ccP_eq R n q) (by unfold maxLen; omega) (fun _ _ => rfl) (fun i hi => outP_any _ _)
    rw [any_ccP outP R n] at hcc
    have HCC := Lib.hid hcc
    have HB2 : Hid (Below w.heap.size w w1) := Lib.hid (HB1.out.trans (hb1.mono HB1.out.size))
    obtain ⟨z, hz⟩ : ∃ z, z = szR R n := ⟨_, rfl⟩
    rw [← hz] at HCC ⊢
    clear hcc hown hb1 hs2 hz
    go_wp2_with fail
    refine HCC.out.mono ?_
    rintro e w4 ⟨rfl, rfl⟩
    clear HCC
    cases h3 : anyB (fun i => anyB (fun j => outP ((R i).f j)) (R i).n) n with
    | true =>
      have HE2 : Hid (pwE n R = 4) := Lib.hid (by rw [HE.out]; exact if_pos h3)
      clear h3
      go_wp2_with fail
      go_ret
      exact ⟨ret_int HE2.out.symm, HB2.out⟩
    | false =>
      have HE2 : Hid (pwE n R = 0) := Lib.hid (by rw [HE.out]; exact if_neg (by intro h; rw [show anyB (fun i => rowP (R i)) n = false from h3] at h; cases h))
      clear h3
      go_wp2_with fail
      go_ret
      exact ⟨ret_int HE2.out.symm, HB2.out⟩
end Go.Proofs.Ytenlnkcmabphfaa
