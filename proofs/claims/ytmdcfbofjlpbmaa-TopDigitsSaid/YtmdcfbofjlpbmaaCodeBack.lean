/- The walk of CodeBack. Conditions: the arguments read as told. -/
import Derived.Test.YtmdcfbofjlpbmaaDigits
import Derived.Test.YtmdcfbofjlpbmaaInts
import Derived.Test.YtmdcfbofjlpbmaaCountMath
import Derived.BigQuiet
import Derived.Deep.QuietTactic
namespace Go.Proofs.Ytmdcfbofjlpbmaa
open Go.ChangeShapes Go.WideShapes Go.ChangeAt Go.RowKit
set_option linter.unusedVariables false
theorem ordE_zero {cs : Int} {M : Nat} {g : Nat → Int} (h : ordE cs M g = 0) : M % 4 = 0 ∧ (∀ k, k < M / 4 → bdO g k = false) ∧ ckO cs (M / 4) g = 0 := by
  unfold ordE at h
  by_cases h1 : M % 4 ≠ 0
  · rw [if_pos h1] at h; cases h
  · rw [if_neg h1] at h
    by_cases h2 : anyB (bdO g) (M / 4) = true
    · rw [if_pos h2] at h; cases h
    · rw [if_neg h2] at h
      exact ⟨by omega, anyB_false.1 (by simpa using h2), h⟩
theorem dgF_of_ok {M : Nat} {g : Nat → Int} (h4 : M % 4 = 0) (h : ∀ k, k < M / 4 → bdO g k = false) {q : Nat} (hq : q < M) : dgF g q = g q := by
  unfold dgF
  by_cases e : q % 4 = 3 ∧ g (q - 3) = 1
  · rw [if_pos e]
    have hb := h (q / 4) (by omega)
    unfold bdO at hb
    have hb := of_decide_eq_false hb
    have e1 : 4 * (q / 4) = q - 3 := by omega
    rw [e1] at hb
    have : q - 3 + 3 = q := by omega
    rw [this] at hb
    exact (Classical.byContradiction fun hne => hb ⟨e.2, fun h0 => hne h0.symm⟩)
  · rw [if_neg e]
theorem bdO_dg (F : Nat → Int) (k : Nat) : bdO (dgF F) k = false := by
  obtain ⟨d0, d1, d2, d3⟩ := dgF_at F k
  refine decide_eq_false ?_
  rw [d0, d3]
  intro h
  rw [if_pos h.1] at h
  exact h.2 rfl
theorem oE_dg (cs : Int) (n : Nat) (F : Nat → Int) (k : Nat) : oE cs n (dgF F) k = oE cs n F k := by
  obtain ⟨d0, d1, d2, d3⟩ := dgF_at F k
  unfold oE
  rw [d0, d1, d2, d3]
  by_cases h1 : F (4 * k) = 1
  · rw [if_pos h1]
    have h2 : ¬ F (4 * k) = 2 := by omega
    simp only [h2, false_and]
  · rw [if_neg h1]
theorem ckO_dg (cs : Int) (n : Nat) (F : Nat → Int) : ckO cs n (dgF F) = ckO cs n F := by
  unfold ckO
  rw [fstE_congr (fun k _ => oE_dg cs n F k)]
theorem ordE_dg {cs : Int} {n : Nat} {F : Nat → Int} (h : ckO cs n F = 0) : ordE cs (4 * n) (dgF F) = 0 := by
  unfold ordE
  rw [if_neg (by omega), show 4 * n / 4 = n by omega, if_neg (by rw [anyB_no fun k _ => bdO_dg F k]; decide), ckO_dg, h]
theorem ckO_n {cs : Int} {n : Nat} {F : Nat → Int} (h : ckO cs n F = 0) : n ≤ 12 ∧ ∀ k, k < n → oE cs n F k = 0 := by
  unfold ckO at h
  by_cases e : cs < 1 ∨ 4 < cs ∨ n < 1 ∨ 12 < n
  · rw [if_pos e] at h; cases h
  · rw [if_neg e] at h; exact ⟨by omega, fstE_zero.1 h⟩
end Go.Proofs.Ytmdcfbofjlpbmaa
