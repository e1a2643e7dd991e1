/- What the references' Within, Inside and Ints compute: contracts. Conditions: the slices read as functions of the index, as each theorem states. -/
import Derived.Test.YtmhicimjoidonaaLib
namespace Go.Proofs.Ytmhicimjoidonaa
open Go.ChangeShapes Go.WideShapes Go.ChangeAt Go.RowKit
set_option linter.unusedVariables false
def inB (l x h : Int) : Bool := decide (l ≤ x ∧ x ≤ h)
theorem inB_yes {l x h : Int} (a : l ≤ x) (b : x ≤ h) : inB l x h = true := by simp [inB, a, b]
theorem inB_no {l x h : Int} (a : ¬ (l ≤ x ∧ x ≤ h)) : inB l x h = false := by simp only [inB, a, decide_false]
theorem inB_iff {l x h : Int} : inB l x h = true ↔ (l ≤ x ∧ x ≤ h) := by simp [inB]

/-- all from 0 to below N -/
def insB (N : Int) (n : Nat) (f : Nat → Int) : Bool := decide (∀ i, i < n → 0 ≤ f i ∧ f i < N)
theorem insB_iff {N : Int} {n : Nat} {f : Nat → Int} : insB N n f = true ↔ ∀ i, i < n → 0 ≤ f i ∧ f i < N := by simp [insB]
theorem insB_no {N : Int} {n : Nat} {f : Nat → Int} {k : Nat} (hk : k < n) (h : ¬ (0 ≤ f k ∧ f k < N)) : insB N n f = false := by
  simp only [insB, decide_eq_false_iff_not]; exact fun hh => h (hh k hk)
end Go.Proofs.Ytmhicimjoidonaa
