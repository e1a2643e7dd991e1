/- slices.IndexFunc and slices.ContainsFunc over ints, at whatever function value that says a bool and leaves the world alone. Condition: the slice reads as a function. -/
import Derived.Test.YtklhbmlcpjlgiaaLib
import Derived.WalkSpells
import Derived.WalkLawsBesides
namespace Go.Proofs.Ytklhbmlcpjlgiaa
open Go.ChangeShapes Go.WideShapes Go.ChangeAt Go.RowKit
set_option linter.unusedVariables false
/-- is one of the first m so -/
def anyB (p : Nat → Bool) (m : Nat) : Bool := decide (∃ i, i < m ∧ p i = true)
theorem anyB_yes {p : Nat → Bool} {m k : Nat} (hk : k < m) (h : p k = true) : anyB p m = true := decide_eq_true ⟨k, hk, h⟩
theorem anyB_no {p : Nat → Bool} {m : Nat} (h : ∀ j, j < m → p j = false) : anyB p m = false := decide_eq_false fun ⟨i, hi, e⟩ => by rw [h i hi] at e; cases e
theorem anyB_false {p : Nat → Bool} {m : Nat} : anyB p m = false ↔ ∀ j, j < m → p j = false := by
  constructor
  · intro h j hj
    cases e : p j
    · rfl
    · rw [anyB_yes hj e] at h; cases h
  · exact anyB_no
def IdxP (m : Nat) (p : Nat → Bool) (w : World) (e : Ending) (w' : World) : Prop :=
  w = w' ∧ ((anyB p m = false ∧ e = .returned (.int .i64 (-1))) ∨ ∃ k : Nat, k < m ∧ anyB p m = true ∧ e = .returned (.int .i64 k))
end Go.Proofs.Ytklhbmlcpjlgiaa
