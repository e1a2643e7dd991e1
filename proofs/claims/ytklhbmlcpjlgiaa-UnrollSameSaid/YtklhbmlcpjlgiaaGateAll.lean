/- What gate.All, gate.Check and gate.Value compute. Conditions: as each theorem states. -/
import Derived.Test.YtklhbmlcpjlgiaaGateFns
namespace Go.Proofs.Ytklhbmlcpjlgiaa
open Go.ChangeShapes Go.WideShapes Go.ChangeAt Go.RowKit
set_option linter.unusedVariables false
theorem EB : Elem Try.prog 25 4 1 1 := Elem.of Try.underlying25 (by kernel_rfl : (Try.prog.info? 4).map (fun i => (i.zero, i.size, i.bytes)) = some (some (.bool false), 1, 1)) rfl (by omega)
/-- of one gate, from those ahead of it -/
def gv (F : Nat → Int) (g : Nat → Bool) (k : Nat) (V : Nat → Bool) : Bool :=
  if F (3 * k) = 1 then g (F (3 * k + 1)).toNat else if F (3 * k) = 2 then !(V (F (3 * k + 1)).toNat) else if F (3 * k) = 3 then V (F (3 * k + 1)).toNat && V (F (3 * k + 2)).toNat else V (F (3 * k + 1)).toNat || V (F (3 * k + 2)).toNat
def VA (F : Nat → Int) (g : Nat → Bool) : Nat → Nat → Bool
  | 0, _ => false
  | k + 1, z => if z = k then gv F g k (VA F g k) else VA F g k z
theorem gE_zero {inn : Int} {F : Nat → Int} {k : Nat} (h : gE inn F k = 0) : 1 ≤ F (3 * k) ∧ F (3 * k) ≤ 4 ∧ (F (3 * k) = 1 → 0 ≤ F (3 * k + 1) ∧ F (3 * k + 1) < inn) ∧ (1 < F (3 * k) → 0 ≤ F (3 * k + 1) ∧ F (3 * k + 1) < k) ∧ (2 < F (3 * k) → 0 ≤ F (3 * k + 2) ∧ F (3 * k + 2) < k) := by
  unfold gE at h
  by_cases h1 : F (3 * k) < 1 ∨ 4 < F (3 * k)
  · rw [if_pos h1] at h; omega
  · rw [if_neg h1] at h
    by_cases h2 : F (3 * k) = 1 ∧ (F (3 * k + 1) < 0 ∨ inn ≤ F (3 * k + 1))
    · rw [if_pos h2] at h; omega
    · rw [if_neg h2] at h
      by_cases h3 : (1 < F (3 * k) ∧ ¬ (0 ≤ F (3 * k + 1) ∧ F (3 * k + 1) < k)) ∨ (2 < F (3 * k) ∧ ¬ (0 ≤ F (3 * k + 2) ∧ F (3 * k + 2) < k))
      · rw [if_pos h3] at h; omega
      · omega
end Go.Proofs.Ytklhbmlcpjlgiaa
