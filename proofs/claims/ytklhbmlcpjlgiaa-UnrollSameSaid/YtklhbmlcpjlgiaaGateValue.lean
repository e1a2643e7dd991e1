/- What gate.Check and gate.Value compute. Conditions: the slices read as functions. -/
import Derived.Test.YtklhbmlcpjlgiaaGateAll
namespace Go.Proofs.Ytklhbmlcpjlgiaa
open Go.ChangeShapes Go.WideShapes Go.ChangeAt Go.RowKit
set_option linter.unusedVariables false
def ckE (inn : Int) (F : Nat → Int) (n : Nat) : Int := if inn < 0 ∨ 5 < inn ∨ n < 1 ∨ 40 < n then 1 else gw inn F n
def vE (inn : Int) (F : Nat → Int) (n p : Nat) : Int := if ckE inn F n = 0 then (if (p : Int) = inn then 0 else 3) else ckE inn F n
def vB (inn : Int) (F : Nat → Int) (g : Nat → Bool) (n p : Nat) : Bool := if vE inn F n p = 0 then VA F g n (n - 1) else false
theorem gw_zero {inn : Int} {F : Nat → Int} {n : Nat} (h : gw inn F n = 0) : ∀ k, k < n → gE inn F k = 0 := by
  induction n with
  | zero => intro k hk; omega
  | succ n ih =>
    have h' : (if gw inn F n = 0 then gE inn F n else gw inn F n) = 0 := h
    by_cases e : gw inn F n = 0
    · rw [if_pos e] at h'
      intro k hk
      by_cases ek : k = n
      · subst ek; exact h'
      · exact ih e k (by omega)
    · rw [if_neg e] at h'; exact absurd h' e
theorem ckE_zero {inn : Int} {F : Nat → Int} {n : Nat} (h : ckE inn F n = 0) : 0 ≤ inn ∧ inn ≤ 5 ∧ 1 ≤ n ∧ n ≤ 40 ∧ gw inn F n = 0 := by
  unfold ckE at h
  by_cases h1 : inn < 0 ∨ 5 < inn ∨ n < 1 ∨ 40 < n
  · rw [if_pos h1] at h; omega
  · rw [if_neg h1] at h; exact ⟨by omega, by omega, by omega, by omega, h⟩
end Go.Proofs.Ytklhbmlcpjlgiaa
