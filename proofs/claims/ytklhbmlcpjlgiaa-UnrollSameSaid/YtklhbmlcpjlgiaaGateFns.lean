/- What gate.Wrong computes. Conditions: as each theorem states. -/
import Derived.Test.YtklhbmlcpjlgiaaRecs
import Derived.Test.YtklhbmlcpjlgiaaApp
import Derived.Test.YtklhbmlcpjlgiaaInside
import Derived.WalkSpells
import Derived.WalkLawsBesides
import Derived.BigQuiet
import Derived.Deep.QuietTactic
import Derived.Deep.RegionLaw
namespace Go.Proofs.Ytklhbmlcpjlgiaa
open Go.ChangeShapes Go.WideShapes Go.ChangeAt Go.RowKit
set_option linter.unusedVariables false
theorem Rd.at3 {w : World} {A : Option Addr} {n : Nat} {F : Nat → Int} (h : Rd w A (n * 3) (fun q => .int .i64 (F q))) {k : Nat} (hk : k < n) :
    ∃ b off, A = some ⟨b, off, none⟩ ∧ w.cell? ⟨b, off + k * 3, none⟩ = some (.int .i64 (F (3 * k))) ∧ w.cell? ⟨b, off + k * 3 + 1, none⟩ = some (.int .i64 (F (3 * k + 1))) ∧ w.cell? ⟨b, off + k * 3 + 2, none⟩ = some (.int .i64 (F (3 * k + 2))) := by
  obtain ⟨b, off, e, _, hc⟩ := h (by omega)
  have e0 : k * 3 = 3 * k := Nat.mul_comm _ _
  exact ⟨b, off, e, by rw [e0]; exact hc _ (by omega), by rw [e0, Nat.add_assoc]; exact hc _ (by omega), by rw [e0, Nat.add_assoc]; exact hc _ (by omega)⟩
def gE (inn : Int) (F : Nat → Int) (i : Nat) : Int :=
  if F (3 * i) < 1 ∨ 4 < F (3 * i) then 6 else
  if F (3 * i) = 1 ∧ (F (3 * i + 1) < 0 ∨ inn ≤ F (3 * i + 1)) then 4 else
  if (1 < F (3 * i) ∧ ¬ (0 ≤ F (3 * i + 1) ∧ F (3 * i + 1) < i)) ∨ (2 < F (3 * i) ∧ ¬ (0 ≤ F (3 * i + 2) ∧ F (3 * i + 2) < i)) then 2 else 0
def gw (inn : Int) (F : Nat → Int) : Nat → Int
  | 0 => 0
  | k + 1 => if gw inn F k = 0 then gE inn F k else gw inn F k
theorem gw_stop {inn : Int} {F : Nat → Int} {k : Nat} {x : Int} (h0 : x ≠ 0) (h : gw inn F (k + 1) = x) : ∀ n, k < n → gw inn F n = x := by
  intro n
  induction n with
  | zero => intro h; omega
  | succ n ih =>
    intro hk
    by_cases e : n = k
    · subst e; exact h
    · have := ih (by omega)
      show (if gw inn F n = 0 then _ else _) = x
      rw [if_neg (by rw [this]; exact h0), this]
def inn3 (i : Nat) (x : Int) : Bool := decide (0 ≤ x ∧ x < i)
theorem inn3_yes {i : Nat} {x : Int} (h : 0 ≤ x ∧ x < i) : inn3 i x = true := by simp [inn3, h]
theorem inn3_no {i : Nat} {x : Int} (h : ¬ (0 ≤ x ∧ x < i)) : inn3 i x = false := by simp only [inn3, h, decide_false]
end Go.Proofs.Ytklhbmlcpjlgiaa
