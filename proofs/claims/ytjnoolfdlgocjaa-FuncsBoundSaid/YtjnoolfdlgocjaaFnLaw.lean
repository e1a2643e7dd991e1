/- Functions of numbers: which lists are good; ranks. No condition. -/
import Derived.Test.YtjnoolfdlgocjaaFuncOpen
namespace Go.Proofs.Ytjnoolfdlgocjaa
set_option linter.unusedVariables false
/-- function i of the list is put together rightly -/
def okFn (D : Nat → SF) (i : Nat) : Prop :=
  (1 ≤ (D i).k ∧ (D i).k ≤ 5) ∧ (0 ≤ (D i).a ∧ (D i).a ≤ 4) ∧ ((D i).k = 2 → (D i).a = 1) ∧ ((D i).k = 3 → 0 ≤ (D i).p ∧ (D i).p < (D i).a) ∧
  ((D i).k = 4 → (D i).s.n ≤ 4 ∧ (0 ≤ (D i).x ∧ (D i).x < i ∧ (D (D i).x.toNat).a = (D i).s.n) ∧ ∀ q, q < (D i).s.n → 0 ≤ (D i).s.f q ∧ (D i).s.f q < i ∧ (D ((D i).s.f q).toNat).a = (D i).a) ∧
  ((D i).k = 5 → 1 ≤ (D i).a ∧ (0 ≤ (D i).x ∧ (D i).x < i ∧ (D (D i).x.toNat).a = (D i).a - 1) ∧ 0 ≤ (D i).y ∧ (D i).y < i ∧ (D (D i).y.toNat).a = (D i).a + 1)
/-- the whole list is -/
def okFs (D : Nat → SF) (n : Nat) : Prop := 1 ≤ n ∧ n ≤ 12 ∧ ∀ i, i < n → okFn D i
/-- the greatest of the first t arguments, 0 if none is greater -/
def mostF (f : Nat → Int) : Nat → Int
  | 0 => 0
  | t + 1 => if mostF f t < f t then f t else mostF f t
theorem mostF_ge (f : Nat → Int) (n : Nat) : 0 ≤ mostF f n ∧ ∀ t, t < n → f t ≤ mostF f n := by
  induction n with
  | zero => exact ⟨by simp [mostF], fun t h => absurd h (by omega)⟩
  | succ n ih =>
    have e : mostF f (n + 1) = if mostF f n < f n then f n else mostF f n := rfl
    refine ⟨by rw [e]; split <;> omega, fun t ht => ?_⟩
    rw [e]
    rcases (by omega : t < n ∨ t = n) with h | h
    · have := ih.2 t h
      split <;> omega
    · rw [h]; split <;> omega
theorem mostF_le (f : Nat → Int) (n : Nat) (M : Int) (h0 : 0 ≤ M) (h : ∀ t, t < n → f t ≤ M) : mostF f n ≤ M := by
  induction n with
  | zero => simpa [mostF] using h0
  | succ n ih =>
    have e : mostF f (n + 1) = if mostF f n < f n then f n else mostF f n := rfl
    have := ih (fun t ht => h t (by omega))
    have := h n (by omega)
    rw [e]; split <;> omega
end Go.Proofs.Ytjnoolfdlgocjaa
