/- Numbers as digits to some base, the lowest first; one more. No condition. -/
import Derived.Test.YtmnleblbandghaaLib
namespace Go.Proofs.Ytmnleblbandghaa
set_option linter.unusedVariables false
def dg (b k i : Nat) : Nat := k / b ^ i % b
def nines (b k i : Nat) : Prop := k % b ^ i = b ^ i - 1
theorem dg_zero (b i : Nat) : dg b 0 i = 0 := by unfold dg; rw [Nat.zero_div, Nat.zero_mod]
theorem dg_lt {b : Nat} (hb : 1 ≤ b) (k i : Nat) : dg b k i < b := Nat.mod_lt _ hb
theorem nines_zero (b k : Nat) : nines b k 0 := by unfold nines; rw [Nat.pow_zero, Nat.mod_one]
theorem nines_succ {b k i : Nat} (hb : 1 ≤ b) (h : nines b k i) (hd : dg b k i = b - 1) : nines b k (i + 1) := by
  unfold nines dg at *
  have hp : 0 < b ^ i := Nat.pow_pos hb
  rw [Nat.mod_pow_succ, h, hd, Nat.pow_succ, Nat.mul_sub, Nat.mul_one]
  have : b ^ i ≤ b ^ i * b := Nat.le_mul_of_pos_right _ hb
  omega
theorem step_eq {b k i : Nat} (hb : 1 ≤ b) (h : nines b k i) : k + 1 = b ^ i * (k / b ^ i + 1) := by
  unfold nines at h
  have hp : 0 < b ^ i := Nat.pow_pos hb
  have := Nat.div_add_mod k (b ^ i)
  rw [h] at this
  rw [Nat.mul_add, Nat.mul_one]; omega
theorem dg_step {b k i : Nat} (hb : 1 ≤ b) (h : nines b k i) (hd : dg b k i ≠ b - 1) (j : Nat) : dg b (k + 1) j = if j < i then 0 else if j = i then dg b k i + 1 else dg b k j := by
  have he := step_eq hb h
  have hl : dg b k i < b := dg_lt hb k i
  have hp : 0 < b ^ i := Nat.pow_pos hb
  have hpj : 0 < b ^ j := Nat.pow_pos hb
  obtain ⟨q, hq⟩ : ∃ q, q = k / b ^ i := ⟨_, rfl⟩
  have hdq : dg b k i = q % b := by unfold dg; rw [← hq]
  rw [← hq] at he
  by_cases h1 : j < i
  · rw [if_pos h1]
    unfold dg
    rw [he, show b ^ i = b ^ j * b ^ (i - j) by rw [← Nat.pow_add]; congr 1; omega, Nat.mul_assoc, Nat.mul_div_cancel_left _ hpj, show i - j = (i - j - 1) + 1 by omega, Nat.pow_succ, Nat.mul_comm (b ^ (i - j - 1)) b, Nat.mul_assoc, Nat.mul_mod_right]
  · rw [if_neg h1]
    have hq1 : (q + 1) % b = q % b + 1 ∧ (q + 1) / b = q / b := by
      have e1 : q + 1 = b * (q / b) + (q % b + 1) := by have := Nat.div_add_mod q b; omega
      constructor
      · rw [e1, Nat.mul_add_mod, Nat.mod_eq_of_lt (by omega)]
      · rw [e1, Nat.mul_add_div (by omega), Nat.div_eq_of_lt (a := q % b + 1) (by omega)]; omega
    by_cases h2 : j = i
    · rw [if_pos h2, h2, hdq]
      unfold dg
      rw [he, Nat.mul_div_cancel_left _ hp]
      exact hq1.1
    · rw [if_neg h2]
      have hs : ∀ x : Nat, x / b ^ j = x / b ^ i / b / b ^ (j - i - 1) := fun x => by
        rw [Nat.div_div_eq_div_mul, Nat.div_div_eq_div_mul, ← Nat.mul_assoc, ← Nat.pow_succ, ← Nat.pow_add]; congr 2; omega
      unfold dg
      rw [hs, hs k, he, Nat.mul_div_cancel_left _ hp, ← hq, hq1.2]
theorem nines_last {b k K : Nat} (hb : 1 ≤ b) (h : nines b k K) (hk : k < b ^ K) : k + 1 = b ^ K := by
  unfold nines at h
  rw [Nat.mod_eq_of_lt hk] at h
  have hp : 0 < b ^ K := Nat.pow_pos hb
  omega
theorem dg_more {b k i K : Nat} (hb : 1 ≤ b) (hi : i < K) (h : nines b k i) (hd : dg b k i ≠ b - 1) (hk : k < b ^ K) : k + 1 < b ^ K := by
  rcases Nat.lt_or_ge (k + 1) (b ^ K) with h1 | h1
  · exact h1
  · exfalso
    have he : k + 1 = b ^ K := by omega
    have h2 := dg_step hb h hd i
    rw [if_neg (Nat.lt_irrefl _), if_pos rfl, he] at h2
    have hp : 0 < b ^ i := Nat.pow_pos hb
    have h3 : dg b (b ^ K) i = 0 := by
      unfold dg
      rw [show b ^ K = b ^ i * b ^ (K - i) by rw [← Nat.pow_add]; congr 1; omega, Nat.mul_div_cancel_left _ hp, show K - i = (K - i - 1) + 1 by omega, Nat.pow_succ, Nat.mul_comm, Nat.mul_mod_right]
    omega
end Go.Proofs.Ytmnleblbandghaa
