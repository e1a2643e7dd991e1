/- Plain numbers: the sets of last two cells that words leave, what they say of the counts, and what a ring does. No condition. -/
import Derived.Test.YtnagdnbdpknniaaCellMath
import Derived.Test.YtnagdnbdpknniaaCellStep
namespace Go.Proofs.Ytnagdnbdpknniaa
open CellM
set_option linter.unusedVariables false
/-- what came of set s behind t of the eight steps -/
def oN (r : Int) (s : Nat) (b : Bool) : Nat → Nat
  | 0 => 0
  | t + 1 => if (s / 2 ^ (t / 2)) % 2 = 1 ∧ hit r b t then oN r s b t ||| 2 ^ (t % 4) else oN r s b t
def nS (r : Int) (s : Nat) (b : Bool) : Nat := oN r s b 8
theorem oN_lt (r : Int) (s : Nat) (b : Bool) : ∀ t, oN r s b t < 16
  | 0 => by show 0 < 16; omega
  | t + 1 => by
    have ih := oN_lt r s b t
    have hp : 2 ^ (t % 4) < 2 ^ 4 := Nat.pow_lt_pow_right (by omega) (by omega)
    show (if _ then _ else _) < 16
    split
    · exact Nat.or_lt_two_pow (n := 4) ih hp
    · exact ih
theorem nS_lt (r : Int) (s : Nat) (b : Bool) : nS r s b < 16 := oN_lt r s b 8
theorem oN_bit (r : Int) (s : Nat) (b : Bool) (j : Nat) (hj : j < 4) : ∀ t, (oN r s b t).testBit j = true ↔ ∃ u, u < t ∧ u % 4 = j ∧ (s / 2 ^ (u / 2)) % 2 = 1 ∧ hit r b u
  | 0 => by
    show (0 : Nat).testBit j = true ↔ _
    rw [Nat.zero_testBit]
    exact ⟨(fun h => by cases h), fun ⟨u, hu, _⟩ => absurd hu (Nat.not_lt_zero _)⟩
  | t + 1 => by
    have ih := oN_bit r s b j hj t
    show (if _ then _ else _ : Nat).testBit j = true ↔ _
    by_cases h : (s / 2 ^ (t / 2)) % 2 = 1 ∧ hit r b t
    · rw [if_pos h, Nat.testBit_or, Nat.testBit_two_pow, Bool.or_eq_true, ih, decide_eq_true_eq]
      constructor
      · rintro (⟨u, hu, h1⟩ | h1)
        · exact ⟨u, by omega, h1⟩
        · exact ⟨t, by omega, h1, h⟩
      · rintro ⟨u, hu, h1, h2⟩
        by_cases e : u = t
        · subst e; exact .inr h1
        · exact .inl ⟨u, by omega, h1, h2⟩
    · rw [if_neg h, ih]
      constructor
      · rintro ⟨u, hu, h1⟩; exact ⟨u, by omega, h1⟩
      · rintro ⟨u, hu, h1, h2⟩
        by_cases e : u = t
        · subst e; exact absurd h2 h
        · exact ⟨u, by omega, h1, h2⟩
/-- the set behind k cells of the word f -/
def SF (r : Int) (f : Nat → Bool) : Nat → Nat
  | 0 => 15
  | k + 1 => nS r (SF r f k) (f k)
theorem SF_congr (r : Int) {f g : Nat → Bool} (k : Nat) (h : ∀ i, i < k → f i = g i) : SF r f k = SF r g k := by
  induction k with
  | zero => rfl
  | succ k ih => show nS r (SF r f k) (f k) = nS r (SF r g k) (g k); rw [h k (by omega), ih fun i hi => h i (by omega)]
theorem N_ne {r : Int} {b : Bool} {M : Nat → Int} (hM : ∀ j, j < 4 → 0 ≤ M j) {j : Nat} (hj : j < 4) : N r b M 8 j ≠ 0 ↔ (hit r b j ∧ M (j / 2) ≠ 0) ∨ (hit r b (j + 4) ∧ M ((j + 4) / 2) ≠ 0) := by
  have h1 := hM (j / 2) (by omega)
  have h2 := hM ((j + 4) / 2) (by omega)
  unfold N
  have e1 : (j < 8 ∧ hit r b j) ↔ hit r b j := ⟨fun h => h.2, fun h => ⟨by omega, h⟩⟩
  have e2 : (j + 4 < 8 ∧ hit r b (j + 4)) ↔ hit r b (j + 4) := ⟨fun h => h.2, fun h => ⟨by omega, h⟩⟩
  simp only [e1, e2]
  by_cases a : hit r b j <;> by_cases c : hit r b (j + 4) <;> simp only [a, c, if_true, if_false, true_and, false_and, or_false, false_or] <;> first | omega | simp
theorem bit_mod {s q : Nat} : (s / 2 ^ q) % 2 = 1 ↔ s.testBit q = true := by
  rw [Nat.testBit_eq_decide_div_mod_eq, decide_eq_true_eq]
/-- the set's bits are the counts that are not 0 -/
theorem SF_C (r : Int) (f : Nat → Bool) : ∀ k j, j < 4 → ((SF r f k).testBit j = true ↔ C r f k j ≠ 0)
  | 0, j, hj => by
    show (15 : Nat).testBit j = true ↔ (1 : Int) ≠ 0
    have : j = 0 ∨ j = 1 ∨ j = 2 ∨ j = 3 := by omega
    rcases this with rfl | rfl | rfl | rfl <;> decide
  | k + 1, j, hj => by
    have ih := SF_C r f k
    show (oN r (SF r f k) (f k) 8).testBit j = true ↔ N r (f k) (C r f k) 8 j ≠ 0
    rw [oN_bit _ _ _ _ hj, N_ne (fun i hi => (C_bd r f k i hi).1) hj]
    constructor
    · rintro ⟨u, hu, h1, h2, h3⟩
      have h4 := (ih (u / 2) (by omega)).1 (bit_mod.1 h2)
      have : u = j ∨ u = j + 4 := by omega
      rcases this with rfl | rfl
      · exact .inl ⟨h3, h4⟩
      · exact .inr ⟨h3, h4⟩
    · rintro (⟨h3, h4⟩ | ⟨h3, h4⟩)
      · exact ⟨j, by omega, by omega, bit_mod.2 ((ih _ (by omega)).2 h4), h3⟩
      · exact ⟨j + 4, by omega, by omega, bit_mod.2 ((ih _ (by omega)).2 h4), h3⟩
/-- an empty set: no word is ahead -/
theorem many_zero {r : Int} {f : Nat → Bool} {n : Nat} (h : SF r f n = 0) : many r f n = 0 := by
  have z : ∀ j, j < 4 → C r f n j = 0 := fun j hj => Classical.byContradiction fun hne => by
    have := (SF_C r f n j hj).2 hne
    rw [h, Nat.zero_testBit] at this; cases this
  unfold many
  rw [z 0 (by omega), z 1 (by omega), z 2 (by omega), z 3 (by omega)]; rfl
def b2 (b : Bool) : Nat := if b then 1 else 0
/-- MOORE: a ring that becomes one with the word: some word is ahead of it -/
theorem ring_pos {r : Int} {n : Nat} {f w : Nat → Bool} (hn : 1 ≤ n) (i : Nat) : ∀ k, (∀ j, j < k → st r n f ((i + j) % n) = w j) → 0 < C r w k (2 * b2 (f ((i + k + n - 1) % n)) + b2 (f ((i + k) % n)))
  | 0, _ => by show (0 : Int) < 1; omega
  | k + 1, h => by
    have ih := ring_pos hn i k fun j hj => h j (by omega)
    have hk := h k (by omega)
    have e1 : ((i + k) % n + n - 1) % n = (i + k + n - 1) % n := by
      have h1 : (i + k) % n < n := Nat.mod_lt _ (by omega)
      have h2 := Nat.div_add_mod (i + k) n
      have : i + k + n - 1 = ((i + k) % n + n - 1) + n * ((i + k) / n) := by omega
      rw [this, Nat.add_mul_mod_self_left]
    have e2 : ((i + k) % n + 1) % n = (i + (k + 1)) % n := by rw [Nat.mod_add_mod]; rfl
    have e3 : (i + (k + 1) + n - 1) % n = (i + k) % n := by rw [show i + (k + 1) + n - 1 = (i + k) + n by omega, Nat.add_mod_right]
    unfold st at hk
    rw [e1, e2] at hk
    rw [e3]
    generalize f ((i + k + n - 1) % n) = a at *
    generalize f ((i + k) % n) = b at *
    generalize f ((i + (k + 1)) % n) = c at *
    have ht : (three a b c).toNat = 4 * b2 a + 2 * b2 b + b2 c := by cases a <;> cases b <;> cases c <;> rfl
    rw [ht] at hk
    have hhit : hit r (w k) (4 * b2 a + 2 * b2 b + b2 c) := by
      unfold hit
      rw [← hk]
      have h2 := Int.emod_two_eq (r / 2 ^ (4 * b2 a + 2 * b2 b + b2 c))
      rcases h2 with h2 | h2 <;> rw [h2] <;> rfl
    show 0 < N r (w k) (C r w k) 8 (2 * b2 b + b2 c)
    have hj : 2 * b2 b + b2 c < 4 := by cases b <;> cases c <;> decide
    have hb := (N_bd (r := r) (b := w k) (B := 2 ^ k) (C_bd r w k) 8 _ hj).1
    have hne : N r (w k) (C r w k) 8 (2 * b2 b + b2 c) ≠ 0 := by
      rw [N_ne (fun i hi => (C_bd r w k i hi).1) hj]
      cases a
      · have e : (2 * b2 b + b2 c) / 2 = b2 b := by cases b <;> cases c <;> rfl
        refine .inl ⟨by simpa [b2] using hhit, ?_⟩
        rw [e]
        have : 2 * b2 false + b2 b = b2 b := by cases b <;> rfl
        rw [this] at ih; omega
      · have e : (2 * b2 b + b2 c + 4) / 2 = 2 * b2 true + b2 b := by cases b <;> cases c <;> rfl
        refine .inr ⟨by rw [show 2 * b2 b + b2 c + 4 = 4 * b2 true + 2 * b2 b + b2 c by simp [b2]; omega]; exact hhit, ?_⟩
        rw [e]; omega
    omega
theorem not_orphan {r : Int} {n m : Nat} {f w : Nat → Bool} (hn : 1 ≤ n) (hz : SF r w m = 0) (i : Nat) (h : ∀ j, j < m → st r n f ((i + j) % n) = w j) : False := by
  have h1 := ring_pos hn i m h
  have hj : 2 * b2 (f ((i + m + n - 1) % n)) + b2 (f ((i + m) % n)) < 4 := by
    cases f ((i + m + n - 1) % n) <;> cases f ((i + m) % n) <;> decide
  have h2 := (SF_C r w m _ hj).2 (by omega)
  rw [hz, Nat.zero_testBit] at h2; cases h2
end Go.Proofs.Ytnagdnbdpknniaa
