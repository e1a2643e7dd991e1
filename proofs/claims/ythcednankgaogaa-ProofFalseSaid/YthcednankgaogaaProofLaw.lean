/- Plain numbers: sums of folded tables, line by line, modulo 7. No condition. -/
import Derived.Test.YthcednankgaogaaProofMath
namespace Go.Proofs.Ythcednankgaogaa.ProofM
set_option linter.unusedVariables false
def SMp (g : Nat → Int) : Nat → Int
  | 0 => 0
  | k + 1 => SMp g k + g k
/-- those of one parity, reduced at each step -/
def SYp (g : Nat → Int) (b : Nat) : Nat → Int
  | 0 => 0
  | k + 1 => if k % 2 = b then (SYp g b k + g k) % 7 else SYp g b k
theorem SYp_bd (g : Nat → Int) (b k : Nat) : 0 ≤ SYp g b k ∧ SYp g b k ≤ 6 := by
  induction k with
  | zero => exact ⟨Int.le_refl _, by show (0 : Int) ≤ 6; decide⟩
  | succ k ih => simp only [SYp]; split <;> omega
theorem SMp_bd {g : Nat → Int} {m : Nat} (h : ∀ i, i < m → 0 ≤ g i ∧ g i ≤ 6) : ∀ k, k ≤ m → 0 ≤ SMp g k ∧ SMp g k ≤ 6 * k := by
  intro k
  induction k with
  | zero => intro _; exact ⟨Int.le_refl _, Int.le_refl _⟩
  | succ k ih => intro hk; have := ih (by omega); have := h k (by omega); simp only [SMp]; omega
theorem SMp_congr {g h : Nat → Int} {k : Nat} (e : ∀ i, i < k → g i = h i) : SMp g k = SMp h k := by
  induction k with
  | zero => rfl
  | succ k ih => simp only [SMp]; rw [ih fun i hi => e i (by omega), e k (by omega)]
theorem SY_step (g : Nat → Int) (L : Nat) : SYp g 0 (2 * (L + 1)) = (SYp g 0 (2 * L) + g (2 * L)) % 7 ∧ SYp g 1 (2 * (L + 1)) = (SYp g 1 (2 * L) + g (2 * L + 1)) % 7 := by
  rw [show 2 * (L + 1) = 2 * L + 1 + 1 by omega]
  simp only [SYp]
  rw [if_neg (show ¬ (2 * L + 1) % 2 = 0 by omega), if_pos (show 2 * L % 2 = 0 by omega), if_pos (show (2 * L + 1) % 2 = 1 by omega), if_neg (show ¬ 2 * L % 2 = 1 by omega)]
  exact ⟨rfl, rfl⟩
theorem SY_pair (g : Nat → Int) (L : Nat) : (SYp g 0 (2 * L) + SYp g 1 (2 * L)) % 7 = SMp g (2 * L) % 7 := by
  induction L with
  | zero => rfl
  | succ L ih =>
    obtain ⟨h0, h1⟩ := SY_step g L
    have e : SMp g (2 * (L + 1)) = SMp g (2 * L) + g (2 * L) + g (2 * L + 1) := rfl
    rw [h0, h1, e]; omega
theorem mod_mul (a c : Int) : (a % 7 * c) % 7 = (a * c) % 7 := by rw [Int.mul_emod, Int.emod_emod, ← Int.mul_emod]
theorem LN_add (a b u v x : Int) : LN ((a + u) % 7) ((b + v) % 7) x = (LN a b x + LN u v x) % 7 := by
  unfold LN
  have h1 := mod_mul (a + u) (8 - x)
  have h2 := mod_mul (b + v) x
  rw [Int.add_mul] at h1 h2
  generalize (a + u) % 7 * (8 - x) = P at h1 ⊢
  generalize (b + v) % 7 * x = Q at h2 ⊢
  generalize a * (8 - x) = A at h1 ⊢
  generalize u * (8 - x) = U at h1 ⊢
  generalize b * x = B at h2 ⊢
  generalize v * x = V at h2 ⊢
  omega
theorem SY_line (g : Nat → Int) (x : Int) (L : Nat) : LN (SYp g 0 (2 * L)) (SYp g 1 (2 * L)) x = SMp (fun j => LN (g (2 * j)) (g (2 * j + 1)) x) L % 7 := by
  induction L with
  | zero => show (0 * (8 - x) + 0 * x) % 7 = 0 % 7; simp
  | succ L ih =>
    obtain ⟨h0, h1⟩ := SY_step g L
    rw [h0, h1, LN_add, ih]
    have e : SMp (fun j => LN (g (2 * j)) (g (2 * j + 1)) x) (L + 1) = SMp (fun j => LN (g (2 * j)) (g (2 * j + 1)) x) L + LN (g (2 * L)) (g (2 * L + 1)) x := rfl
    rw [e]; omega
/-- what is left of the sum, behind j dice -/
def TT (f t : Nat → Int) (n j : Nat) : Int := SMp (FD f t j) (2 ^ (n - j)) % 7
theorem pow_half {n j : Nat} (h : j < n) : 2 ^ (n - j) = 2 * 2 ^ (n - (j + 1)) := by rw [show n - j = (n - (j + 1)) + 1 by omega, Nat.pow_succ]; omega
theorem TT_pair {f t : Nat → Int} {n j : Nat} (h : j < n) : (SYp (FD f t j) 0 (2 ^ (n - j)) + SYp (FD f t j) 1 (2 ^ (n - j))) % 7 = TT f t n j := by
  unfold TT; rw [pow_half h]; exact SY_pair _ _
theorem TT_next {f t : Nat → Int} {n j : Nat} (h : j < n) : LN (SYp (FD f t j) 0 (2 ^ (n - j))) (SYp (FD f t j) 1 (2 ^ (n - j))) (t j) = TT f t n (j + 1) := by
  unfold TT; rw [pow_half h]; exact SY_line _ _ _
theorem TT_last {f t : Nat → Int} {n : Nat} (h : 0 ≤ FD f t n 0 ∧ FD f t n 0 ≤ 6) : TT f t n n = FD f t n 0 := by
  unfold TT; rw [Nat.sub_self]; show (0 + FD f t n 0) % 7 = _; omega
/-- what the checker holds the sum to be, behind j lines -/
def tot (P t : Nat → Int) (s : Int) : Nat → Int
  | 0 => s
  | k + 1 => LN (P (2 * k)) (P (2 * k + 1)) (t k)
/-- is all right with the first k lines -/
def okL (P t : Nat → Int) (s : Int) (k : Nat) : Prop := ∀ j, j < k → (P (2 * j) + P (2 * j + 1)) % 7 = tot P t s j
end Go.Proofs.Ythcednankgaogaa.ProofM
