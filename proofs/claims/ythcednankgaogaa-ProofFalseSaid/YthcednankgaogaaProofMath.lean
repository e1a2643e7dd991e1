/- Plain numbers: folding place by place, modulo 7. No condition. -/
namespace Go.Proofs.Ythcednankgaogaa.ProofM
def LN (p q x : Int) : Int := (p * (8 - x) + q * x) % 7
theorem LN_bd (p q x : Int) : 0 ≤ LN p q x ∧ LN p q x ≤ 6 := by unfold LN; omega
theorem LN_zero {p q : Int} (h : 0 ≤ p ∧ p ≤ 6) : LN p q 0 = p := by unfold LN; omega
theorem LN_one {p q : Int} (h : 0 ≤ q ∧ q ≤ 6) : LN p q 1 = q := by unfold LN; omega
/-- the first j places folded -/
def FD (f a : Nat → Int) : Nat → Nat → Int
  | 0, i => f i
  | j + 1, i => LN (FD f a j (2 * i)) (FD f a j (2 * i + 1)) (a j)
theorem FD_bd {f a : Nat → Int} {m : Nat} (h : ∀ i, i < m → 0 ≤ f i ∧ f i ≤ 6) : ∀ j i, (i + 1) * 2 ^ j ≤ m → 0 ≤ FD f a j i ∧ FD f a j i ≤ 6
  | 0, i, hi => h i (by simp at hi; omega)
  | j + 1, i, _ => LN_bd _ _ _
theorem FD_congr {f a b : Nat → Int} (j : Nat) : (∀ r, r < j → a r = b r) → ∀ i, FD f a j i = FD f b j i := by
  induction j with
  | zero => intro _ i; rfl
  | succ j ih => intro h i; simp only [FD]; rw [ih fun r hr => h r (by omega), ih fun r hr => h r (by omega), h j (by omega)]
/-- at the bits of k: what stands there -/
theorem FD_word {f : Nat → Int} {n : Nat} (h : ∀ i, i < 2 ^ n → 0 ≤ f i ∧ f i ≤ 6) {k : Nat} {a : Nat → Int} (ha : ∀ r, a r = ((k / 2 ^ r % 2 : Nat) : Int)) :
    ∀ j, j ≤ n → ∀ i, i < 2 ^ (n - j) → FD f a j i = f (i * 2 ^ j + k % 2 ^ j) := by
  intro j
  induction j with
  | zero => intro _ i hi; simp [FD, Nat.mod_one]
  | succ j ih =>
    intro hj i hi
    have e0 : 2 ^ (n - j) = 2 * 2 ^ (n - (j + 1)) := by rw [show n - j = (n - (j + 1)) + 1 by omega, Nat.pow_succ]; omega
    have h1 := ih (by omega) (2 * i) (by omega)
    have h2 := ih (by omega) (2 * i + 1) (by omega)
    simp only [FD]
    rw [h1, h2, ha j]
    have hk : k % 2 ^ j < 2 ^ j := Nat.mod_lt _ (Nat.pow_pos (by omega))
    have en : 2 ^ n = 2 ^ (n - j) * 2 ^ j := by rw [← Nat.pow_add]; congr 1; omega
    have em : k % 2 ^ (j + 1) = k % 2 ^ j + 2 ^ j * (k / 2 ^ j % 2) := by rw [Nat.pow_succ, Nat.mod_mul]
    have lt : ∀ i', i' < 2 ^ (n - j) → i' * 2 ^ j + k % 2 ^ j < 2 ^ n := fun i' h' => by
      have h4 : (i' + 1) * 2 ^ j ≤ 2 ^ (n - j) * 2 ^ j := Nat.mul_le_mul_right _ h'
      rw [en]
      rw [Nat.add_mul] at h4
      omega
    have b1 := h _ (lt (2 * i) (by omega))
    have b2 := h _ (lt (2 * i + 1) (by omega))
    have e5 : i * 2 ^ (j + 1) = 2 * i * 2 ^ j := by rw [Nat.pow_succ, Nat.mul_comm (2 ^ j) 2, ← Nat.mul_assoc, Nat.mul_comm i 2]
    rcases (show k / 2 ^ j % 2 = 0 ∨ k / 2 ^ j % 2 = 1 by omega) with hb | hb
    · rw [hb] at em
      have : ((0 : Nat) : Int) = 0 := rfl
      rw [hb, this, LN_zero b1, em, e5]
      congr 1
    · rw [hb] at em
      have : ((1 : Nat) : Int) = 1 := rfl
      rw [hb, this, LN_one b2, em, e5]
      congr 1
      rw [Nat.add_mul, Nat.one_mul, Nat.mul_one]; omega
/-- one place half way -/
theorem lin7 {p q p0 q0 p1 q1 x y : Int} (hp : p % 7 = (p0 * (8 - x) + p1 * x) % 7) (hq : q % 7 = (q0 * (8 - x) + q1 * x) % 7) : LN p q y = (LN p0 q0 y * (8 - x) + LN p1 q1 y * x) % 7 := by
  unfold LN
  have e1 : (p * (8 - y) + q * y) % 7 = ((p0 * (8 - x) + p1 * x) * (8 - y) + (q0 * (8 - x) + q1 * x) * y) % 7 := by
    rw [Int.add_emod, Int.mul_emod, hp, ← Int.mul_emod, Int.mul_emod q, hq, ← Int.mul_emod, ← Int.add_emod]
  have e2 : (((p0 * (8 - y) + q0 * y) % 7) * (8 - x) + ((p1 * (8 - y) + q1 * y) % 7) * x) % 7 = ((p0 * (8 - y) + q0 * y) * (8 - x) + (p1 * (8 - y) + q1 * y) * x) % 7 := by
    rw [Int.add_emod, Int.mul_emod, Int.emod_emod, ← Int.mul_emod, Int.mul_emod ((p1 * (8 - y) + q1 * y) % 7), Int.emod_emod, ← Int.mul_emod, ← Int.add_emod]
  rw [e1, e2]
  congr 1
  rw [Int.add_mul, Int.add_mul, Int.add_mul, Int.add_mul, Int.mul_right_comm p0, Int.mul_right_comm p1, Int.mul_right_comm q0, Int.mul_right_comm q1]
  omega
theorem FD_line {f a : Nat → Int} {r : Nat} {x : Int} : ∀ j, r < j → ∀ i,
    FD f (fun s => if s = r then x else a s) j i % 7 = (FD f (fun s => if s = r then 0 else a s) j i * (8 - x) + FD f (fun s => if s = r then 1 else a s) j i * x) % 7 := by
  intro j
  induction j with
  | zero => intro h; omega
  | succ j ih =>
    intro hr i
    by_cases e : r = j
    · subst e
      have c : ∀ (y : Int) (i : Nat), FD f (fun s => if s = r then y else a s) r i = FD f a r i := fun y i => FD_congr r (fun s hs => by simp [show s ≠ r by omega]) i
      simp only [FD, if_pos]
      rw [c, c, c, c, c, c]
      obtain ⟨P, hP⟩ : ∃ P, P = FD f a r (2 * i) := ⟨_, rfl⟩
      obtain ⟨Q, hQ⟩ : ∃ Q, Q = FD f a r (2 * i + 1) := ⟨_, rfl⟩
      rw [← hP, ← hQ]
      unfold LN
      rw [Int.emod_emod, Int.add_emod (a := (P * (8 - 0) + Q * 0) % 7 * (8 - x)), Int.mul_emod ((P * (8 - 0) + Q * 0) % 7), Int.emod_emod, show (P * (8 - 0) + Q * 0) % 7 = P % 7 by omega, ← Int.mul_emod,
        Int.mul_emod ((P * (8 - 1) + Q * 1) % 7), Int.emod_emod, show (P * (8 - 1) + Q * 1) % 7 = Q % 7 by omega, ← Int.mul_emod, ← Int.add_emod]
    · have h1 := ih (by omega) (2 * i)
      have h2 := ih (by omega) (2 * i + 1)
      simp only [FD, if_neg (show ¬ j = r by omega)]
      rw [lin7 h1 h2, Int.emod_emod]
theorem mul_bd {x y X Y : Int} (hx : -X ≤ x ∧ x ≤ X) (hy : -Y ≤ y ∧ y ≤ Y) : -(X * Y) ≤ x * y ∧ x * y ≤ X * Y := by
  have h : ∀ u v : Int, u ≤ X → v ≤ Y → 0 ≤ u → 0 ≤ v → u * v ≤ X * Y := fun u v a b c d => Int.mul_le_mul a b d (by omega)
  have g : ∀ u v : Int, 0 ≤ u → 0 ≤ v → 0 ≤ u * v := fun u v a b => Int.mul_nonneg a b
  rcases Int.le_total 0 x with a | a <;> rcases Int.le_total 0 y with b | b
  · have := h x y hx.2 hy.2 a b; have := g x y a b; omega
  · have := h x (-y) hx.2 (by omega) a (by omega); have := g x (-y) a (by omega); rw [Int.mul_neg] at *; omega
  · have := h (-x) y (by omega) hy.2 (by omega) b; have := g (-x) y (by omega) b; rw [Int.neg_mul] at *; omega
  · have := h (-x) (-y) (by omega) (by omega) (by omega) (by omega); have := g (-x) (-y) (by omega) (by omega); rw [Int.neg_mul_neg] at *; omega
end Go.Proofs.Ythcednankgaogaa.ProofM
