/- The plain law of the signed and the unsigned sums over all ways (e = -1, e = 1): turned round, rows added, rows exchanged. Condition: e * e = 1. -/
import Derived.Test.YtnfibchffbdmpaaSumI
namespace Go.Proofs.Ytnfibchffbdmpaa
set_option linter.unusedVariables false
/-- by the first column -/
def dt (e : Int) : Nat → (Nat → Nat → Int) → Int
  | 0, _ => 1
  | n + 1, A => sumI (fun i => e ^ i * (A i 0 * dt e n (fun a b => A (skp i a) (b + 1)))) (n + 1)
theorem dt_succ (e : Int) (n : Nat) (A : Nat → Nat → Int) : dt e (n + 1) A = sumI (fun i => e ^ i * (A i 0 * dt e n (fun a b => A (skp i a) (b + 1)))) (n + 1) := rfl
theorem skp_bd {p k n : Nat} (hk : k < n) : skp p k < n + 1 := by have := skp_le p k; omega
theorem dt_congr (e : Int) : ∀ {n : Nat} {A B : Nat → Nat → Int}, (∀ i, i < n → ∀ j, j < n → A i j = B i j) → dt e n A = dt e n B
  | 0, _, _, _ => rfl
  | n + 1, A, B, h => by
    rw [dt_succ, dt_succ]
    refine sumI_congr fun i hi => ?_
    rw [h i hi 0 (by omega), dt_congr e (A := fun a b => A (skp i a) (b + 1)) (B := fun a b => B (skp i a) (b + 1)) fun a ha b hb => h _ (skp_bd ha) _ (by omega)]
theorem skp_ss (i a : Nat) : skp (i + 1) (a + 1) = skp i a + 1 := by unfold skp; split <;> split <;> omega
/-- by the first row -/
theorem dt_row (e : Int) : ∀ (n : Nat) (A : Nat → Nat → Int), dt e (n + 1) A = sumI (fun j => e ^ j * (A 0 j * dt e n (fun a b => A (a + 1) (skp j b)))) (n + 1)
  | 0, A => rfl
  | n + 1, A => by
    rw [dt_succ, sumI_first, sumI_first (fun j => e ^ j * (A 0 j * dt e (n + 1) (fun a b => A (a + 1) (skp j b))))]
    have h0 : dt e (n + 1) (fun a b => A (skp 0 a) (b + 1)) = dt e (n + 1) (fun a b => A (a + 1) (skp 0 b)) := rfl
    rw [h0]
    congr 1
    have h1 : ∀ i, i < n + 1 → e ^ (i + 1) * (A (i + 1) 0 * dt e (n + 1) (fun a b => A (skp (i + 1) a) (b + 1))) =
        sumI (fun j => e ^ (i + j + 1) * (A (i + 1) 0 * A 0 (j + 1) * dt e n (fun a b => A (skp i a + 1) (skp j b + 1)))) (n + 1) := fun i hi => by
      rw [dt_row e n (fun a b => A (skp (i + 1) a) (b + 1)), ← sumI_mul, ← sumI_mul]
      refine sumI_congr fun j hj => ?_
      have e1 : skp (i + 1) 0 = 0 := rfl
      simp only [skp_ss, e1]
      rw [show i + j + 1 = (i + 1) + j by omega, Int.pow_add e (i + 1) j]
      grind
    have h2 : ∀ j, j < n + 1 → e ^ (j + 1) * (A 0 (j + 1) * dt e (n + 1) (fun a b => A (a + 1) (skp (j + 1) b))) =
        sumI (fun i => e ^ (i + j + 1) * (A (i + 1) 0 * A 0 (j + 1) * dt e n (fun a b => A (skp i a + 1) (skp j b + 1)))) (n + 1) := fun j hj => by
      rw [dt_succ, ← sumI_mul, ← sumI_mul]
      refine sumI_congr fun i hi => ?_
      have e1 : skp (j + 1) 0 = 0 := rfl
      simp only [skp_ss, e1]
      rw [show i + j + 1 = (j + 1) + i by omega, Int.pow_add e (j + 1) i]
      grind
    rw [sumI_congr h1, sumI_congr h2, sumI_swap]
theorem dt_turn (e : Int) : ∀ (n : Nat) (A : Nat → Nat → Int), dt e n (fun i j => A j i) = dt e n A
  | 0, _ => rfl
  | n + 1, A => by
    rw [dt_row e n A, dt_succ]
    refine sumI_congr fun i hi => ?_
    have := dt_turn e n (fun a b => A (a + 1) (skp i b))
    rw [← this]
theorem dt_add (e : Int) : ∀ {n : Nat} {A B C : Nat → Nat → Int} (k : Nat), k < n → (∀ j, j < n → A k j = B k j + C k j) → (∀ i, i < n → i ≠ k → ∀ j, j < n → A i j = B i j ∧ A i j = C i j) → dt e n A = dt e n B + dt e n C
  | n + 1, A, B, C, k, hk, h1, h2 => by
    rw [dt_succ, dt_succ, dt_succ, ← sumI_add]
    refine sumI_congr fun i hi => ?_
    by_cases he : i = k
    · subst he
      have e1 : dt e n (fun a b => A (skp i a) (b + 1)) = dt e n (fun a b => B (skp i a) (b + 1)) := dt_congr e fun a ha b hb => (h2 _ (skp_bd ha) (skp_ne i a) _ (by omega)).1
      have e2 : dt e n (fun a b => A (skp i a) (b + 1)) = dt e n (fun a b => C (skp i a) (b + 1)) := dt_congr e fun a ha b hb => (h2 _ (skp_bd ha) (skp_ne i a) _ (by omega)).2
      rw [← e1, ← e2, h1 0 (by omega)]
      grind
    · obtain ⟨k', hk', hs⟩ : ∃ k', k' < n ∧ skp i k' = k := by
        rcases Nat.lt_or_ge k i with l | l
        · exact ⟨k, by omega, skp_lt l⟩
        · exact ⟨k - 1, by omega, by rw [skp_ge (by omega)]; omega⟩
      have e3 := dt_add e (A := fun a b => A (skp i a) (b + 1)) (B := fun a b => B (skp i a) (b + 1)) (C := fun a b => C (skp i a) (b + 1)) k' hk' (fun j hj => by rw [hs]; exact h1 _ (by omega)) fun a ha hne b hb => h2 _ (skp_bd ha) (fun h => hne (by unfold skp at h hs; split at h <;> split at hs <;> omega)) _ (by omega)
      rw [e3, (h2 i hi he 0 (by omega)).1.symm, (h2 i hi he 0 (by omega)).2.symm]
      grind
theorem dt_scale (e c : Int) : ∀ {n : Nat} {A B : Nat → Nat → Int} (k : Nat), k < n → (∀ j, j < n → A k j = c * B k j) → (∀ i, i < n → i ≠ k → ∀ j, j < n → A i j = B i j) → dt e n A = c * dt e n B
  | n + 1, A, B, k, hk, h1, h2 => by
    rw [dt_succ, dt_succ, ← sumI_mul]
    refine sumI_congr fun i hi => ?_
    by_cases he : i = k
    · subst he
      have e1 : dt e n (fun a b => A (skp i a) (b + 1)) = dt e n (fun a b => B (skp i a) (b + 1)) := dt_congr e fun a ha b hb => h2 _ (skp_bd ha) (skp_ne i a) _ (by omega)
      rw [← e1, h1 0 (by omega)]
      grind
    · obtain ⟨k', hk', hs⟩ : ∃ k', k' < n ∧ skp i k' = k := by
        rcases Nat.lt_or_ge k i with l | l
        · exact ⟨k, by omega, skp_lt l⟩
        · exact ⟨k - 1, by omega, by rw [skp_ge (by omega)]; omega⟩
      have e3 := dt_scale e c (A := fun a b => A (skp i a) (b + 1)) (B := fun a b => B (skp i a) (b + 1)) k' hk' (fun j hj => by rw [hs]; exact h1 _ (by omega)) fun a ha hne b hb => h2 _ (skp_bd ha) (fun h => hne (by unfold skp at h hs; split at h <;> split at hs <;> omega)) _ (by omega)
      rw [e3, (h2 i hi he 0 (by omega))]
      grind
/-- k and k + 1 change places -/
def adj (k i : Nat) : Nat := if i = k then k + 1 else if i = k + 1 then k else i
theorem adj_lt {k i n : Nat} (hk : k + 1 < n) (hi : i < n) : adj k i < n := by unfold adj; split <;> (try split) <;> omega
theorem sumI_adj (f : Nat → Int) {k : Nat} : ∀ {n : Nat}, k + 1 < n → sumI (fun i => f (adj k i)) n = sumI f n
  | n + 1, h => by
    rcases Nat.lt_or_ge (k + 1) n with l | l
    · show sumI (fun i => f (adj k i)) n + f (adj k n) = sumI f n + f n
      rw [sumI_adj f l, show adj k n = n by unfold adj; rw [if_neg (by omega), if_neg (by omega)]]
    · obtain rfl : n = k + 1 := by omega
      show (sumI (fun i => f (adj k i)) k + f (adj k k)) + f (adj k (k + 1)) = (sumI f k + f k) + f (k + 1)
      have e1 : adj k k = k + 1 := if_pos rfl
      have e2 : adj k (k + 1) = k := by unfold adj; rw [if_neg (by omega), if_pos rfl]
      rw [e1, e2, sumI_congr (f := fun i => f (adj k i)) (g := f) fun i hi => by
        show f (adj k i) = f i
        rw [show adj k i = i by unfold adj; rw [if_neg (by omega), if_neg (by omega)]]]
      omega
theorem adj_skp1 (k a : Nat) : adj k (skp k a) = skp (k + 1) a := by unfold adj skp; (repeat' split) <;> omega
theorem adj_skp2 (k a : Nat) : adj k (skp (k + 1) a) = skp k a := by unfold adj skp; (repeat' split) <;> omega
theorem dt_adj (e : Int) (he : e * e = 1) : ∀ {n : Nat} {A : Nat → Nat → Int} (k : Nat), k + 1 < n → dt e n (fun i j => A (adj k i) j) = e * dt e n A
  | n + 1, A, k, hk => by
    rw [dt_succ, dt_succ, ← sumI_mul, ← sumI_adj (fun i => e * (e ^ i * (A i 0 * dt e n (fun a b => A (skp i a) (b + 1))))) hk]
    refine sumI_congr fun i hi => ?_
    by_cases h1 : i = k
    · subst h1
      have e1 : adj i i = i + 1 := if_pos rfl
      simp only [e1, adj_skp1]
      rw [Int.pow_succ]
      grind
    · by_cases h2 : i = k + 1
      · subst h2
        have e2 : adj k (k + 1) = k := by unfold adj; rw [if_neg (by omega), if_pos rfl]
        simp only [e2, adj_skp2]
        rw [Int.pow_succ]
        grind
      · have e3 : adj k i = i := by unfold adj; rw [if_neg (by omega), if_neg (by omega)]
        obtain ⟨k', hk', hs⟩ : ∃ k', k' + 1 < n ∧ ∀ a, adj k (skp i a) = skp i (adj k' a) := by
          rcases Nat.lt_or_ge k i with l | l
          · refine ⟨k, by omega, fun a => ?_⟩
            unfold adj skp; (repeat' split) <;> omega
          · refine ⟨k - 1, by omega, fun a => ?_⟩
            unfold adj skp; (repeat' split) <;> omega
        simp only [e3, hs]
        have h4 := dt_adj e he (A := fun a b => A (skp i a) (b + 1)) k' hk'
        rw [h4]
        grind
theorem dt_swp_up (e : Int) (he : e * e = 1) {n : Nat} (p : Nat) : ∀ (d : Nat) (A : Nat → Nat → Int), p + d + 1 < n → dt e n (fun i j => A (if i = p then p + d + 1 else if i = p + d + 1 then p else i) j) = e * dt e n A
  | 0, A, h => by
    have := dt_adj e he (A := A) p h
    rw [← this]
    rfl
  | d + 1, A, h => by
    have h1 := dt_adj e he (n := n) (A := A) (p + d + 1) (by omega)
    have h2 := dt_swp_up e he (n := n) p d (fun i j => A (adj (p + d + 1) i) j) (by omega)
    have h3 := dt_adj e he (n := n) (A := fun i j => A (adj (p + d + 1) (if i = p then p + d + 1 else if i = p + d + 1 then p else i)) j) (p + d + 1) (by omega)
    rw [h2, h1] at h3
    have h4 : dt e n (fun i j => A (if i = p then p + (d + 1) + 1 else if i = p + (d + 1) + 1 then p else i) j) = dt e n (fun i j => A (adj (p + d + 1) (if adj (p + d + 1) i = p then p + d + 1 else if adj (p + d + 1) i = p + d + 1 then p else adj (p + d + 1) i)) j) := by
      refine dt_congr e fun i hi j hj => ?_
      congr 1
      unfold adj
      (repeat' split) <;> omega
    rw [h4, h3]
    grind
theorem dt_swp (e : Int) (he : e * e = 1) {n : Nat} (A : Nat → Nat → Int) {p q : Nat} (hp : p < n) (hq : q < n) (hne : p ≠ q) : dt e n (fun i j => A (if i = p then q else if i = q then p else i) j) = e * dt e n A := by
  rcases Nat.lt_or_ge p q with l | l
  · obtain ⟨d, rfl⟩ : ∃ d, q = p + d + 1 := ⟨q - p - 1, by omega⟩
    exact dt_swp_up e he p d A hq
  · obtain ⟨d, rfl⟩ : ∃ d, p = q + d + 1 := ⟨p - q - 1, by omega⟩
    rw [← dt_swp_up e he q d A hp]
    refine dt_congr e fun i hi j hj => ?_
    congr 1
    (repeat' split) <;> omega
/-- both are alike but for twos -/
theorem dt_even (e e' : Int) (h : e % 2 = 1) (h' : e' % 2 = 1) : ∀ (n : Nat) (A : Nat → Nat → Int), dt e n A % 2 = dt e' n A % 2
  | 0, _ => rfl
  | n + 1, A => by
    have hpow : ∀ (x : Int), x % 2 = 1 → ∀ k : Nat, x ^ k % 2 = 1 := fun x hx k => by
      induction k with
      | zero => simp
      | succ k ih => rw [Int.pow_succ, Int.mul_emod, ih, hx]; rfl
    have hsum : ∀ (f g : Nat → Int) (k : Nat), (∀ i, i < k → f i % 2 = g i % 2) → sumI f k % 2 = sumI g k % 2 := fun f g k => by
      induction k with
      | zero => intro _; rfl
      | succ k ih =>
        intro hh
        show (sumI f k + f k) % 2 = (sumI g k + g k) % 2
        have a := ih fun i hi => hh i (by omega)
        have b := hh k (by omega)
        omega
    rw [dt_succ, dt_succ]
    refine hsum _ _ _ fun i hi => ?_
    rw [Int.mul_emod, hpow e h, Int.mul_emod (e' ^ i), hpow e' h', Int.mul_emod (A i 0), dt_even e e' h h' n, ← Int.mul_emod]
/-- how great the sum may be -/
def bdD (M : Int) : Nat → Int
  | 0 => 1
  | n + 1 => ((n + 1 : Nat) : Int) * (M * bdD M n)
theorem sumI_bd {f : Nat → Int} {b : Int} : ∀ {n : Nat}, (∀ i, i < n → -b ≤ f i ∧ f i ≤ b) → -((n : Int) * b) ≤ sumI f n ∧ sumI f n ≤ (n : Int) * b
  | 0, _ => by simp [sumI]
  | n + 1, h => by
    have a := sumI_bd (f := f) (b := b) (n := n) fun i hi => h i (by omega)
    have c := h n (by omega)
    have e : ((n + 1 : Nat) : Int) * b = (n : Int) * b + b := by rw [Int.natCast_add, Int.add_mul]; simp
    rw [e]
    show -((n : Int) * b + b) ≤ sumI f n + f n ∧ sumI f n + f n ≤ (n : Int) * b + b
    omega
theorem mul_bd {x y a b : Int} (hx : -a ≤ x ∧ x ≤ a) (hy : -b ≤ y ∧ y ≤ b) : -(a * b) ≤ x * y ∧ x * y ≤ a * b := by
  have h1 : x.natAbs ≤ a.natAbs := by omega
  have h2 : y.natAbs ≤ b.natAbs := by omega
  have h3 := Nat.mul_le_mul h1 h2
  rw [← Int.natAbs_mul, ← Int.natAbs_mul] at h3
  have h4 : 0 ≤ a * b := Int.mul_nonneg (by omega) (by omega)
  omega
theorem dt_bd (e M : Int) (he : e = 1 ∨ e = -1) : ∀ {n : Nat} {A : Nat → Nat → Int}, (∀ i, i < n → ∀ j, j < n → -M ≤ A i j ∧ A i j ≤ M) → -bdD M n ≤ dt e n A ∧ dt e n A ≤ bdD M n
  | 0, _, _ => by simp [dt, bdD]
  | n + 1, A, h => by
    rw [dt_succ]
    refine sumI_bd fun i hi => ?_
    have h1 := dt_bd e M he (n := n) (A := fun a b => A (skp i a) (b + 1)) fun a ha b hb => h _ (skp_bd ha) _ (by omega)
    have h2 := mul_bd (h i hi 0 (by omega)) h1
    have h3 : e ^ i = 1 ∨ e ^ i = -1 := by
      clear h1 h2 hi
      induction i with
      | zero => exact .inl (by simp)
      | succ i ih =>
        rw [Int.pow_succ]
        rcases ih with k | k <;> rcases he with l | l <;> rw [k, l] <;> decide
    rcases h3 with k | k <;> rw [k] <;> omega
end Go.Proofs.Ytnfibchffbdmpaa
