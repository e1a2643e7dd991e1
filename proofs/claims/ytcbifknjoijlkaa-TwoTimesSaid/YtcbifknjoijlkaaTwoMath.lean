/- Plain numbers: products of powers of 2, 3, 5 and 7. No condition. -/
namespace Go.Proofs.Ytcbifknjoijlkaa.TwoM
def pr : Nat → Nat | 0 => 2 | 1 => 3 | 2 => 5 | 3 => 7 | _ => 1
theorem pr_pos (i : Nat) : 1 ≤ pr i := by
  match i with
  | 0 => decide
  | 1 => decide
  | 2 => decide
  | 3 => decide
  | _ + 4 => exact Nat.le_refl 1
/-- the product from place i on, k places -/
def T (f : Nat → Nat) : Nat → Nat → Nat
  | _, 0 => 1
  | i, k + 1 => pr i ^ f i * T f (i + 1) k
theorem T_pos (f : Nat → Nat) (i k : Nat) : 1 ≤ T f i k := by
  induction k generalizing i with
  | zero => exact Nat.le_refl 1
  | succ k ih => exact Nat.mul_pos (Nat.pow_pos (pr_pos i)) (ih (i + 1))
theorem T_snoc (f : Nat → Nat) (i k : Nat) : T f i (k + 1) = T f i k * pr (i + k) ^ f (i + k) := by
  induction k generalizing i with
  | zero => simp [T]
  | succ k ih =>
    show pr i ^ f i * T f (i + 1) (k + 1) = pr i ^ f i * T f (i + 1) k * _
    rw [ih, Nat.mul_assoc, show i + 1 + k = i + (k + 1) by omega]
theorem T_add (f g : Nat → Nat) (i k : Nat) : T (fun j => f j + g j) i k = T f i k * T g i k := by
  induction k generalizing i with
  | zero => rfl
  | succ k ih =>
    show pr i ^ (f i + g i) * T _ (i + 1) k = pr i ^ f i * T f (i + 1) k * (pr i ^ g i * T g (i + 1) k)
    rw [ih, Nat.pow_add]
    simp only [Nat.mul_assoc, Nat.mul_left_comm]
theorem T_congr {f g : Nat → Nat} (i k : Nat) (h : ∀ j, i ≤ j → j < i + k → f j = g j) : T f i k = T g i k := by
  induction k generalizing i with
  | zero => rfl
  | succ k ih =>
    show pr i ^ f i * _ = pr i ^ g i * _
    rw [h i (Nat.le_refl _) (by omega), ih (i + 1) fun j a b => h j (by omega) (by omega)]
theorem pr_coprime {i j : Nat} (hi : i < 4) (hj : j < 4) (h : i ≠ j) : Nat.Coprime (pr i) (pr j) := by
  match i, hi, j, hj with
  | 0, _, 0, _ => omega
  | 0, _, 1, _ => decide
  | 0, _, 2, _ => decide
  | 0, _, 3, _ => decide
  | 1, _, 0, _ => decide
  | 1, _, 1, _ => omega
  | 1, _, 2, _ => decide
  | 1, _, 3, _ => decide
  | 2, _, 0, _ => decide
  | 2, _, 1, _ => decide
  | 2, _, 2, _ => omega
  | 2, _, 3, _ => decide
  | 3, _, 0, _ => decide
  | 3, _, 1, _ => decide
  | 3, _, 2, _ => decide
  | 3, _, 3, _ => omega
theorem T_coprime (f : Nat → Nat) {i j k : Nat} (h : i < j) (hk : j + k ≤ 4) : Nat.Coprime (pr i) (T f j k) := by
  induction k generalizing j with
  | zero => exact Nat.coprime_one_right _
  | succ k ih => exact Nat.Coprime.mul_right (Nat.Coprime.pow_right _ (pr_coprime (by omega) (by omega) (by omega))) (ih (by omega) (by omega))
theorem pr_two {i : Nat} (h : i < 4) : 2 ≤ pr i := by
  match i, h with
  | 0, _ => decide
  | 1, _ => decide
  | 2, _ => decide
  | 3, _ => decide
/-- what is left of place i's power and of the places behind it: divisible just if a power is left -/
theorem left_mod (f : Nat → Nat) {i k e : Nat} (hk : i + 1 + k ≤ 4) : (pr i ^ e * T f (i + 1) k) % pr i = 0 ↔ 0 < e := by
  constructor
  · intro h
    rcases Nat.eq_zero_or_pos e with rfl | h0
    · rw [Nat.pow_zero, Nat.one_mul] at h
      have hd := Nat.dvd_of_mod_eq_zero h
      have := Nat.Coprime.eq_one_of_dvd (T_coprime f (Nat.lt_succ_self i) hk) hd
      have := pr_two (show i < 4 by omega)
      omega
    · exact h0
  · intro h
    obtain ⟨e', rfl⟩ : ∃ e', e = e' + 1 := ⟨e - 1, by omega⟩
    rw [Nat.pow_succ, Nat.mul_comm (pr i ^ e'), Nat.mul_assoc]
    exact Nat.mul_mod_right _ _
theorem left_div (f : Nat → Nat) {i k e : Nat} : (pr i ^ (e + 1) * T f (i + 1) k) / pr i = pr i ^ e * T f (i + 1) k := by
  rw [Nat.pow_succ, Nat.mul_comm (pr i ^ e), Nat.mul_assoc]
  exact Nat.mul_div_cancel_left _ (pr_pos i)
/-- bounds -/
def Bd : Nat → Nat | 0 => 1 | 1 => 16 | 2 => 1296 | 3 => 810000 | _ => 1944810000
theorem Bd_succ {i : Nat} (h : i < 4) : Bd (i + 1) = Bd i * pr i ^ 4 := by
  match i, h with
  | 0, _ => decide
  | 1, _ => decide
  | 2, _ => decide
  | 3, _ => decide
theorem Bd_le (i : Nat) : Bd i ≤ 1944810000 := by
  match i with
  | 0 => decide
  | 1 => decide
  | 2 => decide
  | 3 => decide
  | _ + 4 => exact Nat.le_refl _
theorem T_bd {f : Nat → Nat} {k : Nat} (hk : k ≤ 4) (hf : ∀ i, i < k → f i ≤ 4) : T f 0 k ≤ Bd k := by
  induction k with
  | zero => exact Nat.le_refl 1
  | succ k ih =>
    rw [T_snoc, Nat.zero_add, Bd_succ (by omega)]
    exact Nat.mul_le_mul (ih (by omega) fun i hi => hf i (by omega)) (Nat.pow_le_pow_right (pr_pos k) (hf k (by omega)))
theorem step_bd {f : Nat → Nat} {k t : Nat} (hk : k < 4) (hf : ∀ i, i < k → f i ≤ 4) (ht : t ≤ 4) : T f 0 k * pr k ^ t ≤ 1944810000 := by
  have h := Nat.mul_le_mul (T_bd (Nat.le_of_lt hk) hf) (Nat.pow_le_pow_right (pr_pos k) ht)
  rw [← Bd_succ hk] at h
  exact Nat.le_trans h (Bd_le _)
theorem T_split (f : Nat → Nat) (i k j : Nat) : T f i (k + j) = T f i k * T f (i + k) j := by
  induction k generalizing i with
  | zero => simp [T]
  | succ k ih =>
    rw [show k + 1 + j = (k + j) + 1 by omega]
    show pr i ^ f i * T f (i + 1) (k + j) = pr i ^ f i * T f (i + 1) k * _
    rw [ih, Nat.mul_assoc, show i + 1 + k = i + (k + 1) by omega]
theorem T_tail_le (f : Nat → Nat) {k m : Nat} (h : k ≤ m) : T f k (m - k) ≤ T f 0 m := by
  have := T_split f 0 k (m - k)
  rw [show k + (m - k) = m by omega, Nat.zero_add] at this
  rw [this]
  exact Nat.le_mul_of_pos_left _ (T_pos f 0 k)
theorem left_le (f : Nat → Nat) {k m t : Nat} (h : k < m) : pr k ^ (f k - t) * T f (k + 1) (m - (k + 1)) ≤ T f 0 m := by
  refine Nat.le_trans ?_ (T_tail_le f (Nat.le_of_lt h))
  rw [show m - k = (m - (k + 1)) + 1 by omega]
  exact Nat.mul_le_mul_right _ (Nat.pow_le_pow_right (pr_pos k) (Nat.sub_le _ _))
end Go.Proofs.Ytcbifknjoijlkaa.TwoM
