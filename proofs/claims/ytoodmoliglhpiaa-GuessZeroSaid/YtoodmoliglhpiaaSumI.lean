/- Sums of whole numbers. No condition. -/
namespace Go.Proofs.Ytoodmoliglhpiaa
set_option linter.unusedVariables false
/-- f 0 + .. + f (n - 1) -/
def sumI (f : Nat → Int) : Nat → Int
  | 0 => 0
  | n + 1 => sumI f n + f n
theorem sumI_congr {f g : Nat → Int} : ∀ {n}, (∀ i, i < n → f i = g i) → sumI f n = sumI g n
  | 0, _ => rfl
  | n + 1, h => by
    show sumI f n + f n = sumI g n + g n
    rw [sumI_congr fun i hi => h i (by omega), h n (by omega)]
theorem sumI_add (f g : Nat → Int) : ∀ n, sumI (fun i => f i + g i) n = sumI f n + sumI g n
  | 0 => rfl
  | n + 1 => by
    show sumI (fun i => f i + g i) n + (f n + g n) = (sumI f n + f n) + (sumI g n + g n)
    rw [sumI_add f g n]; omega
theorem sumI_mul (c : Int) (f : Nat → Int) : ∀ n, sumI (fun i => c * f i) n = c * sumI f n
  | 0 => by show (0 : Int) = c * 0; rw [Int.mul_zero]
  | n + 1 => by
    show sumI (fun i => c * f i) n + c * f n = c * (sumI f n + f n)
    rw [sumI_mul c f n, Int.mul_add]
theorem sumI_mulr (c : Int) (f : Nat → Int) (n : Nat) : sumI (fun i => f i * c) n = sumI f n * c := by
  rw [Int.mul_comm, ← sumI_mul]
  exact sumI_congr fun i _ => Int.mul_comm _ _
theorem sumI_neg (f : Nat → Int) : ∀ n, sumI (fun i => - f i) n = - sumI f n
  | 0 => rfl
  | n + 1 => by
    show sumI (fun i => - f i) n + - f n = - (sumI f n + f n)
    rw [sumI_neg f n]; omega
theorem sumI_zero {f : Nat → Int} : ∀ {n}, (∀ i, i < n → f i = 0) → sumI f n = 0
  | 0, _ => rfl
  | n + 1, h => by
    show sumI f n + f n = 0
    rw [sumI_zero fun i hi => h i (by omega), h n (by omega)]; rfl
theorem sumI_swap (f : Nat → Nat → Int) (m : Nat) : ∀ n, sumI (fun i => sumI (f i) m) n = sumI (fun j => sumI (fun i => f i j) n) m
  | 0 => (sumI_zero fun _ _ => rfl).symm
  | n + 1 => by
    show sumI (fun i => sumI (f i) m) n + sumI (f n) m = sumI (fun j => sumI (fun i => f i j) n + f n j) m
    rw [sumI_add, sumI_swap f m n]
theorem sumI_one {f : Nat → Int} {k : Nat} : ∀ {n}, k < n → (∀ i, i < n → i ≠ k → f i = 0) → sumI f n = f k
  | n + 1, hk, h => by
    show sumI f n + f n = f k
    rcases Nat.lt_or_ge k n with l | l
    · rw [sumI_one l fun i hi hne => h i (by omega) hne, h n (by omega) (by omega)]; omega
    · obtain rfl : k = n := by omega
      rw [sumI_zero fun i hi => h i (by omega) (by omega)]; omega
/-- k, jumping over p -/
def skp (p k : Nat) : Nat := if k < p then k else k + 1
theorem skp_lt {p k : Nat} (h : k < p) : skp p k = k := if_pos h
theorem skp_ge {p k : Nat} (h : p ≤ k) : skp p k = k + 1 := if_neg (by omega)
theorem skp_ne (p k : Nat) : skp p k ≠ p := by unfold skp; split <;> omega
theorem skp_le (p k : Nat) : skp p k ≤ k + 1 := by unfold skp; split <;> omega
theorem sumI_skip (f : Nat → Int) : ∀ {n p : Nat}, p ≤ n → sumI f (n + 1) = f p + sumI (fun k => f (skp p k)) n
  | n, p, h => by
    rcases Nat.lt_or_ge p n with l | l
    · obtain ⟨m, rfl⟩ : ∃ m, n = m + 1 := ⟨n - 1, by omega⟩
      show sumI f (m + 1) + f (m + 1) = f p + (sumI (fun k => f (skp p k)) m + f (skp p m))
      rw [sumI_skip f (n := m) (p := p) (by omega), skp_ge (p := p) (k := m) (by omega)]; omega
    · obtain rfl : p = n := by omega
      show sumI f p + f p = f p + sumI (fun k => f (skp p k)) p
      rw [sumI_congr (f := fun k => f (skp p k)) (g := f) fun i hi => by simp only [skp_lt hi]]; omega
theorem sumI_split (f : Nat → Int) (n : Nat) : ∀ m, sumI f (n + m) = sumI f n + sumI (fun i => f (n + i)) m
  | 0 => by show sumI f n = sumI f n + 0; omega
  | m + 1 => by
    show sumI f (n + m) + f (n + m) = sumI f n + (sumI (fun i => f (n + i)) m + f (n + m))
    rw [sumI_split f n m]; omega
theorem sumI_first (f : Nat → Int) (n : Nat) : sumI f (n + 1) = f 0 + sumI (fun i => f (i + 1)) n := by
  rw [sumI_skip f (Nat.zero_le n)]
  rfl
end Go.Proofs.Ytoodmoliglhpiaa
