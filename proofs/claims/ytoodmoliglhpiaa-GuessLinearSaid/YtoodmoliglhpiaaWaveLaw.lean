/- Plain numbers: Parseval; the transform twice; the blur is diagonal. No condition. -/
import Derived.Test.YtoodmoliglhpiaaWaveMath
namespace Go.Proofs.Ytoodmoliglhpiaa.WaveM
def tA (a b : Int) : Int := a + b
def tS (a b : Int) : Int := a - b
theorem two_pos (n : Nat) : 0 < 2 ^ n := Nat.pow_pos (by omega)
theorem bit_shift : ∀ n, n ≤ 4 → ∀ i, i < n → ∀ z, z < 2 ^ n → (z + 2 ^ n) / 2 ^ i % 2 = z / 2 ^ i % 2 := by decide
theorem bit_ge' : ∀ n, n ≤ 4 → ∀ i, i < n → ∀ z, z < 2 ^ n → ¬ z / 2 ^ i % 2 = 0 → 2 ^ i ≤ z := by decide
theorem bit_top : ∀ n, n ≤ 4 → ∀ z, z < 2 ^ n → z / 2 ^ n % 2 = 0 ∧ ¬ (z + 2 ^ n) / 2 ^ n % 2 = 0 := by decide
section
variable {t1 t2 : Int → Int → Int}
theorem E_congr {n : Nat} (hn : n ≤ 4) {f g : Nat → Int} (h : ∀ z, z < 2 ^ n → f z = g z) : ∀ i, i ≤ n → ∀ z, z < 2 ^ n → E t1 t2 f i z = E t1 t2 g i z := by
  intro i
  induction i with
  | zero => intro _ z hz; exact h z hz
  | succ i ih =>
    intro hi z hz
    have ih := ih (by omega)
    show stg t1 t2 i (E t1 t2 f i) z = stg t1 t2 i (E t1 t2 g i) z
    unfold stg
    by_cases hb : z / 2 ^ i % 2 = 0
    · rw [if_pos hb, if_pos hb, ih z hz, ih _ (or_lt n hn i (by omega) z hz hb)]
    · rw [if_neg hb, if_neg hb, ih z hz, ih _ (Nat.lt_of_le_of_lt (Nat.sub_le _ _) hz)]
theorem E_shift {n : Nat} (hn : n ≤ 4) (f : Nat → Int) : ∀ i, i ≤ n → ∀ z, z < 2 ^ n → E t1 t2 f i (z + 2 ^ n) = E t1 t2 (fun y => f (y + 2 ^ n)) i z := by
  intro i
  induction i with
  | zero => intro _ z hz; rfl
  | succ i ih =>
    intro hi z hz
    have ih := ih (by omega)
    show stg t1 t2 i (E t1 t2 f i) (z + 2 ^ n) = stg t1 t2 i (E t1 t2 (fun y => f (y + 2 ^ n)) i) z
    unfold stg
    rw [bit_shift n hn i (by omega) z hz]
    by_cases hb : z / 2 ^ i % 2 = 0
    · rw [if_pos hb, if_pos hb, ih z hz, ← ih _ (or_lt n hn i (by omega) z hz hb), Nat.add_right_comm]
    · have hge := bit_ge' n hn i (by omega) z hz hb
      rw [if_neg hb, if_neg hb, ih z hz, ← ih _ (Nat.lt_of_le_of_lt (Nat.sub_le _ _) hz), Nat.sub_add_comm hge]
theorem E_low {n : Nat} (hn : n < 4) (f : Nat → Int) {z : Nat} (hz : z < 2 ^ n) : E t1 t2 f (n + 1) z = t1 (E t1 t2 f n z) (E t1 t2 (fun y => f (y + 2 ^ n)) n z) := by
  show stg t1 t2 n (E t1 t2 f n) z = _
  unfold stg
  rw [if_pos (bit_top n (by omega) z hz).1, E_shift (by omega) f n (Nat.le_refl _) z hz]
theorem E_high {n : Nat} (hn : n < 4) (f : Nat → Int) {z : Nat} (hz : z < 2 ^ n) : E t1 t2 f (n + 1) (z + 2 ^ n) = t2 (E t1 t2 f n z) (E t1 t2 (fun y => f (y + 2 ^ n)) n z) := by
  show stg t1 t2 n (E t1 t2 f n) (z + 2 ^ n) = _
  unfold stg
  rw [if_neg (bit_top n (by omega) z hz).2, E_shift (by omega) f n (Nat.le_refl _) z hz, Nat.add_sub_cancel]
end
theorem E_lin (f g : Nat → Int) (p q : Int) (i : Nat) : ∀ z, E tA tS (fun y => p * f y + q * g y) i z = p * E tA tS f i z + q * E tA tS g i z := by
  induction i with
  | zero => intro z; rfl
  | succ i ih =>
    intro z
    show stg tA tS i (E tA tS _ i) z = p * stg tA tS i (E tA tS f i) z + q * stg tA tS i (E tA tS g i) z
    unfold stg tA tS
    by_cases hb : z / 2 ^ i % 2 = 0
    · rw [if_pos hb, if_pos hb, if_pos hb]
      have h1 := ih z
      have h2 := ih (z + 2 ^ i)
      unfold tA tS at h1 h2
      rw [h1, h2, Int.mul_add, Int.mul_add]; omega
    · rw [if_neg hb, if_neg hb, if_neg hb]
      have h1 := ih z
      have h2 := ih (z - 2 ^ i)
      unfold tA tS at h1 h2
      rw [h1, h2, Int.mul_sub, Int.mul_sub]; omega
/-- bounds -/
theorem E_bd {n : Nat} (hn : n ≤ 4) {f : Nat → Int} {B : Int} (h : ∀ z, z < 2 ^ n → -B ≤ f z ∧ f z ≤ B) : ∀ i, i ≤ n → ∀ z, z < 2 ^ n → -(B * 2 ^ i) ≤ E tA tS f i z ∧ E tA tS f i z ≤ B * 2 ^ i := by
  intro i
  induction i with
  | zero =>
    intro _ z hz
    rw [Int.pow_zero, Int.mul_one]
    exact h z hz
  | succ i ih =>
    intro hi z hz
    have ih := ih (by omega)
    have e : B * 2 ^ (i + 1) = B * 2 ^ i + B * 2 ^ i := by rw [Int.pow_succ, ← Int.mul_assoc]; omega
    rw [e]
    show _ ≤ stg tA tS i (E tA tS f i) z ∧ stg tA tS i (E tA tS f i) z ≤ _
    unfold stg
    by_cases hb : z / 2 ^ i % 2 = 0
    · rw [if_pos hb]
      have h1 := ih z hz
      have h2 := ih _ (or_lt n hn i (by omega) z hz hb)
      show _ ≤ E tA tS f i z + E tA tS f i (z + 2 ^ i) ∧ E tA tS f i z + E tA tS f i (z + 2 ^ i) ≤ _
      omega
    · rw [if_neg hb]
      have h1 := ih z hz
      have h2 := ih _ (Nat.lt_of_le_of_lt (Nat.sub_le z (2 ^ i)) hz)
      show _ ≤ E tA tS f i (z - 2 ^ i) - E tA tS f i z ∧ E tA tS f i (z - 2 ^ i) - E tA tS f i z ≤ _
      omega
theorem E_bd' {n : Nat} (hn : n ≤ 4) {f : Nat → Int} {B : Int} (hB : 0 ≤ B) (h : ∀ z, z < 2 ^ n → -B ≤ f z ∧ f z ≤ B) : ∀ i, i ≤ n → ∀ z, z < 2 ^ n → -(B * 16) ≤ E tA tS f i z ∧ E tA tS f i z ≤ B * 16 := by
  intro i hi z hz
  have h1 := E_bd hn h i hi z hz
  have h2 : (2 : Int) ^ i ≤ 16 := by
    match i, (show i ≤ 4 by omega) with
    | 0, _ => decide
    | 1, _ => decide
    | 2, _ => decide
    | 3, _ => decide
    | 4, _ => decide
  have := Int.mul_le_mul_of_nonneg_left h2 hB
  omega
/-- sums -/
def Sm (F : Nat → Int) : Nat → Int
  | 0 => 0
  | k + 1 => Sm F k + F k
theorem Sm_congr {F G : Nat → Int} (k : Nat) (h : ∀ z, z < k → F z = G z) : Sm F k = Sm G k := by
  induction k with
  | zero => rfl
  | succ k ih => simp only [Sm]; rw [ih fun z hz => h z (by omega), h k (by omega)]
theorem Sm_add (F : Nat → Int) (k j : Nat) : Sm F (k + j) = Sm F k + Sm (fun z => F (z + k)) j := by
  induction j with
  | zero => simp [Sm]
  | succ j ih => rw [← Nat.add_assoc]; simp only [Sm]; rw [ih, Nat.add_comm j k]; omega
theorem Sm_double (F : Nat → Int) (n : Nat) : Sm F (2 ^ (n + 1)) = Sm F (2 ^ n) + Sm (fun z => F (z + 2 ^ n)) (2 ^ n) := by
  rw [show 2 ^ (n + 1) = 2 ^ n + 2 ^ n by rw [Nat.pow_succ]; omega, Sm_add]
theorem Sm_lin (F G : Nat → Int) (p : Int) (k : Nat) : Sm (fun z => p * F z + p * G z) k = p * Sm F k + p * Sm G k := by
  induction k with
  | zero => simp [Sm]
  | succ k ih => simp only [Sm]; rw [ih, Int.mul_add, Int.mul_add]; omega
theorem Sm_sum (F G : Nat → Int) (k : Nat) : Sm F k + Sm G k = Sm (fun z => F z + G z) k := by
  induction k with
  | zero => simp [Sm]
  | succ k ih => simp only [Sm]; rw [← ih]; omega
theorem sq_two (a b : Int) : (a + b) * (a + b) + (a - b) * (a - b) = 2 * (a * a) + 2 * (b * b) := by
  rw [Int.add_mul, Int.mul_add, Int.mul_add, Int.sub_mul, Int.mul_sub, Int.mul_sub, Int.mul_comm b a]; omega
/-- PARSEVAL -/
theorem parseval {n : Nat} (hn : n ≤ 4) (f : Nat → Int) : Sm (fun z => E tA tS f n z * E tA tS f n z) (2 ^ n) = Sm (fun z => f z * f z) (2 ^ n) * 2 ^ n := by
  induction n generalizing f with
  | zero => simp [Sm, E]
  | succ n ih =>
    rw [Sm_double, Sm_double, Sm_sum,
      Sm_congr (G := fun z => 2 * (E tA tS f n z * E tA tS f n z) + 2 * (E tA tS (fun y => f (y + 2 ^ n)) n z * E tA tS (fun y => f (y + 2 ^ n)) n z)) _ (fun z hz => by
        show E tA tS f (n + 1) z * E tA tS f (n + 1) z + E tA tS f (n + 1) (z + 2 ^ n) * E tA tS f (n + 1) (z + 2 ^ n) = _
        rw [E_low (by omega) f hz, E_high (by omega) f hz]; exact sq_two _ _),
      Sm_lin, ih (by omega), ih (by omega), Int.pow_succ, Int.add_mul, ← Int.mul_assoc, ← Int.mul_assoc]
    have key : ∀ X : Int, X * (2 ^ n * 2) = 2 * X * 2 ^ n := fun X => by rw [Int.mul_comm 2 X, Int.mul_assoc, Int.mul_comm 2]
    rw [key, key]
/-- WALSH, HADAMARD: twice -/
theorem twice {n : Nat} (hn : n ≤ 4) (f : Nat → Int) : ∀ z, z < 2 ^ n → E tA tS (E tA tS f n) n z = 2 ^ n * f z := by
  induction n generalizing f with
  | zero => intro z hz; show f z = _; simp
  | succ n ih =>
    have hlow : ∀ z, z < 2 ^ n → E tA tS f (n + 1) z = 1 * E tA tS f n z + 1 * E tA tS (fun y => f (y + 2 ^ n)) n z := fun z hz => by rw [E_low (by omega) f hz]; simp [tA]
    have hhigh : ∀ z, z < 2 ^ n → E tA tS f (n + 1) (z + 2 ^ n) = 1 * E tA tS f n z + (-1) * E tA tS (fun y => f (y + 2 ^ n)) n z := fun z hz => by rw [E_high (by omega) f hz]; simp [tS]; omega
    have h1 : ∀ z, z < 2 ^ n → E tA tS (E tA tS f (n + 1)) n z = 1 * (2 ^ n * f z) + 1 * (2 ^ n * f (z + 2 ^ n)) := fun z hz => by
      rw [E_congr (by omega) hlow n (Nat.le_refl _) z hz, E_lin, ih (by omega) f z hz, ih (by omega) _ z hz]
    have h2 : ∀ z, z < 2 ^ n → E tA tS (fun y => E tA tS f (n + 1) (y + 2 ^ n)) n z = 1 * (2 ^ n * f z) + (-1) * (2 ^ n * f (z + 2 ^ n)) := fun z hz => by
      rw [E_congr (by omega) hhigh n (Nat.le_refl _) z hz, E_lin, ih (by omega) f z hz, ih (by omega) _ z hz]
    intro z hz
    have e2 : (2 : Int) ^ (n + 1) = 2 ^ n * 2 := Int.pow_succ _ _
    by_cases h : z < 2 ^ n
    · rw [E_low (by omega) _ h, h1 z h, h2 z h, e2, Int.mul_right_comm]; simp only [tA]; omega
    · obtain ⟨y, rfl⟩ : ∃ y, z = y + 2 ^ n := ⟨z - 2 ^ n, by omega⟩
      have hy : y < 2 ^ n := by rw [Nat.pow_succ] at hz; omega
      rw [E_high (by omega) _ hy, h1 y hy, h2 y hy, e2, Int.mul_right_comm]; simp only [tS]; omega
end Go.Proofs.Ytoodmoliglhpiaa.WaveM
