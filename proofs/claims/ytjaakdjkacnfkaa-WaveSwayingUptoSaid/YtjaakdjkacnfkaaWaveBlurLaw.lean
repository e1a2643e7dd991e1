/- Plain numbers: the blur is diagonal in the transform. No condition. -/
import Derived.Test.YtjaakdjkacnfkaaWaveLaw
namespace Go.Proofs.Ytjaakdjkacnfkaa.WaveM
def tB (k a b : Int) : Int := a + k * b
def tC (k a b : Int) : Int := k * a + b
/-- the factor of word t for its first i bits -/
def lam (q : Int) (t : Nat) : Nat → Int
  | 0 => 1
  | i + 1 => lam q t i * (if t / 2 ^ i % 2 = 0 then 1 + q else 1 - q)
theorem lam_shift (q : Int) {n : Nat} (hn : n ≤ 4) {z : Nat} (hz : z < 2 ^ n) : ∀ i, i ≤ n → lam q (z + 2 ^ n) i = lam q z i := by
  intro i
  induction i with
  | zero => intro _; rfl
  | succ i ih =>
    intro hi
    show lam q (z + 2 ^ n) i * _ = lam q z i * _
    rw [ih (by omega), bit_shift n hn i (by omega) z hz]
theorem dist_low (L a b q : Int) : L * a + q * (L * b) + (q * (L * a) + L * b) = L * (1 + q) * (a + b) := by
  have e1 : L * (1 + q) * (a + b) = L * a + L * b + q * (L * a) + q * (L * b) := by
    rw [Int.mul_add L 1 q, Int.mul_one, Int.add_mul, Int.mul_add, Int.mul_add, Int.mul_comm L q, Int.mul_assoc, Int.mul_assoc]; omega
  rw [e1]; omega
theorem dist_high (L a b q : Int) : L * a + q * (L * b) - (q * (L * a) + L * b) = L * (1 - q) * (a - b) := by
  have e1 : L * (1 - q) * (a - b) = L * a - L * b - (q * (L * a) - q * (L * b)) := by
    rw [Int.mul_sub L 1 q, Int.mul_one, Int.sub_mul, Int.mul_sub, Int.mul_sub, Int.mul_comm L q, Int.mul_assoc, Int.mul_assoc]
  rw [e1]; omega
theorem blur {n : Nat} (hn : n ≤ 4) (q : Int) (f : Nat → Int) : ∀ z, z < 2 ^ n → E tA tS (E (tB q) (tC q) f n) n z = lam q z n * E tA tS f n z := by
  induction n generalizing f with
  | zero => intro z hz; show f z = 1 * f z; rw [Int.one_mul]
  | succ n ih =>
    have hlow : ∀ z, z < 2 ^ n → E (tB q) (tC q) f (n + 1) z = 1 * E (tB q) (tC q) f n z + q * E (tB q) (tC q) (fun y => f (y + 2 ^ n)) n z := fun z hz => by rw [E_low (by omega) f hz]; simp [tB]
    have hhigh : ∀ z, z < 2 ^ n → E (tB q) (tC q) f (n + 1) (z + 2 ^ n) = q * E (tB q) (tC q) f n z + 1 * E (tB q) (tC q) (fun y => f (y + 2 ^ n)) n z := fun z hz => by rw [E_high (by omega) f hz]; simp [tC]
    have h1 : ∀ z, z < 2 ^ n → E tA tS (E (tB q) (tC q) f (n + 1)) n z = 1 * (lam q z n * E tA tS f n z) + q * (lam q z n * E tA tS (fun y => f (y + 2 ^ n)) n z) := fun z hz => by
      rw [E_congr (by omega) hlow n (Nat.le_refl _) z hz, E_lin, ih (by omega) f z hz, ih (by omega) _ z hz]
    have h2 : ∀ z, z < 2 ^ n → E tA tS (fun y => E (tB q) (tC q) f (n + 1) (y + 2 ^ n)) n z = q * (lam q z n * E tA tS f n z) + 1 * (lam q z n * E tA tS (fun y => f (y + 2 ^ n)) n z) := fun z hz => by
      rw [E_congr (by omega) hhigh n (Nat.le_refl _) z hz, E_lin, ih (by omega) f z hz, ih (by omega) _ z hz]
    intro z hz
    by_cases h : z < 2 ^ n
    · rw [E_low (by omega) _ h, h1 z h, h2 z h, E_low (by omega) f h]
      show _ = lam q z n * (if z / 2 ^ n % 2 = 0 then 1 + q else 1 - q) * _
      rw [if_pos (bit_top n (by omega) z h).1, Int.one_mul, Int.one_mul]
      exact dist_low _ _ _ _
    · obtain ⟨y, rfl⟩ : ∃ y, z = y + 2 ^ n := ⟨z - 2 ^ n, by omega⟩
      have hy : y < 2 ^ n := by rw [Nat.pow_succ] at hz; omega
      rw [E_high (by omega) _ hy, h1 y hy, h2 y hy, E_high (by omega) f hy]
      show _ = lam q (y + 2 ^ n) n * (if (y + 2 ^ n) / 2 ^ n % 2 = 0 then 1 + q else 1 - q) * _
      rw [if_neg (bit_top n (by omega) y hy).2, lam_shift q (by omega) hy n (Nat.le_refl _), Int.one_mul, Int.one_mul]
      exact dist_high _ _ _ _
theorem mul_bd {x y X Y : Int} (hx : -X ≤ x ∧ x ≤ X) (hy : -Y ≤ y ∧ y ≤ Y) : -(X * Y) ≤ x * y ∧ x * y ≤ X * Y := by
  have h : ∀ u v : Int, u ≤ X → v ≤ Y → 0 ≤ u → 0 ≤ v → u * v ≤ X * Y := fun u v a b c d => Int.mul_le_mul a b d (by omega)
  have g : ∀ u v : Int, 0 ≤ u → 0 ≤ v → 0 ≤ u * v := fun u v a b => Int.mul_nonneg a b
  rcases Int.le_total 0 x with a | a <;> rcases Int.le_total 0 y with b | b
  · have := h x y hx.2 hy.2 a b; have := g x y a b; omega
  · have := h x (-y) hx.2 (by omega) a (by omega); have := g x (-y) a (by omega); rw [Int.mul_neg] at *; omega
  · have := h (-x) y (by omega) hy.2 (by omega) b; have := g (-x) y (by omega) b; rw [Int.neg_mul] at *; omega
  · have := h (-x) (-y) (by omega) (by omega) (by omega) (by omega); have := g (-x) (-y) (by omega) (by omega); rw [Int.neg_mul_neg] at *; omega
theorem lam_bd {q : Int} (h0 : 0 ≤ q) (h3 : q ≤ 3) (t : Nat) : ∀ i, i ≤ 4 → -256 ≤ lam q t i ∧ lam q t i ≤ 256 := by
  have key : ∀ i, -((4 : Int) ^ i) ≤ lam q t i ∧ lam q t i ≤ 4 ^ i := by
    intro i
    induction i with
    | zero => simp [lam]
    | succ i ih =>
      rw [Int.pow_succ]
      show _ ≤ lam q t i * _ ∧ lam q t i * _ ≤ _
      exact mul_bd ih (by split <;> omega)
  intro i hi
  have := key i
  match i, hi with
  | 0, _ => simp at this; omega
  | 1, _ => simp at this; omega
  | 2, _ => simp at this; omega
  | 3, _ => simp at this; omega
  | 4, _ => simp at this; omega
/-- bounds of the blurred -/
theorem B_bd {n : Nat} (hn : n ≤ 4) {q : Int} (h0 : 0 ≤ q) (h3 : q ≤ 3) {f : Nat → Int} {B : Int} (hB : 0 ≤ B) (h : ∀ z, z < 2 ^ n → -B ≤ f z ∧ f z ≤ B) : ∀ i, i ≤ n → ∀ z, z < 2 ^ n → -(B * 256) ≤ E (tB q) (tC q) f i z ∧ E (tB q) (tC q) f i z ≤ B * 256 := by
  have key : ∀ i, i ≤ n → ∀ z, z < 2 ^ n → -(B * 4 ^ i) ≤ E (tB q) (tC q) f i z ∧ E (tB q) (tC q) f i z ≤ B * 4 ^ i := by
    intro i
    induction i with
    | zero => intro _ z hz; rw [Int.pow_zero, Int.mul_one]; exact h z hz
    | succ i ih =>
      intro hi z hz
      have ih := ih (by omega)
      have e : B * 4 ^ (i + 1) = B * 4 ^ i + 3 * (B * 4 ^ i) := by rw [Int.pow_succ, ← Int.mul_assoc]; omega
      rw [e]
      obtain ⟨X, hX⟩ : ∃ X, X = B * 4 ^ i := ⟨_, rfl⟩
      rw [← hX] at ih ⊢
      show _ ≤ stg (tB q) (tC q) i (E (tB q) (tC q) f i) z ∧ stg (tB q) (tC q) i (E (tB q) (tC q) f i) z ≤ _
      unfold stg
      by_cases hb : z / 2 ^ i % 2 = 0
      · rw [if_pos hb]
        have h1 := ih z hz
        have h2 := mul_bd (X := 3) ⟨by omega, h3⟩ (ih _ (or_lt n hn i (by omega) z hz hb))
        show _ ≤ _ + q * _ ∧ _ + q * _ ≤ _
        omega
      · rw [if_neg hb]
        have h1 := ih z hz
        have h2 := mul_bd (X := 3) ⟨by omega, h3⟩ (ih _ (Nat.lt_of_le_of_lt (Nat.sub_le z (2 ^ i)) hz))
        show _ ≤ q * _ + _ ∧ q * _ + _ ≤ _
        omega
  intro i hi z hz
  have h1 := key i hi z hz
  have h2 : (4 : Int) ^ i ≤ 256 := by
    match i, (show i ≤ 4 by omega) with
    | 0, _ => decide
    | 1, _ => decide
    | 2, _ => decide
    | 3, _ => decide
    | 4, _ => decide
  have := Int.mul_le_mul_of_nonneg_left h2 hB
  omega
end Go.Proofs.Ytjaakdjkacnfkaa.WaveM
