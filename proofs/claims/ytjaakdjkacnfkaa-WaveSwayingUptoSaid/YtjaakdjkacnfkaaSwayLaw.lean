/- Plain numbers: Poincare's inequality for tables of up to four bits; a bit without influence does not occur in the transform. No condition. -/
import Derived.Test.YtjaakdjkacnfkaaWaveLaw
namespace Go.Proofs.Ytjaakdjkacnfkaa.WaveM
/-- how many z below k hold p -/
def cn (p : Nat → Bool) : Nat → Nat
  | 0 => 0
  | k + 1 => cn p k + (p k).toNat
theorem cn_le (p : Nat → Bool) (k : Nat) : cn p k ≤ k := by
  induction k with
  | zero => exact Nat.le_refl _
  | succ k ih => simp only [cn]; have := Bool.toNat_le (p k); omega
theorem cn_congr {p q : Nat → Bool} (k : Nat) (h : ∀ z, z < k → p z = q z) : cn p k = cn q k := by
  induction k with
  | zero => rfl
  | succ k ih => simp only [cn]; rw [ih fun z hz => h z (by omega), h k (by omega)]
theorem cn_add (p : Nat → Bool) (k j : Nat) : cn p (k + j) = cn p k + cn (fun z => p (z + k)) j := by
  induction j with
  | zero => simp [cn]
  | succ j ih => rw [← Nat.add_assoc]; simp only [cn]; rw [ih, Nat.add_comm j k]; omega
theorem cn_double (p : Nat → Bool) (n : Nat) : cn p (2 ^ (n + 1)) = cn p (2 ^ n) + cn (fun z => p (z + 2 ^ n)) (2 ^ n) := by
  rw [show 2 ^ (n + 1) = 2 ^ n + 2 ^ n by rw [Nat.pow_succ]; omega, cn_add]
theorem cn_zero {p : Nat → Bool} {k : Nat} (h : cn p k = 0) : ∀ z, z < k → p z = false := by
  induction k with
  | zero => intro z hz; omega
  | succ k ih =>
    simp only [cn] at h
    intro z hz
    by_cases e : z = k
    · subst e
      cases hp : p z with
      | false => rfl
      | true => rw [hp] at h; simp at h
    · exact ih (by omega) z (by omega)
/-- z without or with bit i, the other way -/
def flip (i z : Nat) : Nat := if z / 2 ^ i % 2 = 0 then z + 2 ^ i else z - 2 ^ i
theorem flip_lt : ∀ n, n ≤ 4 → ∀ i, i < n → ∀ z, z < 2 ^ n → flip i z < 2 ^ n := by decide
theorem flip_high : ∀ n, n ≤ 4 → ∀ i, i < n → ∀ z, z < 2 ^ n → flip i (z + 2 ^ n) = flip i z + 2 ^ n := by decide
theorem flip_top : ∀ n, n ≤ 4 → ∀ z, z < 2 ^ n → flip n z = z + 2 ^ n ∧ flip n (z + 2 ^ n) = z := by decide
theorem xor_flip : ∀ i, i < 4 → ∀ z, z < 16 → z ^^^ 2 ^ i = flip i z := by decide
/-- the words that bit i sways, below k -/
def sw (f : Nat → Bool) (i k : Nat) : Nat := cn (fun z => f (flip i z) != f z) k
/-- all sways of the first k bits -/
def swAll (f : Nat → Bool) (m : Nat) : Nat → Nat
  | 0 => 0
  | i + 1 => swAll f m i + sw f i m
theorem sw_low {n : Nat} (hn : n ≤ 4) (f : Nat → Bool) {i : Nat} (hi : i < n) : sw f i (2 ^ (n + 1)) = sw f i (2 ^ n) + sw (fun z => f (z + 2 ^ n)) i (2 ^ n) := by
  unfold sw
  rw [cn_double]
  congr 1
  exact cn_congr _ fun z hz => by rw [flip_high n hn i hi z hz]
theorem swAll_low {n : Nat} (hn : n ≤ 4) (f : Nat → Bool) : ∀ i, i ≤ n → swAll f (2 ^ (n + 1)) i = swAll f (2 ^ n) i + swAll (fun z => f (z + 2 ^ n)) (2 ^ n) i := by
  intro i
  induction i with
  | zero => intro _; rfl
  | succ i ih => intro hi; simp only [swAll]; rw [ih (by omega), sw_low hn f (by omega)]; omega
/-- the yes of two halves differ at no fewer places than their numbers do -/
theorem cn_diff (f g : Nat → Bool) (k : Nat) : cn f k ≤ cn g k + cn (fun z => f z != g z) k ∧ cn g k ≤ cn f k + cn (fun z => f z != g z) k := by
  induction k with
  | zero => exact ⟨Nat.le_refl _, Nat.le_refl _⟩
  | succ k ih =>
    simp only [cn]
    cases f k <;> cases g k <;> simp <;> omega
theorem sw_top {n : Nat} (hn : n ≤ 4) (f : Nat → Bool) : sw f n (2 ^ (n + 1)) = 2 * cn (fun z => f z != f (z + 2 ^ n)) (2 ^ n) := by
  unfold sw
  rw [cn_double]
  have e1 : cn (fun z => f (flip n z) != f z) (2 ^ n) = cn (fun z => f z != f (z + 2 ^ n)) (2 ^ n) := cn_congr _ fun z hz => by
    rw [(flip_top n hn z hz).1]; cases f z <;> cases f (z + 2 ^ n) <;> rfl
  have e2 : cn (fun z => f (flip n (z + 2 ^ n)) != f (z + 2 ^ n)) (2 ^ n) = cn (fun z => f z != f (z + 2 ^ n)) (2 ^ n) := cn_congr _ fun z hz => by
    rw [(flip_top n hn z hz).2]
  rw [e1, e2]; omega
theorem poly (s0 s1 d y0 y1 N : Int) (h0 : 4 * y0 * (N - y0) ≤ s0 * N) (h1 : 4 * y1 * (N - y1) ≤ s1 * N) (hd : y0 - y1 ≤ d) (hd' : y1 - y0 ≤ d) (hN : y0 - y1 ≤ N) (hN' : y1 - y0 ≤ N) :
    4 * (y0 + y1) * (2 * N - (y0 + y1)) ≤ (s0 + s1 + 2 * d) * (2 * N) := by
  have hs : (y0 - y1) * (y0 - y1) ≤ d * N := by
    rcases Int.le_total y0 y1 with h | h
    · have := Int.mul_le_mul hd' hN' (by omega) (by omega)
      have e : (y1 - y0) * (y1 - y0) = (y0 - y1) * (y0 - y1) := by rw [← Int.neg_mul_neg]; congr 1 <;> omega
      omega
    · exact Int.mul_le_mul hd hN (by omega) (by omega)
  have e0 : 4 * y0 * (N - y0) = 4 * (y0 * N) - 4 * (y0 * y0) := by rw [Int.mul_sub, Int.mul_assoc, Int.mul_assoc]
  have e1 : 4 * y1 * (N - y1) = 4 * (y1 * N) - 4 * (y1 * y1) := by rw [Int.mul_sub, Int.mul_assoc, Int.mul_assoc]
  have e2 : (y0 - y1) * (y0 - y1) = y0 * y0 - 2 * (y0 * y1) + y1 * y1 := by rw [Int.sub_mul, Int.mul_sub, Int.mul_sub, Int.mul_comm y1 y0]; omega
  have e3 : (s0 + s1 + 2 * d) * (2 * N) = 2 * (s0 * N) + 2 * (s1 * N) + 4 * (d * N) := by
    rw [Int.add_mul, Int.add_mul, Int.mul_left_comm s0, Int.mul_left_comm s1, Int.mul_assoc 2 d, Int.mul_left_comm d]; omega
  have e4 : 4 * (y0 + y1) * (2 * N - (y0 + y1)) = 8 * (y0 * N) + 8 * (y1 * N) - 4 * (y0 * y0) - 8 * (y0 * y1) - 4 * (y1 * y1) := by
    rw [Int.mul_sub, Int.mul_assoc, Int.mul_assoc, Int.mul_left_comm _ 2 N, Int.add_mul, Int.add_mul, Int.mul_add y0, Int.mul_add y1, Int.mul_comm y1 y0]; omega
  rw [e0] at h0; rw [e1] at h1; rw [e2] at hs; rw [e3, e4]; omega
/-- POINCARE -/
theorem poincare {n : Nat} (hn : n ≤ 4) (f : Nat → Bool) : 4 * (cn f (2 ^ n) : Int) * ((2 ^ n : Nat) - (cn f (2 ^ n) : Int)) ≤ (swAll f (2 ^ n) n : Int) * (2 ^ n : Nat) := by
  induction n generalizing f with
  | zero =>
    simp only [swAll, cn, Nat.pow_zero]
    cases f 0 <;> decide
  | succ n ih =>
    have h0 := ih (by omega) f
    have h1 := ih (by omega) (fun z => f (z + 2 ^ n))
    have e : swAll f (2 ^ (n + 1)) (n + 1) = swAll f (2 ^ n) n + swAll (fun z => f (z + 2 ^ n)) (2 ^ n) n + 2 * cn (fun z => f z != f (z + 2 ^ n)) (2 ^ n) := by
      show swAll f (2 ^ (n + 1)) n + sw f n (2 ^ (n + 1)) = _
      rw [swAll_low (by omega) f n (Nat.le_refl _), sw_top (by omega)]
    have d := cn_diff f (fun z => f (z + 2 ^ n)) (2 ^ n)
    have l0 := cn_le f (2 ^ n)
    have l1 := cn_le (fun z => f (z + 2 ^ n)) (2 ^ n)
    rw [e, cn_double]
    have e5 : 2 ^ (n + 1) = 2 * 2 ^ n := by rw [Nat.pow_succ]; omega
    rw [e5]
    have := poly _ _ (cn (fun z => f z != f (z + 2 ^ n)) (2 ^ n) : Int) _ _ ((2 ^ n : Nat) : Int) h0 h1 (by omega) (by omega) (by omega) (by omega)
    rw [Int.natCast_mul, Int.natCast_add, Int.natCast_add, Int.natCast_add, Int.natCast_mul]
    exact this
/-- a bit that sways nothing -/
theorem flip_bit : ∀ n, n ≤ 4 → ∀ i, i < n → ∀ j, j < n → j ≠ i → ∀ z, z < 2 ^ n → flip i z / 2 ^ j % 2 = z / 2 ^ j % 2 := by decide
set_option synthInstance.maxSize 10000 in
set_option synthInstance.maxHeartbeats 0 in
theorem flip_add : ∀ n, n ≤ 4 → ∀ i, i < n → ∀ j, j < n → j ≠ i → ∀ z, z < 2 ^ n → z / 2 ^ j % 2 = 0 → flip i z + 2 ^ j = flip i (z + 2 ^ j) := by decide
set_option synthInstance.maxSize 10000 in
set_option synthInstance.maxHeartbeats 0 in
theorem flip_sub : ∀ n, n ≤ 4 → ∀ i, i < n → ∀ j, j < n → j ≠ i → ∀ z, z < 2 ^ n → ¬ z / 2 ^ j % 2 = 0 → flip i z - 2 ^ j = flip i (z - 2 ^ j) := by decide
set_option synthInstance.maxSize 10000 in
set_option synthInstance.maxHeartbeats 0 in
theorem bit_of_sub : ∀ n, n ≤ 4 → ∀ i, i < n → ∀ j, j < n → j ≠ i → ∀ z, z < 2 ^ n → ¬ z / 2 ^ j % 2 = 0 → (z - 2 ^ j) / 2 ^ i % 2 = z / 2 ^ i % 2 := by decide
set_option synthInstance.maxSize 10000 in
set_option synthInstance.maxHeartbeats 0 in
theorem bit_of_add : ∀ n, n ≤ 4 → ∀ i, i < n → ∀ j, j < n → j ≠ i → ∀ z, z < 2 ^ n → z / 2 ^ j % 2 = 0 → (z + 2 ^ j) / 2 ^ i % 2 = z / 2 ^ i % 2 := by decide
theorem E_flip {n : Nat} (hn : n ≤ 4) {i : Nat} (hi : i < n) {f : Nat → Int} (h : ∀ z, z < 2 ^ n → f (flip i z) = f z) : ∀ j, j ≤ i → ∀ z, z < 2 ^ n → E tA tS f j (flip i z) = E tA tS f j z := by
  intro j
  induction j with
  | zero => intro _ z hz; exact h z hz
  | succ j ih =>
    intro hj z hz
    have ih := ih (by omega)
    show stg tA tS j (E tA tS f j) (flip i z) = stg tA tS j (E tA tS f j) z
    unfold stg
    rw [flip_bit n hn i hi j (by omega) (by omega) z hz]
    by_cases hb : z / 2 ^ j % 2 = 0
    · rw [if_pos hb, if_pos hb, ih z hz, flip_add n hn i hi j (by omega) (by omega) z hz hb, ih _ (or_lt n hn j (by omega) z hz hb)]
    · rw [if_neg hb, if_neg hb, ih z hz, flip_sub n hn i hi j (by omega) (by omega) z hz hb, ih _ (Nat.lt_of_le_of_lt (Nat.sub_le _ _) hz)]
theorem no_sway {n : Nat} (hn : n ≤ 4) {i : Nat} (hi : i < n) {f : Nat → Int} (h : ∀ z, z < 2 ^ n → f (flip i z) = f z) : ∀ j, i < j → j ≤ n → ∀ z, z < 2 ^ n → ¬ z / 2 ^ i % 2 = 0 → E tA tS f j z = 0 := by
  intro j
  induction j with
  | zero => intro h; omega
  | succ j ih =>
    intro hij hj z hz hb
    show stg tA tS j (E tA tS f j) z = 0
    by_cases e : j = i
    · subst e
      unfold stg
      rw [if_neg hb]
      have := E_flip hn hi h j (Nat.le_refl _) z hz
      have e2 : flip j z = z - 2 ^ j := by unfold flip; rw [if_neg hb]
      rw [e2] at this
      rw [this]; simp [tS]
    · have ih := ih (by omega) (by omega)
      unfold stg
      by_cases hc : z / 2 ^ j % 2 = 0
      · rw [if_pos hc, ih z hz hb, ih _ (or_lt n hn j (by omega) z hz hc) (by rw [bit_of_add n hn i hi j (by omega) e z hz hc]; exact hb)]; rfl
      · rw [if_neg hc, ih z hz hb, ih _ (Nat.lt_of_le_of_lt (Nat.sub_le _ _) hz) (by rw [bit_of_sub n hn i hi j (by omega) e z hz hc]; exact hb)]; rfl
end Go.Proofs.Ytjaakdjkacnfkaa.WaveM
