/- Plain numbers: the linearity test of Blum, Luby and Rubinfeld by the transform. No condition. -/
import Derived.Test.YtoodmoliglhpiaaWaveLaw
namespace Go.Proofs.Ytoodmoliglhpiaa.WaveM
set_option linter.unusedVariables false
def pc (u : Nat) : Nat := u % 2 + u / 2 % 2 + u / 4 % 2 + u / 8 % 2
/-- the sign of a word's parity -/
def sg (u : Nat) : Int := if pc u % 2 = 0 then 1 else -1
theorem sg_low : ∀ n, n < 4 → ∀ z, z < 2 ^ n → ∀ x, x < 2 ^ n → sg ((x + 2 ^ n) &&& z) = sg (x &&& z) := by decide +kernel
theorem sg_high : ∀ n, n < 4 → ∀ z, z < 2 ^ n → ∀ x, x < 2 ^ n → sg (x &&& (z + 2 ^ n)) = sg (x &&& z) := by decide +kernel
theorem sg_both : ∀ n, n < 4 → ∀ z, z < 2 ^ n → ∀ x, x < 2 ^ n → sg ((x + 2 ^ n) &&& (z + 2 ^ n)) = -sg (x &&& z) := by decide +kernel
theorem xor_lt : ∀ n, n ≤ 4 → ∀ x, x < 2 ^ n → ∀ y, y < 2 ^ n → x ^^^ y < 2 ^ n := by decide +kernel
theorem xor_left : ∀ n, n < 4 → ∀ x, x < 2 ^ n → ∀ y, y < 2 ^ n → (x + 2 ^ n) ^^^ y = (x ^^^ y) + 2 ^ n := by decide +kernel
theorem xor_right : ∀ n, n < 4 → ∀ x, x < 2 ^ n → ∀ y, y < 2 ^ n → x ^^^ (y + 2 ^ n) = (x ^^^ y) + 2 ^ n := by decide +kernel
theorem xor_both : ∀ n, n < 4 → ∀ x, x < 2 ^ n → ∀ y, y < 2 ^ n → (x + 2 ^ n) ^^^ (y + 2 ^ n) = x ^^^ y := by decide +kernel
theorem par_xor : ∀ s, s < 16 → ∀ x, x < 16 → ∀ y, y < 16 → pc ((x ^^^ y) &&& s) % 2 = (pc (x &&& s) + pc (y &&& s)) % 2 := by decide +kernel
theorem Sm_neg (F : Nat → Int) (k : Nat) : Sm (fun z => -F z) k = -Sm F k := by
  induction k with
  | zero => rfl
  | succ k ih => simp only [Sm]; rw [ih]; omega
theorem Sm_mul (F : Nat → Int) (p : Int) (k : Nat) : Sm (fun z => p * F z) k = p * Sm F k := by
  induction k with
  | zero => simp [Sm]
  | succ k ih => simp only [Sm]; rw [ih, Int.mul_add]
theorem Sm_le {F G : Nat → Int} {k : Nat} (h : ∀ z, z < k → F z ≤ G z) : Sm F k ≤ Sm G k := by
  induction k with
  | zero => exact Int.le_refl _
  | succ k ih => simp only [Sm]; have := ih fun z hz => h z (by omega); have := h k (by omega); omega
theorem Sm_const (p : Int) (k : Nat) : Sm (fun _ => p) k = k * p := by
  induction k with
  | zero => simp [Sm]
  | succ k ih => simp only [Sm]; rw [ih, show ((k + 1 : Nat) : Int) = (k : Int) + 1 by omega, Int.add_mul]; omega
/-- the transform, word by word -/
theorem E_sum {n : Nat} (hn : n ≤ 4) (f : Nat → Int) : ∀ z, z < 2 ^ n → E tA tS f n z = Sm (fun x => f x * sg (x &&& z)) (2 ^ n) := by
  induction n generalizing f with
  | zero =>
    intro z hz
    obtain rfl : z = 0 := by simpa using hz
    show f 0 = Sm (fun x => f x * sg (x &&& 0)) 1
    simp [Sm, sg, pc]
  | succ n ih =>
    intro z hz
    rw [Sm_double]
    by_cases h : z < 2 ^ n
    · rw [E_low (by omega) f h, ih (by omega) f z h, ih (by omega) _ z h]
      show _ + _ = _
      congr 1
      exact Sm_congr _ fun x hx => by rw [sg_low n (by omega) z h x hx]
    · obtain ⟨y, rfl⟩ : ∃ y, z = y + 2 ^ n := ⟨z - 2 ^ n, by omega⟩
      have hy : y < 2 ^ n := by rw [Nat.pow_succ] at hz; omega
      rw [E_high (by omega) f hy, ih (by omega) f y hy, ih (by omega) _ y hy,
        Sm_congr (F := fun x => f x * sg (x &&& (y + 2 ^ n))) (G := fun x => f x * sg (x &&& y)) _ fun x hx => by rw [sg_high n (by omega) y hy x hx],
        Sm_congr (F := fun x => f (x + 2 ^ n) * sg ((x + 2 ^ n) &&& (y + 2 ^ n))) (G := fun x => -(f (x + 2 ^ n) * sg (x &&& y))) _ fun x hx => by rw [sg_both n (by omega) y hy x hx, Int.mul_neg],
        Sm_neg]
      show _ - _ = _ + -_
      omega
/-- all pairs, and the word of both -/
def T3 (F G K : Nat → Int) (m : Nat) : Int := Sm (fun x => Sm (fun y => F x * G y * K (x ^^^ y)) m) m
def up (F : Nat → Int) (n : Nat) : Nat → Int := fun y => F (y + 2 ^ n)
theorem T3_double {n : Nat} (hn : n < 4) (F G K : Nat → Int) : T3 F G K (2 ^ (n + 1)) = T3 F G K (2 ^ n) + T3 F (up G n) (up K n) (2 ^ n) + (T3 (up F n) G (up K n) (2 ^ n) + T3 (up F n) (up G n) K (2 ^ n)) := by
  unfold T3
  rw [Sm_double]
  congr 1
  · rw [Sm_sum]
    exact Sm_congr _ fun x hx => by
      rw [Sm_double]
      congr 1
      exact Sm_congr _ fun y hy => by rw [xor_right n hn x hx y hy]; rfl
  · rw [Sm_sum]
    exact Sm_congr _ fun x hx => by
      rw [Sm_double]
      congr 1
      · exact Sm_congr _ fun y hy => by rw [xor_left n hn x hx y hy]; rfl
      · exact Sm_congr _ fun y hy => by rw [xor_both n hn x hx y hy]; rfl
theorem cube (a b c d e f : Int) : (a + b) * (c + d) * (e + f) + (a - b) * (c - d) * (e - f) = 2 * (a * c * e) + 2 * (a * d * f) + (2 * (b * c * f) + 2 * (b * d * e)) := by
  simp only [Int.add_mul, Int.mul_add, Int.sub_mul, Int.mul_sub]; omega
theorem three {n : Nat} (hn : n ≤ 4) : ∀ F G K : Nat → Int, Sm (fun z => E tA tS F n z * E tA tS G n z * E tA tS K n z) (2 ^ n) = 2 ^ n * T3 F G K (2 ^ n) := by
  induction n with
  | zero => intro F G K; simp [Sm, E, T3]
  | succ n ih =>
    intro F G K
    have ih := ih (by omega)
    rw [T3_double (by omega), Sm_double, Sm_sum,
      Sm_congr (G := fun z => (2 * (E tA tS F n z * E tA tS G n z * E tA tS K n z) + 2 * (E tA tS F n z * E tA tS (up G n) n z * E tA tS (up K n) n z)) + (2 * (E tA tS (up F n) n z * E tA tS G n z * E tA tS (up K n) n z) + 2 * (E tA tS (up F n) n z * E tA tS (up G n) n z * E tA tS K n z))) _ (fun z hz => by
        rw [E_low (by omega) F hz, E_high (by omega) F hz, E_low (by omega) G hz, E_high (by omega) G hz, E_low (by omega) K hz, E_high (by omega) K hz]
        exact cube _ _ _ _ _ _),
      ← Sm_sum, Sm_lin, Sm_lin, ih, ih, ih, ih, Int.pow_succ]
    have key : ∀ X : Int, 2 * (2 ^ n * X) = 2 ^ n * 2 * X := fun X => by rw [Int.mul_left_comm, Int.mul_assoc]
    rw [key, key, key, key, ← Int.mul_add, ← Int.mul_add, ← Int.mul_add]
/-- a table as signs -/
def sgn (f : Nat → Bool) (x : Nat) : Int := if f x then -1 else 1
def cnI (p : Nat → Bool) : Nat → Nat
  | 0 => 0
  | k + 1 => cnI p k + (p k).toNat
theorem cnI_le (p : Nat → Bool) (k : Nat) : cnI p k ≤ k := by
  induction k with
  | zero => exact Nat.le_refl _
  | succ k ih => simp only [cnI]; have := Bool.toNat_le (p k); omega
theorem cnI_congr {p q : Nat → Bool} {k : Nat} (h : ∀ z, z < k → p z = q z) : cnI p k = cnI q k := by
  induction k with
  | zero => rfl
  | succ k ih => simp only [cnI]; rw [ih fun z hz => h z (by omega), h k (by omega)]
theorem cnI_none {p : Nat → Bool} {k : Nat} (h : ∀ z, z < k → p z = false) : cnI p k = 0 := by
  induction k with
  | zero => rfl
  | succ k ih => simp only [cnI]; rw [ih fun z hz => h z (by omega), h k (by omega)]; rfl
theorem cnI_zero {p : Nat → Bool} {k : Nat} (h : cnI p k = 0) : ∀ z, z < k → p z = false := by
  induction k with
  | zero => intro z hz; omega
  | succ k ih =>
    simp only [cnI] at h
    intro z hz
    by_cases e : z = k
    · subst e; cases hp : p z
      · rfl
      · rw [hp] at h; simp at h
    · exact ih (by omega) z (by omega)
/-- signs add up to all, less twice those that are not -/
theorem Sm_signs {q : Nat → Int} {p : Nat → Bool} {k : Nat} (h : ∀ z, z < k → q z = if p z then -1 else 1) : Sm q k = (k : Int) - 2 * (cnI p k : Nat) := by
  induction k with
  | zero => rfl
  | succ k ih =>
    simp only [Sm, cnI]
    rw [ih fun z hz => h z (by omega), h k (by omega)]
    cases p k <;> simp <;> omega
/-- in how many words f is not the set's -/
def dS (f : Nat → Bool) (s m : Nat) : Nat := cnI (fun x => f x != (pc (x &&& s) % 2 == 1)) m
/-- a pair that tells it -/
def tell (f : Nat → Bool) (x y : Nat) : Bool := f (x ^^^ y) != (f x != f y)
/-- how many pairs tell it -/
def rowT (f : Nat → Bool) (m : Nat) : Nat → Nat
  | 0 => 0
  | k + 1 => rowT f m k + cnI (tell f k) m
theorem W_eq {n : Nat} (hn : n ≤ 4) (f : Nat → Bool) {s : Nat} (hs : s < 2 ^ n) : E tA tS (sgn f) n s = ((2 ^ n : Nat) : Int) - 2 * (dS f s (2 ^ n) : Nat) := by
  rw [E_sum hn _ s hs]
  refine Sm_signs fun x _ => ?_
  unfold sgn sg
  rcases Nat.mod_two_eq_zero_or_one (pc (x &&& s)) with e | e <;> rw [e] <;> cases f x <;> decide
theorem T_eq (f : Nat → Bool) (m : Nat) : ∀ k, Sm (fun x => Sm (fun y => sgn f x * sgn f y * sgn f (x ^^^ y)) m) k = (k : Int) * m - 2 * (rowT f m k : Nat) := by
  intro k
  induction k with
  | zero => simp [Sm, rowT]
  | succ k ih =>
    simp only [Sm, rowT]
    rw [ih, Sm_signs (p := tell f k) fun y _ => by
      unfold sgn tell; cases f k <;> cases f y <;> cases f (k ^^^ y) <;> decide]
    rw [show ((k + 1 : Nat) : Int) = (k : Int) + 1 by omega, Int.add_mul]
    omega
theorem sgn_sq (f : Nat → Bool) (x : Nat) : sgn f x * sgn f x = 1 := by unfold sgn; cases f x <;> decide
/-- BLUM, LUBY, RUBINFELD -/
theorem blr {n : Nat} (hn : n ≤ 4) (f : Nat → Bool) (d : Nat) (hd : ∀ s, s < 2 ^ n → d ≤ dS f s (2 ^ n)) : d * 2 ^ n ≤ rowT f (2 ^ n) (2 ^ n) := by
  have h3 := three hn (sgn f) (sgn f) (sgn f)
  have hp := parseval hn (sgn f)
  have ht := T_eq f (2 ^ n) (2 ^ n)
  have hT : T3 (sgn f) (sgn f) (sgn f) (2 ^ n) = ((2 ^ n : Nat) : Int) * ((2 ^ n : Nat) : Int) - 2 * (rowT f (2 ^ n) (2 ^ n) : Nat) := ht
  rw [Sm_congr (G := fun _ => (1 : Int)) _ (fun z _ => sgn_sq f z), Sm_const] at hp
  obtain ⟨M, hM⟩ : ∃ M : Int, M = ((2 ^ n : Nat) : Int) - 2 * (d : Nat) := ⟨_, rfl⟩
  have hle : Sm (fun z => E tA tS (sgn f) n z * E tA tS (sgn f) n z * E tA tS (sgn f) n z) (2 ^ n) ≤ Sm (fun z => M * (E tA tS (sgn f) n z * E tA tS (sgn f) n z)) (2 ^ n) := Sm_le fun z hz => by
    have h1 : E tA tS (sgn f) n z ≤ M := by rw [W_eq hn f hz, hM]; have := hd z hz; omega
    rw [Int.mul_comm M]
    exact Int.mul_le_mul_of_nonneg_left h1 (by
      rcases Int.le_total 0 (E tA tS (sgn f) n z) with h | h
      · exact Int.mul_nonneg h h
      · exact Int.mul_nonneg_of_nonpos_of_nonpos h h)
  rw [h3, Sm_mul, hp, hT] at hle
  have e2 : (2 : Int) ^ n = ((2 ^ n : Nat) : Int) := by simp
  rw [e2] at hle
  generalize rowT f (2 ^ n) (2 ^ n) = k at hle ⊢
  have hpos : 1 ≤ 2 ^ n := Nat.pow_pos (by omega)
  generalize 2 ^ n = P at hle hM hpos ⊢
  have hP : (0 : Int) < P := by omega
  rw [Int.mul_one, Int.mul_left_comm M] at hle
  have h4 := Int.le_of_mul_le_mul_left hle hP
  rw [hM, Int.sub_mul] at h4
  have h5 : (2 * ((d : Nat) : Int)) * (P : Int) = 2 * ((d * P : Nat) : Int) := by rw [Int.mul_assoc]; simp
  rw [h5] at h4
  omega
/-- one set is no farther than half -/
theorem near {n : Nat} (hn : n ≤ 4) (h1 : 1 ≤ n) (f : Nat → Bool) (d : Nat) (hd : ∀ s, s < 2 ^ n → d ≤ dS f s (2 ^ n)) : 2 * d ≤ 2 ^ n := by
  have ht := twice hn (sgn f) 0 (Nat.pow_pos (by omega))
  rw [E_sum hn _ 0 (Nat.pow_pos (by omega))] at ht
  have e1 : Sm (fun x => E tA tS (sgn f) n x * sg (x &&& 0)) (2 ^ n) = Sm (fun x => E tA tS (sgn f) n x) (2 ^ n) := Sm_congr _ fun x _ => by
    rw [Nat.and_zero]; show _ * (1 : Int) = _; rw [Int.mul_one]
  rw [e1] at ht
  have hP2 : ∃ Q, 2 ^ n = 2 * Q := ⟨2 ^ (n - 1), by rw [show n = n - 1 + 1 by omega, Nat.pow_succ]; simp; omega⟩
  obtain ⟨Q, hQ⟩ := hP2
  rcases Nat.lt_or_ge (2 ^ n) (2 * d) with hlt | hge
  · have hle : Sm (fun x => E tA tS (sgn f) n x) (2 ^ n) ≤ Sm (fun _ => (-2 : Int)) (2 ^ n) := Sm_le fun z hz => by
      show E tA tS (sgn f) n z ≤ -2
      rw [W_eq hn f hz]; have := hd z hz; omega
    rw [ht, Sm_const] at hle
    have e2 : (2 : Int) ^ n = ((2 ^ n : Nat) : Int) := by simp
    rw [e2] at hle
    have hpos : 1 ≤ 2 ^ n := Nat.pow_pos (by omega)
    have hs : sgn f 0 = 1 ∨ sgn f 0 = -1 := by unfold sgn; cases f 0 <;> simp
    rcases hs with e | e <;> rw [e] at hle <;> omega
  · exact hge
theorem rowT_zero {f : Nat → Bool} {m : Nat} (h : ∀ x, x < m → ∀ y, y < m → tell f x y = false) : ∀ k, k ≤ m → rowT f m k = 0 := by
  intro k
  induction k with
  | zero => intro _; rfl
  | succ k ih => intro hk; simp only [rowT]; rw [ih (by omega), cnI_none fun y hy => h k (by omega) y hy]
/-- a set's own table: no pair tells it -/
theorem none_tells {n : Nat} (hn : n ≤ 4) (f : Nat → Bool) {s : Nat} (hs : s < 2 ^ n) (h : dS f s (2 ^ n) = 0) : rowT f (2 ^ n) (2 ^ n) = 0 := by
  have hf := cnI_zero h
  have h16 : 2 ^ n ≤ 16 := by
    match n, hn with
    | 0, _ => decide
    | 1, _ => decide
    | 2, _ => decide
    | 3, _ => decide
    | 4, _ => decide
  have hv : ∀ x, x < 2 ^ n → f x = (pc (x &&& s) % 2 == 1) := fun x hx => by
    have := hf x hx
    revert this
    cases f x <;> cases (pc (x &&& s) % 2 == 1) <;> simp
  refine rowT_zero (fun x hx y hy => ?_) _ (Nat.le_refl _)
  unfold tell
  rw [hv x hx, hv y hy, hv _ (xor_lt n hn x hx y hy), par_xor s (by omega) x (by omega) y (by omega), Nat.add_mod]
  rcases Nat.mod_two_eq_zero_or_one (pc (x &&& s)) with e | e <;> rcases Nat.mod_two_eq_zero_or_one (pc (y &&& s)) with e2 | e2 <;> rw [e, e2] <;> decide
end Go.Proofs.Ytoodmoliglhpiaa.WaveM
