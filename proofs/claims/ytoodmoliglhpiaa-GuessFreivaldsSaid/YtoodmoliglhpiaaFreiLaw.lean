/- Freivalds: a product that is another one is told by at least half of all lists of bits. No condition. -/
import Derived.Test.YtoodmoliglhpiaaPred
namespace Go.Proofs.Ytoodmoliglhpiaa
set_option linter.unusedVariables false
set_option linter.unusedSimpArgs false
def sI (f : Nat → Int) : Nat → Int
  | 0 => 0
  | n + 1 => sI f n + f n
theorem sI_congr {f g : Nat → Int} : ∀ {n : Nat}, (∀ i, i < n → f i = g i) → sI f n = sI g n
  | 0, _ => rfl
  | n + 1, h => by simp only [sI]; rw [sI_congr fun i hi => h i (by omega), h n (by omega)]
theorem sI_zero {f : Nat → Int} : ∀ {n : Nat}, (∀ i, i < n → f i = 0) → sI f n = 0
  | 0, _ => rfl
  | n + 1, h => by simp only [sI]; rw [sI_zero fun i hi => h i (by omega), h n (by omega)]; rfl
theorem sI_add (f g : Nat → Int) : ∀ n, sI (fun i => f i + g i) n = sI f n + sI g n
  | 0 => rfl
  | n + 1 => by simp only [sI]; rw [sI_add f g n]; omega
theorem sI_sub (f g : Nat → Int) : ∀ n, sI (fun i => f i - g i) n = sI f n - sI g n
  | 0 => rfl
  | n + 1 => by simp only [sI]; rw [sI_sub f g n]; omega
theorem sI_mul (c : Int) (f : Nat → Int) : ∀ n, sI (fun i => c * f i) n = c * sI f n
  | 0 => by simp [sI]
  | n + 1 => by simp only [sI]; rw [sI_mul c f n, Int.mul_add]
theorem sI_mulr (c : Int) (f : Nat → Int) : ∀ n, sI (fun i => f i * c) n = sI f n * c
  | 0 => by simp [sI]
  | n + 1 => by simp only [sI]; rw [sI_mulr c f n, Int.add_mul]
theorem sI_swap (f : Nat → Nat → Int) (m : Nat) : ∀ n, sI (fun k => sI (fun x => f k x) m) n = sI (fun x => sI (fun k => f k x) n) m
  | 0 => (sI_zero fun i _ => rfl).symm
  | n + 1 => by simp only [sI]; rw [sI_swap f m n, ← sI_add]
theorem sI_mod (a b : Nat → Int) : ∀ n, sI (fun k => a k * (b k % 7)) n % 7 = sI (fun k => a k * b k) n % 7
  | 0 => rfl
  | n + 1 => by
    simp only [sI]
    rw [Int.add_emod, sI_mod a b n, Int.mul_emod, Int.emod_emod_of_dvd _ (Int.dvd_refl 7), ← Int.mul_emod, ← Int.add_emod]
theorem sI_mod0 (D v : Nat → Int) : ∀ {n : Nat}, (∀ x, x < n → D x % 7 = 0) → sI (fun x => D x * v x) n % 7 = 0
  | 0, _ => rfl
  | n + 1, h => by
    simp only [sI]
    rw [Int.add_emod, sI_mod0 D v (fun x hx => h x (by omega)), Int.mul_emod, h n (by omega)]; simp
theorem sI_upd (D v : Nat → Int) (x : Nat) : ∀ n, sI (fun j => D j * (v j + if j = x then 1 else 0)) n = sI (fun j => D j * v j) n + if x < n then D x else 0
  | 0 => rfl
  | n + 1 => by
    simp only [sI]
    rw [sI_upd D v x n, Int.mul_add]
    by_cases e : n = x
    · subst e; rw [if_pos rfl, if_neg (by omega), if_pos (by omega), Int.mul_one]; omega
    · rw [if_neg e, Int.mul_zero]
      by_cases h : x < n
      · rw [if_pos h, if_pos (by omega)]; omega
      · rw [if_neg h, if_neg (by omega)]; omega
section
variable (n : Nat) (A B C : Nat → Nat → Int)
def tmF (M : Nat → Nat → Int) (v : Nat → Int) (i : Nat) : Int := sI (fun j => M i j * v j) n % 7
def Dm (i x : Nat) : Int := sI (fun k => A i k * B k x) n - C i x
def prd (v : Nat → Int) : Bool := decide (∀ i, i < n → tmF n A (tmF n B v) i = tmF n C v i)
theorem prd_iff {v : Nat → Int} : prd n A B C v = true ↔ ∀ i, i < n → sI (fun x => Dm n A B C i x * v x) n % 7 = 0 := by
  unfold prd
  rw [decide_eq_true_iff]
  have key : ∀ i, tmF n A (tmF n B v) i = tmF n C v i ↔ sI (fun x => Dm n A B C i x * v x) n % 7 = 0 := fun i => by
    have h1 : tmF n A (tmF n B v) i = sI (fun x => sI (fun k => A i k * B k x) n * v x) n % 7 := by
      unfold tmF
      rw [sI_mod]
      congr 1
      have : sI (fun k => A i k * sI (fun j => B k j * v j) n) n = sI (fun k => sI (fun x => A i k * B k x * v x) n) n := sI_congr fun k _ => by
        rw [← sI_mul]; exact sI_congr fun x _ => by rw [Int.mul_assoc]
      rw [this, sI_swap]
      exact sI_congr fun x _ => sI_mulr _ _ _
    have h2 : sI (fun x => Dm n A B C i x * v x) n = sI (fun x => sI (fun k => A i k * B k x) n * v x) n - sI (fun x => C i x * v x) n := by
      rw [← sI_sub]
      exact sI_congr fun x _ => by unfold Dm; rw [Int.sub_mul]
    rw [h1, h2]
    unfold tmF
    omega
  exact ⟨fun h i hi => (key i).1 (h i hi), fun h i hi => (key i).2 (h i hi)⟩
def vb (s j : Nat) : Int := ((s / 2 ^ j % 2 : Nat) : Int)
def colOk (x : Nat) : Bool := decide (∀ i, i < n → (sI (fun k => A i k * B k x) n + 7 - C i x) % 7 = 0)
theorem colOk_iff {x : Nat} : colOk n A B C x = true ↔ ∀ i, i < n → Dm n A B C i x % 7 = 0 := by
  unfold colOk
  rw [decide_eq_true_iff]
  have key : ∀ i, (sI (fun k => A i k * B k x) n + 7 - C i x) % 7 = 0 ↔ Dm n A B C i x % 7 = 0 := fun i => by unfold Dm; omega
  exact ⟨fun h i hi => (key i).1 (h i hi), fun h i hi => (key i).2 (h i hi)⟩
def cntF (p : Nat → Bool) : Nat → Nat
  | 0 => 0
  | k + 1 => cntF p k + (p k).toNat
theorem cntF_congr {p q : Nat → Bool} : ∀ {k : Nat}, (∀ i, i < k → p i = q i) → cntF p k = cntF q k
  | 0, _ => rfl
  | k + 1, h => by simp only [cntF]; rw [cntF_congr fun i hi => h i (by omega), h k (by omega)]
theorem cntF_split (p : Nat → Bool) (m : Nat) : ∀ k, cntF p (m + k) = cntF p m + cntF (fun s => p (m + s)) k
  | 0 => rfl
  | k + 1 => by
    show cntF p (m + k) + (p (m + k)).toNat = _
    rw [cntF_split p m k]; simp only [cntF]; omega
theorem cntF_two (p q : Nat → Bool) : ∀ {k : Nat}, (∀ s, s < k → p s = true ∨ q s = true) → k ≤ cntF p k + cntF q k
  | 0, _ => Nat.le_refl _
  | k + 1, h => by
    have ih := cntF_two p q (k := k) fun s hs => h s (by omega)
    have : 1 ≤ (p k).toNat + (q k).toNat := by
      rcases h k (by omega) with e | e
      · rw [e]; exact Nat.le_add_right _ _
      · rw [e]; exact Nat.le_add_left _ _
    simp only [cntF]; omega
theorem cntF_le (p : Nat → Bool) : ∀ k, cntF p k ≤ k
  | 0 => Nat.le_refl _
  | k + 1 => by have := cntF_le p k; have : (p k).toNat ≤ 1 := (by cases p k <;> decide); simp only [cntF]; omega
theorem cntF_zero {p : Nat → Bool} : ∀ {k : Nat}, (∀ s, s < k → p s = false) → cntF p k = 0
  | 0, _ => rfl
  | k + 1, h => by simp only [cntF]; rw [cntF_zero fun s hs => h s (by omega), h k (by omega)]; rfl
theorem cntF_lt {p : Nat → Bool} (h0 : p 0 = false) : ∀ {k : Nat}, 0 < k → cntF p k < k
  | 0, h => absurd h (Nat.lt_irrefl _)
  | k + 1, _ => by
    by_cases e : k = 0
    · subst e; simp [cntF, h0]
    · have := cntF_lt h0 (k := k) (by omega)
      have : (p k).toNat ≤ 1 := (by cases p k <;> decide)
      simp only [cntF]; omega
theorem bit_half : ∀ n, n < 4 → ∀ x, x < n → ∀ s, s < 2 ^ n → (2 ^ n + s) / 2 ^ x % 2 = s / 2 ^ x % 2 := by decide +kernel
theorem half_le : ∀ (n : Nat), n ≤ 4 → ∀ (x : Nat) (p : Nat → Bool), x < n → (∀ s, s < 2 ^ n → s / 2 ^ x % 2 = 0 → p s = true ∨ p (s + 2 ^ x) = true) → 2 ^ n ≤ 2 * cntF p (2 ^ n)
  | 0, _, x, _, h, _ => absurd h (Nat.not_lt_zero _)
  | n + 1, h4, x, p, hx, hp => by
    have e2 : 2 ^ (n + 1) = 2 ^ n + 2 ^ n := by rw [Nat.pow_succ]; omega
    rw [e2, cntF_split]
    by_cases e : x = n
    · subst e
      have := cntF_two p (fun s => p (2 ^ x + s)) (k := 2 ^ x) fun s hs => by
        have := hp s (by omega) (by rw [Nat.div_eq_of_lt hs])
        rw [Nat.add_comm s] at this; exact this
      omega
    · have h1 := half_le n (by omega) x p (by omega) fun s hs hb => hp s (by omega) hb
      have h2 := half_le n (by omega) x (fun s => p (2 ^ n + s)) (by omega) fun s hs hb => by
        have := hp (2 ^ n + s) (by omega) (by rw [bit_half n (by omega) x (by omega) s hs]; exact hb)
        rw [Nat.add_assoc] at this; exact this
      omega
theorem bit_set : ∀ x, x < 4 → ∀ s, s < 16 → s / 2 ^ x % 2 = 0 → ∀ j, j < 4 → (s + 2 ^ x) / 2 ^ j % 2 = s / 2 ^ j % 2 + if j = x then 1 else 0 := by decide +kernel
def badF (s : Nat) : Bool := !(prd n A B C (vb s))
theorem bad_none (h : ∀ x, x < n → colOk n A B C x = true) (K : Nat) : cntF (badF n A B C) K = 0 :=
  cntF_zero fun s _ => by
    unfold badF
    rw [(prd_iff n A B C).2 fun i hi => sI_mod0 _ _ fun x hx => (colOk_iff n A B C).1 (h x hx) i hi]; rfl
theorem bad_lt (K : Nat) (hK : 0 < K) : cntF (badF n A B C) K < K :=
  cntF_lt (by
    unfold badF
    rw [(prd_iff n A B C).2 fun i hi => by rw [sI_zero fun x _ => by unfold vb; rw [Nat.zero_div]; simp]; rfl]; rfl) hK
theorem bad_half (hn : n ≤ 4) {x : Nat} (hx : x < n) (h : colOk n A B C x = false) : 2 ^ n ≤ 2 * cntF (badF n A B C) (2 ^ n) := by
  refine half_le n hn x _ hx fun s hs hb => ?_
  obtain ⟨i, hi, hd⟩ : ∃ i, i < n ∧ ¬ Dm n A B C i x % 7 = 0 := by
    refine Classical.byContradiction fun hc => ?_
    have : colOk n A B C x = true := (colOk_iff n A B C).2 fun i hi => Classical.byContradiction fun h => hc ⟨i, hi, h⟩
    rw [this] at h; cases h
  have hs16 : s < 16 := Nat.lt_of_lt_of_le hs (Nat.pow_le_pow_right (n := 2) (i := n) (j := 4) (by omega) hn)
  refine Classical.byContradiction fun hc => ?_
  have g1 : prd n A B C (vb s) = true := by
    cases e : prd n A B C (vb s)
    · exact absurd (.inl (by unfold badF; rw [e]; rfl)) hc
    · rfl
  have g2 : prd n A B C (vb (s + 2 ^ x)) = true := by
    cases e : prd n A B C (vb (s + 2 ^ x))
    · exact absurd (.inr (by unfold badF; rw [e]; rfl)) hc
    · rfl
  have h1 := (prd_iff n A B C).1 g1 i hi
  have h2 := (prd_iff n A B C).1 g2 i hi
  have h3 : sI (fun j => Dm n A B C i j * vb (s + 2 ^ x) j) n = sI (fun j => Dm n A B C i j * vb s j) n + Dm n A B C i x := by
    have := sI_upd (Dm n A B C i) (vb s) x n
    rw [if_pos hx] at this
    rw [← this]
    refine sI_congr fun j hj => ?_
    congr 1
    unfold vb
    rw [bit_set x (by omega) s hs16 hb j (by omega)]
    split <;> simp
  rw [h3] at h2
  omega
end
end Go.Proofs.Ytoodmoliglhpiaa
