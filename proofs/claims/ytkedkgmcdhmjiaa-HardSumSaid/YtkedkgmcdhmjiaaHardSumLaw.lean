/- Weights with a digit for each variable and each clause make the total just if the clauses can be true. No condition. -/
import Derived.Test.YtkedkgmcdhmjiaaHardKarp
namespace Go.Proofs.Ytkedkgmcdhmjiaa
set_option linter.unusedVariables false
set_option linter.unusedSimpArgs false
def sumD (a : Nat → Nat) : Nat → Nat
  | 0 => 0
  | k + 1 => sumD a k + 10 ^ k * a k
theorem sumD_lt {a : Nat → Nat} : ∀ {K : Nat}, (∀ k, k < K → a k ≤ 9) → sumD a K < 10 ^ K
  | 0, _ => by simp [sumD]
  | K + 1, h => by
    have ih := sumD_lt (K := K) fun k hk => h k (by omega)
    have e : 10 ^ K * a K ≤ 10 ^ K * 9 := Nat.mul_le_mul_left _ (h K (by omega))
    have e2 : 10 ^ (K + 1) = 10 ^ K * 10 := Nat.pow_succ ..
    simp only [sumD]; omega
theorem sumD_inj {a b : Nat → Nat} : ∀ {K : Nat}, (∀ k, k < K → a k ≤ 9) → (∀ k, k < K → b k ≤ 9) → sumD a K = sumD b K → ∀ k, k < K → a k = b k
  | 0, _, _, _ => fun k hk => absurd hk (Nat.not_lt_zero _)
  | K + 1, ha, hb, he => by
    have la := sumD_lt (K := K) fun k hk => ha k (by omega)
    have lb := sumD_lt (K := K) fun k hk => hb k (by omega)
    simp only [sumD] at he
    have hk : a K = b K := by
      rcases Nat.lt_trichotomy (a K) (b K) with h | h | h
      · have := Nat.mul_le_mul_left (10 ^ K) (show a K + 1 ≤ b K from h)
        rw [Nat.mul_succ] at this; omega
      · exact h
      · have := Nat.mul_le_mul_left (10 ^ K) (show b K + 1 ≤ a K from h)
        rw [Nat.mul_succ] at this; omega
    rw [hk] at he
    intro k hk'
    by_cases e : k = K
    · rw [e]; exact hk
    · exact sumD_inj (K := K) (fun k hk => ha k (by omega)) (fun k hk => hb k (by omega)) (by omega) k (by omega)
theorem sumD_congr {a b : Nat → Nat} : ∀ {K : Nat}, (∀ k, k < K → a k = b k) → sumD a K = sumD b K
  | 0, _ => rfl
  | K + 1, h => by simp only [sumD]; rw [sumD_congr fun k hk => h k (by omega), h K (by omega)]
theorem sumD_add (x y : Nat → Nat) : ∀ K, sumD (fun k => x k + y k) K = sumD x K + sumD y K
  | 0 => rfl
  | K + 1 => by simp only [sumD]; rw [sumD_add x y K, Nat.mul_add]; omega
theorem sumD_zero : ∀ K, sumD (fun _ => 0) K = 0
  | 0 => rfl
  | K + 1 => by simp only [sumD]; rw [sumD_zero K]; rfl
theorem sumD_one (v : Nat) : ∀ K, sumD (fun k => if k = v then 1 else 0) K = if v < K then 10 ^ v else 0
  | 0 => rfl
  | K + 1 => by
    simp only [sumD]
    rw [sumD_one v K]
    by_cases e : K = v
    · subst e; rw [if_neg (by omega), if_pos rfl, if_pos (by omega)]; omega
    · rw [if_neg e]
      by_cases h : v < K
      · rw [if_pos h, if_pos (by omega)]; omega
      · rw [if_neg h, if_neg (by omega)]; omega
/-- what those that are taken weigh -/
def sumS (S : Nat → Bool) (W : Nat → Nat) : Nat → Nat
  | 0 => 0
  | j + 1 => sumS S W j + if S j = true then W j else 0
theorem sumS_congr {S T : Nat → Bool} {W X : Nat → Nat} : ∀ {J : Nat}, (∀ j, j < J → S j = T j ∧ W j = X j) → sumS S W J = sumS T X J
  | 0, _ => rfl
  | J + 1, h => by simp only [sumS]; rw [sumS_congr fun j hj => h j (by omega), (h J (by omega)).1, (h J (by omega)).2]
theorem sumS_D (S : Nat → Bool) (M : Nat → Nat → Nat) (K : Nat) : ∀ J, sumS S (fun j => sumD (M j) K) J = sumD (fun k => sumS S (fun j => M j k) J) K
  | 0 => by simp only [sumS]; rw [sumD_zero]
  | J + 1 => by
    simp only [sumS]
    rw [sumD_add, sumS_D S M K J]
    by_cases h : S J = true
    · rw [if_pos h]; congr 1; exact sumD_congr fun k _ => by rw [if_pos h]
    · rw [if_neg h]; congr 1; exact ((sumD_congr fun k _ => by rw [if_neg h]).trans (sumD_zero K)).symm
def sumN (f : Nat → Nat) : Nat → Nat
  | 0 => 0
  | k + 1 => sumN f k + f k
theorem sumN_congr {f g : Nat → Nat} : ∀ {K : Nat}, (∀ k, k < K → f k = g k) → sumN f K = sumN g K
  | 0, _ => rfl
  | K + 1, h => by simp only [sumN]; rw [sumN_congr fun k hk => h k (by omega), h K (by omega)]
theorem sumN_le {f g : Nat → Nat} : ∀ {K : Nat}, (∀ k, k < K → f k ≤ g k) → sumN f K ≤ sumN g K
  | 0, _ => Nat.le_refl _
  | K + 1, h => by
    have := sumN_le (K := K) fun k hk => h k (by omega)
    have := h K (by omega)
    simp only [sumN]; omega
theorem sumN_add (x y : Nat → Nat) : ∀ K, sumN (fun k => x k + y k) K = sumN x K + sumN y K
  | 0 => rfl
  | K + 1 => by simp only [sumN]; rw [sumN_add x y K]; omega
theorem sumN_zero : ∀ {K : Nat} {f : Nat → Nat}, (∀ k, k < K → f k = 0) → sumN f K = 0
  | 0, _, _ => rfl
  | K + 1, f, h => by simp only [sumN]; rw [sumN_zero (K := K) fun k hk => h k (by omega), h K (by omega)]
theorem sumN_single {f : Nat → Nat} {k : Nat} : ∀ {K : Nat}, k < K → (∀ p, p < K → p ≠ k → f p = 0) → sumN f K = f k
  | 0, h, _ => absurd h (Nat.not_lt_zero _)
  | K + 1, h, hz => by
    simp only [sumN]
    by_cases e : k = K
    · subst e; rw [sumN_zero (K := k) fun p hp => hz p (by omega) (by omega)]; omega
    · rw [sumN_single (K := K) (by omega) fun p hp hne => hz p (by omega) hne, hz K (by omega) (by omega)]; rfl
theorem sumN_split (f : Nat → Nat) (V : Nat) : ∀ n, sumN f (V + n) = sumN f V + sumN (fun p => f (V + p)) n
  | 0 => rfl
  | n + 1 => by
    show sumN f (V + n) + f (V + n) = _
    rw [sumN_split f V n]; simp only [sumN]; omega
theorem sumN_pos {f : Nat → Nat} : ∀ {K : Nat}, 0 < sumN f K → ∃ k, k < K ∧ 0 < f k
  | 0, h => absurd h (Nat.lt_irrefl _)
  | K + 1, h => by
    by_cases e : 0 < f K
    · exact ⟨K, by omega, e⟩
    · obtain ⟨k, hk, h1⟩ := sumN_pos (f := f) (K := K) (by simp only [sumN] at h; omega)
      exact ⟨k, by omega, h1⟩
theorem le_sumN {f : Nat → Nat} : ∀ {K k : Nat}, k < K → f k ≤ sumN f K
  | 0, _, h => absurd h (Nat.not_lt_zero _)
  | K + 1, k, h => by
    by_cases e : k = K
    · subst e; simp only [sumN]; omega
    · have := le_sumN (f := f) (K := K) (k := k) (by omega)
      simp only [sumN]; omega
theorem sumS_pairs (S : Nat → Bool) (W : Nat → Nat) : ∀ K, sumS S W (2 * K) = sumN (fun p => (if S (2 * p) = true then W (2 * p) else 0) + if S (2 * p + 1) = true then W (2 * p + 1) else 0) K
  | 0 => rfl
  | K + 1 => by
    rw [show 2 * (K + 1) = 2 * K + 1 + 1 by omega]
    simp only [sumS, sumN]
    rw [sumS_pairs S W K]; omega
/-- does a list name v? -/
def occB (s : SI) (v : Nat) : Bool := anyB (fun q => s.f q == (v : Int)) s.n
theorem occ_sum (f : Nat → Int) (V : Nat) : ∀ m, sumN (fun p => (anyB (fun q => f q == (p : Int)) m).toNat) V ≤ m
  | 0 => Nat.le_of_eq (sumN_zero fun k _ => rfl)
  | m + 1 => by
    have ih := occ_sum f V m
    have h1 : sumN (fun p => (anyB (fun q => f q == (p : Int)) (m + 1)).toNat) V ≤ sumN (fun p => (anyB (fun q => f q == (p : Int)) m).toNat + (f m == (p : Int)).toNat) V := sumN_le fun p _ => by
      by_cases e : anyB (fun q => f q == (p : Int)) (m + 1) = true
      · obtain ⟨i, hi, h⟩ := of_decide_eq_true e
        by_cases ei : i = m
        · rw [ei] at h
          dsimp only at h
          rw [e, h]; exact Nat.le_add_left _ _
        · rw [e, anyB_yes (k := i) (by omega) h]; exact Nat.le_add_right _ _
      · rw [Bool.not_eq_true] at e
        rw [e]; exact Nat.zero_le _
    rw [sumN_add] at h1
    have h2 : sumN (fun p => (f m == (p : Int)).toNat) V ≤ 1 := by
      by_cases e : ∃ p, p < V ∧ f m = (p : Int)
      · obtain ⟨p, hp, e⟩ := e
        rw [sumN_single hp fun q hq hne => by
          have : (f m == (q : Int)) = false := by rw [beq_eq_false_iff_ne, e]; omega
          rw [this]; rfl]
        cases (f m == (p : Int)) <;> decide
      · rw [sumN_zero fun q hq => by
          have : (f m == (q : Int)) = false := by rw [beq_eq_false_iff_ne]; exact fun h => e ⟨q, hq, h⟩
          rw [this]; rfl]
        omega
    omega
/-- digit k of weight j -/
def mat (Y N : Nat → SI) (V j k : Nat) : Nat :=
  if j / 2 < V ∧ V ≤ k then (if j % 2 = 0 then occB (Y (k - V)) (j / 2) else occB (N (k - V)) (j / 2)).toNat else if k = j / 2 then 1 else 0
def wgt (Y N : Nat → SI) (V n j : Nat) : Nat := sumD (mat Y N V j) (V + n)
def totW (V n : Nat) : Nat := sumD (fun k => if k < V then 1 else 3) (V + n)
/-- how many of a clause's words are taken -/
def tkn (Y N : Nat → SI) (V : Nat) (S : Nat → Bool) (i : Nat) : Nat := sumN (fun p => (S (2 * p) && occB (Y i) p).toNat + (S (2 * p + 1) && occB (N i) p).toNat) V
theorem if_and (b : Bool) (x : Bool) : (if b = true then x.toNat else 0) = (b && x).toNat := by cases b <;> cases x <;> rfl
def dig (Y N : Nat → SI) (V n : Nat) (S : Nat → Bool) (k : Nat) : Nat := sumS S (fun j => mat Y N V j k) (2 * (V + n))
section
variable {Y N : Nat → SI} {V n : Nat} {S : Nat → Bool}
theorem dig_var {k : Nat} (hk : k < V) : dig Y N V n S k = (S (2 * k)).toNat + (S (2 * k + 1)).toNat := by
  unfold dig
  rw [sumS_pairs]
  have hm : ∀ p b, b ≤ 1 → mat Y N V (2 * p + b) k = if k = p then 1 else 0 := fun p b hb => by
    unfold mat
    rw [show (2 * p + b) / 2 = p by omega, if_neg (by omega)]
  rw [sumN_single (k := k) (by omega) fun p hp hne => by
    have e0 := hm p 0 (by omega)
    have e1 := hm p 1 (by omega)
    rw [Nat.add_zero] at e0
    rw [e0, e1, if_neg (Ne.symm hne)]
    split <;> split <;> rfl]
  have e0 := hm k 0 (by omega)
  have e1 := hm k 1 (by omega)
  rw [Nat.add_zero] at e0
  rw [e0, e1, if_pos rfl]
  cases S (2 * k) <;> cases S (2 * k + 1) <;> rfl
theorem dig_cls {i : Nat} (hi : i < n) : dig Y N V n S (V + i) = tkn Y N V S i + ((S (2 * (V + i))).toNat + (S (2 * (V + i) + 1)).toNat) := by
  unfold dig
  rw [sumS_pairs, sumN_split]
  congr 1
  · unfold tkn
    refine sumN_congr fun p hp => ?_
    have m0 : mat Y N V (2 * p) (V + i) = (occB (Y i) p).toNat := by
      unfold mat
      rw [show 2 * p / 2 = p by omega, show 2 * p % 2 = 0 by omega, if_pos ⟨hp, by omega⟩, if_pos rfl, show V + i - V = i by omega]
    have m1 : mat Y N V (2 * p + 1) (V + i) = (occB (N i) p).toNat := by
      unfold mat
      rw [show (2 * p + 1) / 2 = p by omega, show (2 * p + 1) % 2 = 1 by omega, if_pos ⟨hp, by omega⟩, if_neg (by omega), show V + i - V = i by omega]
    rw [m0, m1, if_and, if_and]
  · have hm : ∀ p b, b ≤ 1 → mat Y N V (2 * (V + p) + b) (V + i) = if i = p then 1 else 0 := fun p b hb => by
      unfold mat
      rw [show (2 * (V + p) + b) / 2 = V + p by omega, if_neg (by omega)]
      by_cases e : i = p
      · rw [if_pos (by omega), if_pos e]
      · rw [if_neg (by omega), if_neg e]
    rw [sumN_single (k := i) hi fun p hp hne => by
      have e0 := hm p 0 (by omega)
      have e1 := hm p 1 (by omega)
      rw [Nat.add_zero] at e0
      rw [e0, e1, if_neg (Ne.symm hne)]
      split <;> split <;> rfl]
    have e0 := hm i 0 (by omega)
    have e1 := hm i 1 (by omega)
    rw [Nat.add_zero] at e0
    rw [e0, e1, if_pos rfl]
    cases S (2 * (V + i)) <;> cases S (2 * (V + i) + 1) <;> rfl
theorem tkn_le (i : Nat) : tkn Y N V S i ≤ (Y i).n + (N i).n := by
  have h1 : tkn Y N V S i ≤ sumN (fun p => (occB (Y i) p).toNat + (occB (N i) p).toNat) V := sumN_le fun p _ => by
    cases S (2 * p) <;> cases S (2 * p + 1) <;> cases occB (Y i) p <;> cases occB (N i) p <;> decide
  rw [sumN_add] at h1
  have h2 := occ_sum (Y i).f V (Y i).n
  have h3 := occ_sum (N i).f V (N i).n
  unfold occB at h1
  omega
theorem b1 (b : Bool) : b.toNat ≤ 1 := by cases b <;> decide
/-- the weights make the total just if the clauses can be true -/
theorem sum_can (h : hdE (V : Int) n Y N = 0) : (∃ S, sumS S (wgt Y N V n) (2 * (V + n)) = totW V n) ↔ CanB n Y N := by
  obtain ⟨_, h3, hv⟩ := hdE_zero h
  have key : ∀ S, sumS S (wgt Y N V n) (2 * (V + n)) = sumD (dig Y N V n S) (V + n) := fun S => sumS_D S (mat Y N V) (V + n) (2 * (V + n))
  have d9 : ∀ S k, k < V + n → dig Y N V n S k ≤ 9 := fun S k hk => by
    by_cases hkV : k < V
    · rw [dig_var hkV]
      have := b1 (S (2 * k)); have := b1 (S (2 * k + 1)); omega
    · obtain ⟨i, rfl⟩ : ∃ i, k = V + i := ⟨k - V, by omega⟩
      rw [dig_cls (by omega)]
      have := tkn_le (Y := Y) (N := N) (V := V) (S := S) i
      have := h3 i (by omega)
      have := b1 (S (2 * (V + i))); have := b1 (S (2 * (V + i) + 1)); omega
  constructor
  · rintro ⟨S, hS⟩
    rw [key] at hS
    have hd := sumD_inj (fun k hk => d9 S k hk) (fun k hk => by show (if k < V then 1 else 3) ≤ 9; split <;> omega) hS
    refine ⟨fun v => S (2 * v), fun i hi => ?_⟩
    have h1 := hd (V + i) (by omega)
    rw [dig_cls hi, if_neg (by omega)] at h1
    have := b1 (S (2 * (V + i))); have := b1 (S (2 * (V + i) + 1))
    obtain ⟨p, hp, hpos⟩ := sumN_pos (f := fun p => (S (2 * p) && occB (Y i) p).toNat + (S (2 * p + 1) && occB (N i) p).toNat) (K := V) (by unfold tkn at h1; omega)
    have h2 := hd p (by omega)
    rw [dig_var hp, if_pos hp] at h2
    unfold holdsC
    rw [Bool.or_eq_true]
    by_cases hy : (S (2 * p) && occB (Y i) p) = true
    · rw [Bool.and_eq_true] at hy
      obtain ⟨q, hq, e⟩ := of_decide_eq_true hy.2
      have e' := eq_of_beq e
      exact .inl (anyB_yes hq (by unfold yesP; rw [e', Int.toNat_natCast]; exact hy.1))
    · have hz : (S (2 * p + 1) && occB (N i) p) = true := by
        cases hb : (S (2 * p + 1) && occB (N i) p)
        · rw [Bool.not_eq_true] at hy
          rw [hy, hb] at hpos; exact absurd hpos (by decide)
        · rfl
      rw [Bool.and_eq_true] at hz
      obtain ⟨q, hq, e⟩ := of_decide_eq_true hz.2
      have e' := eq_of_beq e
      have hs : S (2 * p) = false := by
        cases hs : S (2 * p)
        · rfl
        · rw [hs, hz.1] at h2; exact absurd h2 (by decide)
      exact .inr (anyB_yes hq (by unfold noP; rw [e', Int.toNat_natCast]; show (!(S (2 * p))) = true; rw [hs]; rfl))
  · rintro ⟨s, hs⟩
    let S0 : Nat → Bool := fun j => if j % 2 = 0 then s (j / 2) else !(s (j / 2))
    let S : Nat → Bool := fun j => if j / 2 < V then S0 j else if j % 2 = 0 then decide (tkn Y N V S0 (j / 2 - V) ≤ 2) else decide (tkn Y N V S0 (j / 2 - V) ≤ 1)
    refine ⟨S, ?_⟩
    rw [key]
    refine sumD_congr fun k hk => ?_
    by_cases hkV : k < V
    · rw [dig_var hkV, if_pos hkV]
      have a0 : S (2 * k) = s k := by
        show (if 2 * k / 2 < V then (if 2 * k % 2 = 0 then s (2 * k / 2) else !(s (2 * k / 2))) else _) = _
        rw [show 2 * k / 2 = k by omega, if_pos hkV, if_pos (by omega)]
      have a1 : S (2 * k + 1) = !(s k) := by
        show (if (2 * k + 1) / 2 < V then (if (2 * k + 1) % 2 = 0 then s ((2 * k + 1) / 2) else !(s ((2 * k + 1) / 2))) else _) = _
        rw [show (2 * k + 1) / 2 = k by omega, if_pos hkV, if_neg (by omega)]
      rw [a0, a1]
      cases s k <;> rfl
    · obtain ⟨i, rfl⟩ : ∃ i, k = V + i := ⟨k - V, by omega⟩
      rw [dig_cls (by omega), if_neg hkV]
      have ht : tkn Y N V S i = tkn Y N V S0 i := by
        unfold tkn
        refine sumN_congr fun p hp => ?_
        have a0 : S (2 * p) = S0 (2 * p) := by
          show (if 2 * p / 2 < V then S0 (2 * p) else _) = _
          rw [if_pos (by omega)]
        have a1 : S (2 * p + 1) = S0 (2 * p + 1) := by
          show (if (2 * p + 1) / 2 < V then S0 (2 * p + 1) else _) = _
          rw [if_pos (by omega)]
        rw [a0, a1]
      have a0 : S (2 * (V + i)) = decide (tkn Y N V S0 i ≤ 2) := by
        show (if 2 * (V + i) / 2 < V then _ else if 2 * (V + i) % 2 = 0 then decide (tkn Y N V S0 (2 * (V + i) / 2 - V) ≤ 2) else _) = _
        rw [if_neg (by omega), if_pos (by omega), show 2 * (V + i) / 2 - V = i by omega]
      have a1 : S (2 * (V + i) + 1) = decide (tkn Y N V S0 i ≤ 1) := by
        show (if (2 * (V + i) + 1) / 2 < V then _ else if (2 * (V + i) + 1) % 2 = 0 then _ else decide (tkn Y N V S0 ((2 * (V + i) + 1) / 2 - V) ≤ 1)) = _
        rw [if_neg (by omega), if_neg (by omega), show (2 * (V + i) + 1) / 2 - V = i by omega]
      have hle := tkn_le (Y := Y) (N := N) (V := V) (S := S0) i
      have := h3 i (by omega)
      have hpos : 1 ≤ tkn Y N V S0 i := by
        have hh := hs i (by omega)
        unfold holdsC at hh
        rw [Bool.or_eq_true] at hh
        have v0 := hv i (by omega)
        rcases hh with hh | hh
        · obtain ⟨q, hq, e⟩ := of_decide_eq_true hh
          have vq := v0.1 q hq
          obtain ⟨p, hp⟩ : ∃ p : Nat, (Y i).f q = (p : Int) := Int.eq_ofNat_of_zero_le vq.1
          unfold yesP at e
          rw [hp, Int.toNat_natCast] at e
          refine Nat.le_trans ?_ (le_sumN (f := fun p => (S0 (2 * p) && occB (Y i) p).toNat + (S0 (2 * p + 1) && occB (N i) p).toNat) (K := V) (k := p) (by omega))
          have a0 : S0 (2 * p) = true := by show (if 2 * p % 2 = 0 then s (2 * p / 2) else _) = _; rw [if_pos (by omega), show 2 * p / 2 = p by omega]; exact e
          have a1 : occB (Y i) p = true := anyB_yes hq (by rw [hp]; exact beq_self_eq_true _)
          rw [a0, a1]; exact Nat.le_add_right _ _
        · obtain ⟨q, hq, e⟩ := of_decide_eq_true hh
          have vq := v0.2 q hq
          obtain ⟨p, hp⟩ : ∃ p : Nat, (N i).f q = (p : Int) := Int.eq_ofNat_of_zero_le vq.1
          unfold noP at e
          rw [hp, Int.toNat_natCast] at e
          refine Nat.le_trans ?_ (le_sumN (f := fun p => (S0 (2 * p) && occB (Y i) p).toNat + (S0 (2 * p + 1) && occB (N i) p).toNat) (K := V) (k := p) (by omega))
          have a0 : S0 (2 * p + 1) = true := by show (if (2 * p + 1) % 2 = 0 then _ else !(s ((2 * p + 1) / 2))) = _; rw [if_neg (by omega), show (2 * p + 1) / 2 = p by omega]; exact e
          have a1 : occB (N i) p = true := anyB_yes hq (by rw [hp]; exact beq_self_eq_true _)
          rw [a0, a1]; exact Nat.le_add_left _ _
      rw [ht, a0, a1]
      obtain ⟨t, htt⟩ : ∃ t, t = tkn Y N V S0 i := ⟨_, rfl⟩
      rw [← htt] at hle hpos ⊢
      have : t = 1 ∨ t = 2 ∨ t = 3 := by omega
      rcases this with rfl | rfl | rfl <;> decide
end
/-- there is a way to make what is left of those from one on -/
def SSum (W : Nat → Nat) (J fr left : Nat) : Prop := ∃ S : Nat → Bool, sumS (fun j => decide (fr ≤ j) && S j) W J = left
theorem sumS_zero {W : Nat → Nat} {S : Nat → Bool} : ∀ {J : Nat}, (∀ j, j < J → S j = false) → sumS S W J = 0
  | 0, _ => rfl
  | J + 1, h => by simp only [sumS]; rw [sumS_zero (J := J) fun j hj => h j (by omega), h J (by omega)]; rfl
theorem sum_peel {W : Nat → Nat} {S : Nat → Bool} {fr : Nat} (hS : S fr = true) : ∀ {J : Nat}, fr < J → sumS (fun j => decide (fr ≤ j) && S j) W J = W fr + sumS (fun j => decide (fr + 1 ≤ j) && S j) W J
  | 0, h => absurd h (Nat.not_lt_zero _)
  | J + 1, h => by
    simp only [sumS]
    by_cases e : fr = J
    · subst e
      rw [sumS_zero (fun j hj => by rw [decide_eq_false (by omega)]; rfl), sumS_zero (fun j hj => by rw [decide_eq_false (by omega)]; rfl), if_pos (by simp [hS]), if_neg (by rw [decide_eq_false (show ¬ fr + 1 ≤ fr by omega)]; simp)]
      omega
    · rw [sum_peel hS (J := J) (by omega)]
      by_cases hb : S J = true
      · rw [if_pos (by rw [hb]; simp; omega), if_pos (by rw [hb]; simp; omega)]; omega
      · rw [if_neg (by rw [Bool.not_eq_true] at hb; rw [hb]; simp), if_neg (by rw [Bool.not_eq_true] at hb; rw [hb]; simp)]; omega
theorem ssum_iff {W : Nat → Nat} {J : Nat} : ∀ (d fr left : Nat), J - fr ≤ d → (SSum W J fr left ↔ left = 0 ∨ ∃ j, fr ≤ j ∧ j < J ∧ W j ≤ left ∧ SSum W J (j + 1) (left - W j)) := by
  have back : ∀ fr left, (left = 0 ∨ ∃ j, fr ≤ j ∧ j < J ∧ W j ≤ left ∧ SSum W J (j + 1) (left - W j)) → SSum W J fr left := fun fr left h => by
    rcases h with rfl | ⟨j, h1, h2, h3, S, hS⟩
    · exact ⟨fun _ => false, sumS_zero fun j _ => by simp⟩
    · refine ⟨fun x => x == j || (decide (j + 1 ≤ x) && S x), ?_⟩
      have e : ∀ x, x < J → ((decide (fr ≤ x) && (x == j || (decide (j + 1 ≤ x) && S x))) = (decide (j ≤ x) && (x == j || (decide (j + 1 ≤ x) && S x)))) := fun x _ => by
        rcases Nat.lt_trichotomy x j with h | h | h
        · rw [show (x == j) = false by rw [beq_eq_false_iff_ne]; omega, decide_eq_false (show ¬ j + 1 ≤ x by omega), decide_eq_false (show ¬ j ≤ x by omega)]; simp
        · rw [decide_eq_true (show fr ≤ x by omega), decide_eq_true (show j ≤ x by omega)]
        · rw [decide_eq_true (show fr ≤ x by omega), decide_eq_true (show j ≤ x by omega)]
      rw [sumS_congr fun x hx => ⟨e x hx, rfl⟩, sum_peel (by simp) h2]
      rw [show sumS (fun x => decide (j + 1 ≤ x) && (x == j || (decide (j + 1 ≤ x) && S x))) W J = left - W j from (sumS_congr fun x hx => ⟨by
        by_cases h : j + 1 ≤ x
        · rw [decide_eq_true h, show (x == j) = false by rw [beq_eq_false_iff_ne]; omega]; simp
        · rw [decide_eq_false h]; rfl, rfl⟩).trans hS]
      omega
  intro d
  induction d with
  | zero =>
    intro fr left hd
    refine ⟨fun ⟨S, hS⟩ => .inl ?_, back fr left⟩
    rw [sumS_zero fun j hj => by rw [decide_eq_false (by omega)]; rfl] at hS
    exact hS.symm
  | succ d ih =>
    intro fr left hd
    refine ⟨fun ⟨S, hS⟩ => ?_, back fr left⟩
    by_cases hlt : fr < J
    · by_cases hb : S fr = true
      · rw [sum_peel hb hlt] at hS
        exact .inr ⟨fr, Nat.le_refl _, hlt, by omega, S, by omega⟩
      · have h1 : SSum W J (fr + 1) left := ⟨S, (sumS_congr fun x hx => ⟨by
          by_cases e : x = fr
          · subst e; rw [Bool.not_eq_true] at hb; rw [hb]; simp
          · by_cases h : fr ≤ x
            · rw [decide_eq_true h, decide_eq_true (show fr + 1 ≤ x by omega)]
            · rw [decide_eq_false h, decide_eq_false (show ¬ fr + 1 ≤ x by omega)], rfl⟩).trans hS⟩
        rcases (ih (fr + 1) left (by omega)).1 h1 with h | ⟨j, a1, a2, a3, a4⟩
        · exact .inl h
        · exact .inr ⟨j, by omega, a2, a3, a4⟩
    · rw [sumS_zero fun j hj => by rw [decide_eq_false (by omega)]; rfl] at hS
      exact .inl hS.symm
theorem ssum_zero {W : Nat → Nat} {J left : Nat} : SSum W J 0 left ↔ ∃ S, sumS S W J = left := by
  constructor
  · rintro ⟨S, hS⟩
    exact ⟨S, (sumS_congr fun j _ => ⟨by simp, rfl⟩).trans hS⟩
  · rintro ⟨S, hS⟩
    exact ⟨S, (sumS_congr fun j _ => ⟨by simp, rfl⟩).trans hS⟩
end Go.Proofs.Ytkedkgmcdhmjiaa
