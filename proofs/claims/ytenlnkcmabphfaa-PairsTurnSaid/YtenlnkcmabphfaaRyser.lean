/- Ryser's sum by sets of columns is the sum over all ways. Condition: at most six columns. -/
import Derived.Test.YtenlnkcmabphfaaDetLaw
import Derived.Test.YtenlnkcmabphfaaPairsLaw
namespace Go.Proofs.Ytenlnkcmabphfaa
set_option linter.unusedVariables false
/-- f 0 * .. * f (n - 1) -/
def prodI (f : Nat → Int) : Nat → Int
  | 0 => 1
  | n + 1 => prodI f n * f n
theorem prodI_congr {f g : Nat → Int} : ∀ {n}, (∀ i, i < n → f i = g i) → prodI f n = prodI g n
  | 0, _ => rfl
  | n + 1, h => by
    show prodI f n * f n = prodI g n * g n
    rw [prodI_congr fun i hi => h i (by omega), h n (by omega)]
theorem prodI_first (f : Nat → Int) : ∀ n, prodI f (n + 1) = f 0 * prodI (fun i => f (i + 1)) n
  | 0 => by show 1 * f 0 = f 0 * 1; omega
  | n + 1 => by
    show prodI f (n + 1) * f (n + 1) = f 0 * (prodI (fun i => f (i + 1)) n * f (n + 1))
    rw [prodI_first f n, Int.mul_assoc]
/-- k differences -/
def Df : Nat → (Nat → Nat → Int) → ((Nat → Int) → Int) → (Nat → Int) → Int
  | 0, _, F, v => F v
  | k + 1, A, F, v => Df k A F (fun i => v i + A i k) - Df k A F v
theorem Df_congr : ∀ (k : Nat) {A B : Nat → Nat → Int} (F : (Nat → Int) → Int) (v : Nat → Int), (∀ i j, j < k → A i j = B i j) → Df k A F v = Df k B F v
  | 0, _, _, _, _, _ => rfl
  | k + 1, A, B, F, v, h => by
    show Df k A F (fun i => v i + A i k) - Df k A F v = Df k B F (fun i => v i + B i k) - Df k B F v
    rw [Df_congr k F _ fun i j hj => h i j (by omega), Df_congr k F v fun i j hj => h i j (by omega), show (fun i => v i + A i k) = fun i => v i + B i k from funext fun i => by rw [h i k (by omega)]]
theorem Df_succ (k : Nat) (A : Nat → Nat → Int) (F : (Nat → Int) → Int) (v : Nat → Int) : Df (k + 1) A F v = Df k A F (fun i => v i + A i k) - Df k A F v := rfl
theorem Df_mul (Q : (Nat → Int) → Int) : ∀ (k : Nat) (A : Nat → Nat → Int) (v : Nat → Int), Df k A (fun v => v 0 * Q (fun i => v (i + 1))) v =
    v 0 * Df k (fun i j => A (i + 1) j) Q (fun i => v (i + 1)) + sumI (fun j => A 0 j * (Df (k - 1) (fun a b => A (a + 1) (skp j b)) Q (fun i => v (i + 1)) + Df k (fun i j => A (i + 1) j) Q (fun i => v (i + 1)))) k
  | 0, A, v => by show v 0 * Q _ = v 0 * Q _ + 0; rw [Int.add_zero]
  | k + 1, A, v => by
    rw [Df_succ, Df_mul Q k, Df_mul Q k]
    have h1 : sumI (fun j => A 0 j * (Df (k - 1) (fun a b => A (a + 1) (skp j b)) Q (fun i => v (i + 1) + A (i + 1) k) + Df k (fun i j => A (i + 1) j) Q (fun i => v (i + 1) + A (i + 1) k))) k =
        sumI (fun j => A 0 j * (Df k (fun a b => A (a + 1) (skp j b)) Q (fun i => v (i + 1)) + Df (k + 1) (fun i j => A (i + 1) j) Q (fun i => v (i + 1)))) k +
        sumI (fun j => A 0 j * (Df (k - 1) (fun a b => A (a + 1) (skp j b)) Q (fun i => v (i + 1)) + Df k (fun i j => A (i + 1) j) Q (fun i => v (i + 1)))) k := by
      rw [← sumI_add]
      refine sumI_congr fun j hj => ?_
      obtain ⟨q, rfl⟩ : ∃ q, k = q + 1 := ⟨k - 1, by omega⟩
      have e1 : skp j q = q + 1 := skp_ge (by omega)
      rw [Df_succ (q + 1), Df_succ q (fun a b => A (a + 1) (skp j b)), show q + 1 - 1 = q from rfl]
      simp only [e1]
      grind
    have h2 : Df k (fun a b => A (a + 1) (skp k b)) Q (fun i => v (i + 1)) = Df k (fun i j => A (i + 1) j) Q (fun i => v (i + 1)) := Df_congr k Q _ fun i j hj => by rw [skp_lt hj]
    show (v 0 + A 0 k) * Df k (fun i j => A (i + 1) j) Q (fun i => v (i + 1) + A (i + 1) k) + sumI _ k - (v 0 * Df k (fun i j => A (i + 1) j) Q (fun i => v (i + 1)) + sumI _ k) =
      v 0 * Df (k + 1) (fun i j => A (i + 1) j) Q (fun i => v (i + 1)) + (sumI _ k + A 0 k * (Df k (fun a b => A (a + 1) (skp k b)) Q (fun i => v (i + 1)) + Df (k + 1) (fun i j => A (i + 1) j) Q (fun i => v (i + 1))))
    rw [h1, h2, Df_succ k (fun i j => A (i + 1) j)]
    simp only [Nat.add_sub_cancel]
    grind
theorem Df_const : ∀ (k : Nat) (A : Nat → Nat → Int) (c : Int) (v : Nat → Int), Df (k + 1) A (fun _ => c) v = 0
  | 0, A, c, v => by show c - c = 0; omega
  | k + 1, A, c, v => by rw [Df_succ, Df_const k, Df_const k]; rfl
theorem prodI_fun (n : Nat) : (fun v => prodI v (n + 1)) = fun v => v 0 * (fun u => prodI u n) (fun i => v (i + 1)) := funext fun v => prodI_first v n
theorem Df_more : ∀ (n k : Nat) (A : Nat → Nat → Int) (v : Nat → Int), n < k → Df k A (fun v => prodI v n) v = 0
  | 0, k, A, v, h => by
    obtain ⟨q, rfl⟩ : ∃ q, k = q + 1 := ⟨k - 1, by omega⟩
    exact Df_const q A 1 v
  | n + 1, k, A, v, h => by
    rw [prodI_fun, Df_mul (fun u => prodI u n), Df_more n k _ _ (by omega), Int.mul_zero, Int.zero_add]
    refine sumI_zero fun j hj => ?_
    rw [Df_more n (k - 1) _ _ (by omega), Int.add_zero, Int.mul_zero]
/-- as many differences as rows: all ways -/
theorem Df_all : ∀ (n : Nat) (A : Nat → Nat → Int) (v : Nat → Int), Df n A (fun v => prodI v n) v = dt 1 n A
  | 0, A, v => rfl
  | n + 1, A, v => by
    rw [prodI_fun, Df_mul (fun u => prodI u n), Df_more n (n + 1) _ _ (by omega), Int.mul_zero, Int.zero_add, dt_row]
    refine sumI_congr fun j hj => ?_
    rw [show n + 1 - 1 = n from rfl, Df_all n, Int.add_zero, Int.one_pow, Int.one_mul]
theorem top_bt : ∀ k, k < 6 → ∀ t, t < 2 ^ k → cnP (2 ^ k + t) = cnP t + 1 ∧ cnP t ≤ k ∧ btP (2 ^ k + t) k = true ∧ btP t k = false ∧ ∀ j, j < k → btP (2 ^ k + t) j = btP t j := by decide +kernel
/-- a row's sum over a set of columns -/
def rsP (A : Nat → Nat → Int) (s i : Nat) (k : Nat) : Int := sumI (fun j => if btP s j = true then A i j else 0) k
theorem Df_sets : ∀ (k : Nat) (A : Nat → Nat → Int) (F : (Nat → Int) → Int) (v : Nat → Int), k ≤ 6 → Df k A F v = sumI (fun s => (-1) ^ (k - cnP s) * F (fun i => v i + rsP A s i k)) (2 ^ k)
  | 0, A, F, v, _ => by
    show F v = 0 + (-1) ^ (0 - cnP 0) * F (fun i => v i + 0)
    rw [show (fun i => v i + 0) = v from funext fun i => Int.add_zero _, show 0 - cnP 0 = 0 from rfl, Int.pow_zero]; omega
  | k + 1, A, F, v, h => by
    have hp : 2 ^ (k + 1) = 2 ^ k + 2 ^ k := by rw [Nat.pow_succ]; omega
    rw [Df_succ, Df_sets k A F _ (by omega), Df_sets k A F v (by omega), hp, sumI_split]
    have h1 : sumI (fun s => (-1 : Int) ^ (k + 1 - cnP s) * F (fun i => v i + rsP A s i (k + 1))) (2 ^ k) = - sumI (fun s => (-1 : Int) ^ (k - cnP s) * F (fun i => v i + rsP A s i k)) (2 ^ k) := by
      rw [← sumI_neg]
      refine sumI_congr fun s hs => ?_
      obtain ⟨_, c2, _, c4, _⟩ := top_bt k (by omega) s hs
      have e : rsP A s = fun i k => rsP A s i k := rfl
      have e2 : (fun i => v i + rsP A s i (k + 1)) = fun i => v i + rsP A s i k := funext fun i => by
        show v i + (rsP A s i k + if btP s k = true then A i k else 0) = _
        rw [c4]; simp
      rw [e2, show k + 1 - cnP s = (k - cnP s) + 1 by omega, Int.pow_succ]
      grind
    have h2 : sumI (fun s => (-1 : Int) ^ (k + 1 - cnP (2 ^ k + s)) * F (fun i => v i + rsP A (2 ^ k + s) i (k + 1))) (2 ^ k) = sumI (fun s => (-1 : Int) ^ (k - cnP s) * F (fun i => v i + A i k + rsP A s i k)) (2 ^ k) := by
      refine sumI_congr fun s hs => ?_
      obtain ⟨c1, c2, c3, c4, c5⟩ := top_bt k (by omega) s hs
      have e2 : (fun i => v i + rsP A (2 ^ k + s) i (k + 1)) = fun i => v i + A i k + rsP A s i k := funext fun i => by
        show v i + (rsP A (2 ^ k + s) i k + if btP (2 ^ k + s) k = true then A i k else 0) = _
        have e3 : rsP A (2 ^ k + s) i k = rsP A s i k := sumI_congr fun j hj => by rw [c5 j hj]
        rw [c3, e3, if_pos rfl]; omega
      rw [e2, c1, show k + 1 - (cnP s + 1) = k - cnP s by omega]
    rw [h1, h2]; omega
/-- what pairs.Ways adds up -/
def wyP (A : Nat → Nat → Int) (n s : Nat) : Int := if (n - cnP s) % 2 = 1 then - prodI (fun i => rsP A s i n) n else prodI (fun i => rsP A s i n) n
theorem ryser (A : Nat → Nat → Int) {n : Nat} (hn : n ≤ 6) : sumI (wyP A n) (2 ^ n) = dt 1 n A := by
  rw [← Df_all n A (fun _ => 0), Df_sets n A _ _ hn]
  refine sumI_congr fun s hs => ?_
  have e : (fun i => (0 : Int) + rsP A s i n) = fun i => rsP A s i n := funext fun i => Int.zero_add _
  rw [e]
  unfold wyP
  have hpow : ∀ k : Nat, (-1 : Int) ^ k = if k % 2 = 1 then -1 else 1 := fun k => by
    induction k with
    | zero => rfl
    | succ k ih =>
      rw [Int.pow_succ, ih]
      by_cases hk : k % 2 = 1
      · rw [if_pos hk, if_neg (by omega)]; rfl
      · rw [if_neg hk, if_pos (by omega)]; rfl
  rw [hpow]
  split <;> omega
end Go.Proofs.Ytenlnkcmabphfaa
