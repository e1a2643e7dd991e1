/- Of all lists of checks an eighth leave just one set. Conditions: the sets are words of n bits, no two are the same, none is empty; their number is in bounds. -/
import Derived.Test.YtmnleblbandghaaSums
import Derived.Test.YtmnleblbandghaaLoneHas
import Derived.Test.YtmnleblbandghaaLucky
namespace Go.Proofs.Ytmnleblbandghaa
set_option linter.unusedVariables false
def g1 (x c : Nat) : Nat := if notP x c then 0 else 1
theorem halfN_sum (x : Nat) : ∀ c, halfN x c = sumN (g1 x) c
  | 0 => rfl
  | c + 1 => by show halfN x c + _ = sumN (g1 x) c + g1 x c; rw [halfN_sum x c]; rfl
theorem okS_pr (S : Nat → Nat) (b d s : Nat) : ∀ K, (if okS S (dg b d) K s then 1 else 0) = pr (g1 (S s)) b d K
  | 0 => by
    have : okS S (dg b d) 0 s = true := by unfold okS; rw [anyB_no (fun i hi => absurd hi (Nat.not_lt_zero _))]; rfl
    rw [this]; rfl
  | K + 1 => by
    have h : okS S (dg b d) (K + 1) s = (okS S (dg b d) K s && !notP (S s) (dg b d K)) := by
      unfold okS
      rw [anyB_cat, Bool.not_or]
      congr 2
      cases hp : notP (S s) (dg b d K)
      · refine anyB_no fun i hi => ?_
        obtain rfl : i = 0 := by omega
        exact hp
      · exact anyB_yes (k := 0) (by omega) hp
    show _ = pr (g1 (S s)) b d K * g1 (S s) (dg b d K)
    rw [← okS_pr S b d s K, h]
    unfold g1
    cases okS S (dg b d) K s <;> cases notP (S s) (dg b d K) <;> rfl
theorem cntO_sum (ok : Nat → Bool) : ∀ k, cntO ok k = sumN (fun i => if ok i then 1 else 0) k
  | 0 => rfl
  | k + 1 => by show cntO ok k + _ = sumN _ k + _; rw [cntO_sum ok k]
def quad (x y : Nat) (c : Nat) : Nat := sumN (fun c => g1 x c * g1 y c) c
def quadOk (n x y : Nat) : Bool := x == 0 || y == 0 || x == y || 4 * quad x y (2 ^ n) == 2 ^ n
theorem quad_all : (List.range 6).all (fun n => (List.range (2 ^ n)).all fun x => (List.range (2 ^ n)).all fun y => quadOk n x y) = true := by decide +kernel
theorem quad_of {n x y : Nat} (hn : n ≤ 5) (hx : x < 2 ^ n) (hy : y < 2 ^ n) (x0 : x ≠ 0) (y0 : y ≠ 0) (hne : x ≠ y) : 4 * quad x y (2 ^ n) = 2 ^ n := by
  have h1 := List.all_eq_true.1 quad_all n (List.mem_range.2 (by omega))
  have h2 := List.all_eq_true.1 h1 x (List.mem_range.2 hx)
  have h3 := List.all_eq_true.1 h2 y (List.mem_range.2 hy)
  unfold quadOk at h3
  simp only [Bool.or_eq_true, beq_iff_eq] at h3
  rcases h3 with ((h | h) | h) | h
  · exact absurd h x0
  · exact absurd h y0
  · exact absurd h hne
  · exact h
theorem two_sq (x : Nat) : 2 * x ≤ (if x == 1 then 1 else 0) + x * x := by
  rcases Nat.lt_or_ge x 2 with h | h
  · have : x = 0 ∨ x = 1 := by omega
    rcases this with rfl | rfl <;> decide
  · have := Nat.mul_le_mul_right x h
    split <;> omega
theorem pow_of_mul {c h b K : Nat} (e : c * h = b) : c ^ K * h ^ K = b ^ K := by rw [← Nat.mul_pow, e]
theorem lucky_sum {S : Nat → Nat} {n K m : Nat} (hn : n ≤ 5) (hS : ∀ i, i < m → S i < 2 ^ n ∧ S i ≠ 0) (hd : ∀ i j, i < m → j < m → i ≠ j → S i ≠ S j) :
    2 * (2 ^ K * (m * (2 ^ n) ^ K)) ≤ 4 ^ K * cntO (isol S (2 ^ n) K m) ((2 ^ n) ^ K) + m * (m * (2 ^ n) ^ K + 2 ^ K * (2 ^ n) ^ K) := by
  have hb : 1 ≤ 2 ^ n := Nat.pow_pos (by omega)
  obtain ⟨b, hbe⟩ : ∃ b, b = 2 ^ n := ⟨_, rfl⟩
  have hx : ∀ d, cntO (okS S (dg b d) K) m = sumN (fun s => pr (g1 (S s)) b d K) m := fun d => by
    rw [cntO_sum]; exact sumN_congr fun s _ => okS_pr S b d s K
  rw [← hbe]
  rw [← hbe] at hb
  -- the two sums
  have e1 : 2 ^ K * sumN (fun d => cntO (okS S (dg b d) K) m) (b ^ K) = m * b ^ K := by
    rw [sumN_congr (fun d _ => hx d), sumN_comm, ← sumN_mul, ← sumN_const]
    refine sumN_congr fun s hs => ?_
    rw [sum_pr _ hb, ← halfN_sum]
    exact pow_of_mul (by rw [hbe]; exact (half_of hn (hS s hs).1).2 (hS s hs).2)
  have e2 : 4 ^ K * sumN (fun d => cntO (okS S (dg b d) K) m * cntO (okS S (dg b d) K) m) (b ^ K) ≤ m * (m * b ^ K + 2 ^ K * b ^ K) := by
    have e3 : ∀ d, cntO (okS S (dg b d) K) m * cntO (okS S (dg b d) K) m = sumN (fun s => sumN (fun t => pr (fun c => g1 (S s) c * g1 (S t) c) b d K) m) m := fun d => by
      rw [hx, ← sumN_mulr]
      refine sumN_congr fun s _ => ?_
      rw [← sumN_mul]
      exact sumN_congr fun t _ => pr_mul _ _ _ _ _
    rw [sumN_congr (fun d _ => e3 d), sumN_comm, ← sumN_mul, ← sumN_const]
    refine sumN_le fun s hs => ?_
    rw [sumN_comm, ← sumN_mul]
    have hb2 : ∀ t, t < m → 4 ^ K * sumN (fun d => pr (fun c => g1 (S s) c * g1 (S t) c) b d K) (b ^ K) ≤ b ^ K + if t = s then 2 ^ K * b ^ K else 0 := fun t ht => by
      rw [sum_pr _ hb]
      by_cases e : t = s
      · subst e
        rw [if_pos rfl]
        have hgg : sumN (fun c => g1 (S t) c * g1 (S t) c) b = halfN (S t) b := by
          rw [halfN_sum]; exact sumN_congr fun c _ => by unfold g1; split <;> rfl
        rw [hgg, show 4 = 2 * 2 from rfl, Nat.mul_pow, Nat.mul_assoc, pow_of_mul (show 2 * halfN (S t) b = b by rw [hbe]; exact (half_of hn (hS t ht).1).2 (hS t ht).2)]
        omega
      · rw [if_neg e, pow_of_mul (show 4 * sumN (fun c => g1 (S s) c * g1 (S t) c) b = b by
          rw [hbe]; exact quad_of hn (hS s hs).1 (hS t ht).1 (hS s hs).2 (hS t ht).2 (hd s t hs ht (fun h => e h.symm)))]
        omega
    refine Nat.le_trans (sumN_le hb2) ?_
    rw [sumN_add, sumN_const, sumN_one, if_pos hs]
    exact Nat.le_refl _
  have e4 : 2 * sumN (fun d => cntO (okS S (dg b d) K) m) (b ^ K) ≤ cntO (isol S b K m) (b ^ K) + sumN (fun d => cntO (okS S (dg b d) K) m * cntO (okS S (dg b d) K) m) (b ^ K) := by
    rw [← sumN_mul, cntO_sum, ← sumN_add]
    exact sumN_le fun d _ => two_sq _
  have e5 := Nat.mul_le_mul_left (4 ^ K) e4
  rw [Nat.mul_add] at e5
  have e6 : 4 ^ K * (2 * sumN (fun d => cntO (okS S (dg b d) K) m) (b ^ K)) = 2 * (2 ^ K * (m * b ^ K)) := by
    rw [show 4 = 2 * 2 from rfl, Nat.mul_pow, ← e1]
    simp only [Nat.mul_assoc, Nat.mul_left_comm]
  omega
theorem lucky_law {S : Nat → Nat} {n K m : Nat} (hn : n ≤ 5) (hS : ∀ i, i < m → S i < 2 ^ n ∧ S i ≠ 0) (hd : ∀ i j, i < m → j < m → i ≠ j → S i ≠ S j) (hK : 2 ≤ K) (h1 : 2 ^ (K - 2) ≤ m) (h2 : m ≤ 2 ^ (K - 1)) :
    (2 ^ n) ^ K ≤ 8 * cntO (isol S (2 ^ n) K m) ((2 ^ n) ^ K) := by
  have h := lucky_sum (K := K) hn hS hd
  obtain ⟨T, hT⟩ : ∃ T, T = 2 ^ (K - 2) := ⟨_, rfl⟩
  have hTp : 1 ≤ T := by rw [hT]; exact Nat.pow_pos (by omega)
  have t2 : 2 ^ (K - 1) = 2 * T := by rw [hT, ← Nat.pow_succ', show K - 1 = (K - 2).succ by omega]
  have t4 : 2 ^ K = 4 * T := by rw [show K = (K - 1) + 1 by omega, Nat.pow_succ, t2]; omega
  have t16 : 4 ^ K = 16 * (T * T) := by
    rw [show 4 = 2 * 2 from rfl, Nat.mul_pow, t4, Nat.mul_mul_mul_comm]
  rw [← hT] at h1
  rw [t2] at h2
  rw [t4, t16] at h
  obtain ⟨N, hN⟩ : ∃ N, N = (2 ^ n) ^ K := ⟨_, rfl⟩
  obtain ⟨one, ho⟩ : ∃ o, o = cntO (isol S (2 ^ n) K m) ((2 ^ n) ^ K) := ⟨_, rfl⟩
  rw [← ho, ← hN] at h
  rw [← ho, ← hN]
  -- m = T + u, u ≤ T
  obtain ⟨u, rfl⟩ : ∃ u, m = T + u := ⟨m - T, by omega⟩
  have hu : u ≤ T := by omega
  have key : 3 * (T * T) * N ≤ 16 * (T * T) * one := by
    have q1 : 2 * (4 * T * ((T + u) * N)) = 8 * (T * T * N) + 8 * (T * u * N) := by
      grind
    have q2 : (T + u) * ((T + u) * N + 4 * T * N) = 5 * (T * T * N) + 6 * (T * u * N) + u * u * N := by
      grind
    rw [q1, q2] at h
    have q3 : u * u * N ≤ T * u * N := Nat.mul_le_mul_right _ (Nat.mul_le_mul_right _ hu)
    rw [Nat.mul_assoc 3]
    omega
  have key2 : (T * T) * (3 * N) ≤ (T * T) * (16 * one) := by
    have a1 : (T * T) * (3 * N) = 3 * (T * T) * N := by simp only [Nat.mul_assoc, Nat.mul_comm, Nat.mul_left_comm]
    have a2 : (T * T) * (16 * one) = 16 * (T * T) * one := by simp only [Nat.mul_assoc, Nat.mul_comm, Nat.mul_left_comm]
    rw [a1, a2]; exact key
  have := Nat.le_of_mul_le_mul_left key2 (Nat.mul_pos hTp hTp)
  omega
end Go.Proofs.Ytmnleblbandghaa
