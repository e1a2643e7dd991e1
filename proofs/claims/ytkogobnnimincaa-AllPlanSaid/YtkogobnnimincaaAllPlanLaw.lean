/- The law of AllPlan: what a plan says. No condition. -/
import Derived.Test.YtkogobnnimincaaAllFns
namespace Go.Proofs.Ytkogobnnimincaa
open Go.ChangeShapes Go.WideShapes Go.ChangeAt Go.RowKit
set_option linter.unusedVariables false
def offK (K : Nat → Bool) : Nat → Nat
  | 0 => 0
  | v + 1 => offK K v + if K v then 2 ^ v else 0
def cntF (K : Nat → Bool) : Nat → Nat
  | 0 => 0
  | v + 1 => cntF K v + if K v then 0 else 1
theorem offK_lt (K : Nat → Bool) (v : Nat) : offK K v < 2 ^ v := by
  induction v with
  | zero => show 0 < 2 ^ 0; decide
  | succ v ih =>
    show offK K v + _ < 2 ^ (v + 1)
    rw [Nat.pow_succ]
    split <;> omega
theorem offK_mono (K : Nat → Bool) {a b : Nat} (h : a ≤ b) : offK K a ≤ offK K b := by
  induction b with
  | zero =>
      obtain rfl : a = 0 := by omega
      exact Nat.le_refl _
  | succ b ih =>
    by_cases e : a = b + 1
    · subst e; exact Nat.le_refl _
    · have := ih (by omega)
      show _ ≤ offK K b + _
      omega
theorem cntF_mono (K : Nat → Bool) {a b : Nat} (h : a ≤ b) : cntF K a ≤ cntF K b := by
  induction b with
  | zero =>
      obtain rfl : a = 0 := by omega
      exact Nat.le_refl _
  | succ b ih =>
    by_cases e : a = b + 1
    · subst e; exact Nat.le_refl _
    · have := ih (by omega)
      show _ ≤ cntF K b + _
      omega
theorem cntF_le (K : Nat → Bool) (v : Nat) : cntF K v ≤ v := by
  induction v with
  | zero => exact Nat.le_refl _
  | succ v ih =>
    show cntF K v + _ ≤ _
    split <;> omega
theorem offK_yes {K : Nat → Bool} {v : Nat} (h : K v = true) : offK K (v + 1) = offK K v + 2 ^ v := by show offK K v + (if K v then 2 ^ v else 0) = _; rw [if_pos h]
theorem offK_no {K : Nat → Bool} {v : Nat} (h : K v = false) : offK K (v + 1) = offK K v := by show offK K v + (if K v then 2 ^ v else 0) = _; rw [if_neg (by rw [h]; decide)]; rfl
theorem cntF_yes {K : Nat → Bool} {v : Nat} (h : K v = true) : cntF K (v + 1) = cntF K v := by show cntF K v + (if K v then 0 else 1) = _; rw [if_pos h]; rfl
theorem cntF_no {K : Nat → Bool} {v : Nat} (h : K v = false) : cntF K (v + 1) = cntF K v + 1 := by show cntF K v + (if K v then 0 else 1) = _; rw [if_neg (by rw [h]; decide)]
theorem win_dep {m : Nat} {K : Nat → Bool} {p : (Nat → Bool) → Bool} (hp : ∀ g h : Nat → Bool, (∀ i, i < m → g i = h i) → p g = p h) : ∀ r (g h : Nat → Bool), r ≤ m → (∀ i, i < m - r → g i = h i) → winS K m p r g = winS K m p r h := by
  intro r
  induction r with
  | zero => exact fun g h _ e => hp g h e
  | succ r ih =>
    intro g h hr e
    have step : ∀ b, winS K m p r (setB g (m - (r + 1)) b) = winS K m p r (setB h (m - (r + 1)) b) := fun b => ih _ _ (by omega) fun i hi => by
      unfold setB
      by_cases e2 : i = m - (r + 1)
      · rw [if_pos e2, if_pos e2]
      · rw [if_neg e2, if_neg e2]; exact e i (by omega)
    show (if _ then _ else _) = (if _ then _ else _)
    rw [step false, step true]
/-- C is a plan: for each variable that SOME chooses, and all values before it -/
def PlanOk (K : Nat → Bool) (m : Nat) (p : (Nat → Bool) → Bool) (v : Nat) (C : Nat → Bool) : Prop :=
  ∀ u, u < v → K u = true → ∀ s, s < 2 ^ u → C (offK K u + s) = winS K m p (m - u - 1) (setB (bitN s) u true)
theorem play_step {m v s : Nat} {K : Nat → Bool} {p : (Nat → Bool) → Bool} (hp : ∀ g h : Nat → Bool, (∀ i, i < m → g i = h i) → p g = p h) {C h : Nat → Bool} (hv : v < m) (hC : PlanOk K m p m C)
    (hs : s < 2 ^ v) (hb : ∀ i, i < v → bitN s i = h i) (hw : winS K m p (m - v) h = true) (x : Bool) (hx : K v = true → x = C (offK K v + s)) : winS K m p (m - (v + 1)) (setB h v x) = true := by
  have e : m - v = (m - (v + 1)) + 1 := by omega
  rw [e] at hw
  have e2 : m - (m - (v + 1) + 1) = v := by omega
  have hw2 : (if K v then winS K m p (m - (v + 1)) (setB h v false) || winS K m p (m - (v + 1)) (setB h v true) else winS K m p (m - (v + 1)) (setB h v false) && winS K m p (m - (v + 1)) (setB h v true)) = true := by
    have : winS K m p (m - (v + 1) + 1) h = if K (m - (m - (v + 1) + 1)) then winS K m p (m - (v + 1)) (setB h (m - (m - (v + 1) + 1)) false) || winS K m p (m - (v + 1)) (setB h (m - (m - (v + 1) + 1)) true) else winS K m p (m - (v + 1)) (setB h (m - (m - (v + 1) + 1)) false) && winS K m p (m - (v + 1)) (setB h (m - (m - (v + 1) + 1)) true) := rfl
    rw [this, e2] at hw
    exact hw
  cases hk : K v with
  | false =>
    rw [hk] at hw2
    simp at hw2
    cases x
    · exact hw2.1
    · exact hw2.2
  | true =>
    rw [hk] at hw2
    simp at hw2
    have hc := hC v hv hk s hs
    rw [← hx hk] at hc
    have hd : winS K m p (m - v - 1) (setB (bitN s) v true) = winS K m p (m - (v + 1)) (setB h v true) := by
      rw [show m - v - 1 = m - (v + 1) by omega]
      exact win_dep hp _ _ _ (by omega) fun i hi => by
        unfold setB
        by_cases e3 : i = v
        · rw [if_pos e3, if_pos e3]
        · rw [if_neg e3, if_neg e3]; exact hb i (by omega)
    rw [hd] at hc
    cases x
    · rcases hw2 with h | h
      · exact h
      · rw [h] at hc; cases hc
    · exact hc.symm
theorem bit_more {s v : Nat} {h : Nat → Bool} (hs : s < 2 ^ v) (hb : ∀ i, i < v → bitN s i = h i) (x : Bool) : (s + x.toNat * 2 ^ v < 2 ^ (v + 1)) ∧ ∀ i, i < v + 1 → bitN (s + x.toNat * 2 ^ v) i = setB h v x i := by
  refine ⟨by rw [Nat.pow_succ]; cases x <;> simp <;> omega, fun i hi => ?_⟩
  by_cases e : i = v
  · subst e
    rw [setB_eq]
    unfold bitN
    rw [Nat.add_mul_div_right _ _ (Nat.pow_pos (by omega)), Nat.div_eq_of_lt hs]
    cases x <;> decide
  · rw [setB_lt (by omega), ← hb i (by omega)]
    unfold bitN
    have : s + x.toNat * 2 ^ v = s + (x.toNat * 2 ^ (v - i - 1) * 2) * 2 ^ i := by
      rw [Nat.mul_assoc, Nat.mul_assoc, show 2 * 2 ^ i = 2 ^ (i + 1) by rw [Nat.pow_succ]; omega, ← Nat.pow_add, show v - i - 1 + (i + 1) = v by omega]
    rw [this, Nat.add_mul_div_right _ _ (Nat.pow_pos (by omega)), Nat.add_mul_mod_self_right]
end Go.Proofs.Ytkogobnnimincaa
