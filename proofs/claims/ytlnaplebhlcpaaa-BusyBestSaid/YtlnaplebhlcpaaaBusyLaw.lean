/- Machines of one state and of two, from an empty tape: how long, and how much they leave. No condition. -/
import Derived.Test.YtlnaplebhlcpaaaTapeLaw
import Derived.WalkKit
namespace Go.Proofs.Ytlnaplebhlcpaaa
set_option linter.unusedVariables false
/-- a configuration as numbers: state, what is left of the head, under it, right of it, and how many are 1 -/
structure Ab where
  st : Nat
  l : Nat
  s : Nat
  r : Nat
  o : Nat
def mvA (H x : Nat) (y : Ab) : Ab :=
  cond (Nat.beq (x / (H + 1) % 2) 1) ⟨x % (H + 1), 2 * y.l + x / (2 * (H + 1)), y.r % 2, y.r / 2, y.o + x / (2 * (H + 1)) - y.s⟩ ⟨x % (H + 1), y.l / 2, y.l % 2, 2 * y.r + x / (2 * (H + 1)), y.o + x / (2 * (H + 1)) - y.s⟩
def allN (p : Nat → Bool) : Nat → Bool
  | 0 => true
  | k + 1 => cond (p k) (allN p k) false
theorem allN_at {p : Nat → Bool} : ∀ {n : Nat}, allN p n = true → ∀ k, k < n → p k = true
  | n + 1, h, k, hk => by
    have h' : cond (p n) (allN p n) false = true := h
    cases e : p n
    · rw [e] at h'; cases h'
    · rw [e] at h'
      by_cases ek : k = n
      · subst ek; exact e
      · exact allN_at h' k (by omega)
def okA (H D O : Nat) (y : Ab) (dn : Nat) : Bool := cond (Nat.beq y.st H) (cond (Nat.ble dn D) (Nat.ble y.o O) false) true
/-- all machines that agree with what is laid down so far (a code of 4(H+1) or more: not laid down) -/
def chk (H D O : Nat) : Nat → (Nat → Nat) → Ab → Nat → Bool
  | 0, _, y, dn => okA H D O y dn
  | f + 1, P, y, dn => cond (Nat.beq y.st H) (cond (Nat.ble dn D) (Nat.ble y.o O) false)
      (cond (Nat.blt (P (2 * y.st + y.s)) (4 * (H + 1))) (chk H D O f P (mvA H (P (2 * y.st + y.s)) y) (dn + 1))
        (allN (fun x => chk H D O f (fun i => cond (Nat.beq i (2 * y.st + y.s)) x (P i)) (mvA H x y) (dn + 1)) (4 * (H + 1))))
theorem chk1 : chk 1 1 1 60 (fun _ => 100) ⟨0, 0, 0, 0, 0⟩ 0 = true := by kernel_rfl
theorem chk2 : chk 2 6 4 60 (fun _ => 100) ⟨0, 0, 0, 0, 0⟩ 0 = true := by kernel_rfl
def stA (H : Nat) (Q : Nat → Nat) (y : Ab) : Ab := mvA H (Q (2 * y.st + y.s)) y
def itA (H : Nat) (Q : Nat → Nat) : Nat → Ab → Ab
  | 0, y => y
  | k + 1, y => itA H Q k (stA H Q y)
theorem ok_of {H D O : Nat} {y : Ab} {dn : Nat} (h : cond (Nat.beq y.st H) (cond (Nat.ble dn D) (Nat.ble y.o O) false) true = true) (hs : y.st = H) : dn ≤ D ∧ y.o ≤ O := by
  have e : Nat.beq y.st H = true := by rw [hs]; exact Nat.beq_refl H
  rw [e] at h
  have h' : cond (Nat.ble dn D) (Nat.ble y.o O) false = true := h
  cases e1 : Nat.ble dn D
  · rw [e1] at h'; cases h'
  · rw [e1] at h'; exact ⟨Nat.le_of_ble_eq_true e1, Nat.le_of_ble_eq_true h'⟩
theorem chk_sound {H D O : Nat} {Q : Nat → Nat} (hQ : ∀ i, Q i < 4 * (H + 1)) : ∀ (f : Nat) (P : Nat → Nat) (y : Ab) (dn : Nat), chk H D O f P y dn = true → (∀ i, P i < 4 * (H + 1) → P i = Q i) →
    ∀ j, j ≤ f → (∀ i, i < j → (itA H Q i y).st ≠ H) → (itA H Q j y).st = H → dn + j ≤ D ∧ (itA H Q j y).o ≤ O := by
  intro f
  induction f with
  | zero =>
    intro P y dn h hP j hj hb hs
    obtain rfl : j = 0 := by omega
    exact ok_of h hs
  | succ f ih =>
    intro P y dn h hP j hj hb hs
    rcases j with _ | j
    · have h' : cond (Nat.beq y.st H) (cond (Nat.ble dn D) (Nat.ble y.o O) false) _ = true := h
      have e : Nat.beq y.st H = true := by have : y.st = H := hs; rw [this]; exact Nat.beq_refl H
      rw [e] at h'
      exact ok_of (y := y) (dn := dn) (by rw [e]; exact h') hs
    · have hne : y.st ≠ H := hb 0 (by omega)
      have e : Nat.beq y.st H = false := by
        cases e : Nat.beq y.st H
        · rfl
        · exact absurd (Nat.eq_of_beq_eq_true e) hne
      have h' : cond (Nat.beq y.st H) _ (cond (Nat.blt (P (2 * y.st + y.s)) (4 * (H + 1))) (chk H D O f P (mvA H (P (2 * y.st + y.s)) y) (dn + 1))
        (allN (fun x => chk H D O f (fun i => cond (Nat.beq i (2 * y.st + y.s)) x (P i)) (mvA H x y) (dn + 1)) (4 * (H + 1)))) = true := h
      rw [e] at h'
      have hb' : ∀ i, i < j → (itA H Q i (stA H Q y)).st ≠ H := fun i hi => hb (i + 1) (by omega)
      have hs' : (itA H Q j (stA H Q y)).st = H := hs
      have fin : chk H D O f P (stA H Q y) (dn + 1) = true ∨ chk H D O f (fun i => cond (Nat.beq i (2 * y.st + y.s)) (Q (2 * y.st + y.s)) (P i)) (stA H Q y) (dn + 1) = true := by
        cases e2 : Nat.blt (P (2 * y.st + y.s)) (4 * (H + 1))
        · rw [e2] at h'
          exact .inr (allN_at h' _ (hQ _))
        · rw [e2] at h'
          have hl : P (2 * y.st + y.s) < 4 * (H + 1) := Nat.le_of_ble_eq_true e2
          left
          unfold stA
          rw [← hP _ hl]
          exact h'
      have := fin.elim (fun h1 => ih P _ _ h1 hP j (by omega) hb' hs') (fun h1 => ih _ _ _ h1 (fun i hi => by
        by_cases ei : i = 2 * y.st + y.s
        · subst ei
          show cond (Nat.beq _ _) _ _ = _
          rw [show Nat.beq (2 * y.st + y.s) (2 * y.st + y.s) = true from Nat.beq_refl _]; rfl
        · have eb : Nat.beq i (2 * y.st + y.s) = false := by
            cases e : Nat.beq i (2 * y.st + y.s)
            · rfl
            · exact absurd (Nat.eq_of_beq_eq_true e) ei
          have hi' : cond (Nat.beq i (2 * y.st + y.s)) (Q (2 * y.st + y.s)) (P i) < 4 * (H + 1) := hi
          show cond (Nat.beq i (2 * y.st + y.s)) (Q (2 * y.st + y.s)) (P i) = _
          rw [eb] at hi' ⊢
          exact hP i hi') j (by omega) hb' hs')
      exact ⟨by omega, this.2⟩
theorem itA_snoc (H : Nat) (Q : Nat → Nat) (k : Nat) (y : Ab) : itA H Q (k + 1) y = stA H Q (itA H Q k y) := by
  induction k generalizing y with
  | zero => rfl
  | succ k ih => show itA H Q (k + 1) (stA H Q y) = _; rw [ih]; rfl
/-- the sum of f from -61 to 61 -/
def smF (f : Int → Int) (a : Int) : Nat → Int
  | 0 => 0
  | k + 1 => smF f a k + f (a + k)
theorem smF_congr {f g : Int → Int} {a : Int} {k : Nat} (h : ∀ i : Nat, i < k → f (a + i) = g (a + i)) : smF f a k = smF g a k := by
  induction k with
  | zero => rfl
  | succ k ih => show smF f a k + _ = smF g a k + _; rw [ih fun i hi => h i (by omega), h k (by omega)]
theorem smF_set {f : Int → Int} {a x v : Int} {k : Nat} (h : a ≤ x ∧ x < a + k) : smF (fun y => if y = x then v else f y) a k = smF f a k + (v - f x) := by
  induction k with
  | zero => omega
  | succ k ih =>
    show smF _ a k + (if a + (k : Int) = x then v else f (a + k)) = smF f a k + f (a + k) + (v - f x)
    by_cases e : a + (k : Int) = x
    · rw [if_pos e, smF_congr (g := f) (fun i hi => if_neg (by omega)), e]; omega
    · rw [if_neg e, ih (by omega)]; omega
theorem smF_nn {f : Int → Int} (h : ∀ z, 0 ≤ f z) (a : Int) (k : Nat) : 0 ≤ smF f a k := by
  induction k with
  | zero => exact Int.le_refl _
  | succ k ih => show 0 ≤ smF f a k + f (a + k); have := h (a + k); omega
theorem smF_ge {f : Int → Int} (h : ∀ z, 0 ≤ f z) {a x : Int} {k : Nat} (hx : a ≤ x ∧ x < a + k) : f x ≤ smF f a k := by
  induction k with
  | zero => omega
  | succ k ih =>
    show f x ≤ smF f a k + f (a + k)
    by_cases e : x = a + (k : Int)
    · have := smF_nn h a k; rw [← e]; omega
    · have := ih (by omega); have := h (a + k); omega
/-- a configuration and its numbers -/
structure ReA (n : Nat) (c : Cf) (y : Ab) : Prop where
  st : c.s = y.st
  s : c.f c.h = y.s
  r : ∀ i : Nat, c.f (c.h + 1 + i) = ((y.r / 2 ^ i % 2 : Nat) : Int)
  l : ∀ i : Nat, c.f (c.h - 1 - i) = ((y.l / 2 ^ i % 2 : Nat) : Int)
  o : smF c.f (-61) 123 = y.o
  oge : y.s ≤ y.o
/-- a table of rules of two signs -/
def TbA (n : Nat) (T : Nat → Nat → Int) : Prop := ∀ q, q < n → ∀ j, j < 2 → (0 ≤ T q (3 * j) ∧ T q (3 * j) ≤ 1) ∧ (T q (3 * j + 1) = -1 ∨ T q (3 * j + 1) = 1) ∧ (0 ≤ T q (3 * j + 2) ∧ T q (3 * j + 2) ≤ n)
def cdA (n : Nat) (T : Nat → Nat → Int) (i : Nat) : Nat :=
  if i < 2 * n then ((2 * T (i / 2) (3 * (i % 2)) + (T (i / 2) (3 * (i % 2) + 1) + 1) / 2) * (n + 1) + T (i / 2) (3 * (i % 2) + 2)).toNat else 0
theorem pow_half (a i : Nat) : a / 2 / 2 ^ i = a / 2 ^ (i + 1) := by rw [Nat.div_div_eq_div_mul, Nat.pow_succ, Nat.mul_comm]
theorem two_mul_bit (a w i : Nat) (hw : w < 2) : (2 * a + w) / 2 ^ (i + 1) = a / 2 ^ i := by rw [← pow_half]; congr 1; omega
theorem cdA_eq {n : Nat} {T : Nat → Nat → Int} (hT : TbA n T) {q j : Nat} (hq : q < n) (hj : j < 2) :
    ∃ (w m nx : Nat), T q (3 * j) = w ∧ w < 2 ∧ m < 2 ∧ nx ≤ n ∧ T q (3 * j + 1) = 2 * (m : Int) - 1 ∧ T q (3 * j + 2) = nx ∧ cdA n T (2 * q + j) = (2 * w + m) * (n + 1) + nx := by
  obtain ⟨⟨a0, a1⟩, a2, a3, a4⟩ := hT q hq j hj
  obtain ⟨w, hw⟩ := Int.eq_ofNat_of_zero_le a0
  obtain ⟨nx, hx⟩ := Int.eq_ofNat_of_zero_le a3
  have e : cdA n T (2 * q + j) = ((2 * T q (3 * j) + (T q (3 * j + 1) + 1) / 2) * (n + 1) + T q (3 * j + 2)).toNat := by
    unfold cdA
    rw [if_pos (by omega), show (2 * q + j) / 2 = q by omega, show (2 * q + j) % 2 = j by omega]
  rcases a2 with h | h
  · refine ⟨w, 0, nx, hw, by omega, by omega, by omega, by omega, hx, ?_⟩
    rw [e, hw, h, hx]
    have : (2 * (w : Int) + (-1 + 1) / 2) * ((n : Int) + 1) + nx = (((2 * w + 0) * (n + 1) + nx : Nat) : Int) := by push_cast; rfl
    rw [this, Int.toNat_natCast]
  · refine ⟨w, 1, nx, hw, by omega, by omega, by omega, by omega, hx, ?_⟩
    rw [e, hw, h, hx]
    have : (2 * (w : Int) + (1 + 1) / 2) * ((n : Int) + 1) + nx = (((2 * w + 1) * (n + 1) + nx : Nat) : Int) := by push_cast; rfl
    rw [this, Int.toNat_natCast]
theorem cd_parts {n w m nx : Nat} (hm : m < 2) (hx : nx ≤ n) : ((2 * w + m) * (n + 1) + nx) % (n + 1) = nx ∧ ((2 * w + m) * (n + 1) + nx) / (n + 1) % 2 = m ∧ ((2 * w + m) * (n + 1) + nx) / (2 * (n + 1)) = w := by
  have h1 : ((2 * w + m) * (n + 1) + nx) / (n + 1) = 2 * w + m := by
    rw [Nat.add_comm, Nat.add_mul_div_right _ _ (by omega), Nat.div_eq_of_lt (by omega), Nat.zero_add]
  refine ⟨?_, ?_, ?_⟩
  · rw [Nat.add_comm, Nat.add_mul_mod_self_right, Nat.mod_eq_of_lt (by omega)]
  · rw [h1]; omega
  · rw [show 2 * (n + 1) = (n + 1) * 2 by omega, ← Nat.div_div_eq_div_mul, h1]; omega
theorem cdA_lt {n : Nat} {T : Nat → Nat → Int} (hT : TbA n T) (i : Nat) : cdA n T i < 4 * (n + 1) := by
  by_cases h : i < 2 * n
  · obtain ⟨w, m, nx, _, hw, hm, hx, _, _, e⟩ := cdA_eq hT (q := i / 2) (j := i % 2) (by omega) (by omega)
    rw [show 2 * (i / 2) + i % 2 = i by omega] at e
    rw [e]
    have : (2 * w + m) * (n + 1) ≤ 3 * (n + 1) := Nat.mul_le_mul_right _ (by omega)
    omega
  · unfold cdA; rw [if_neg h]; omega
theorem ReA.step {n : Nat} {T : Nat → Nat → Int} {c : Cf} {y : Ab} (hT : TbA n T) (h : ReA n c y) (hs : c.s < n) (hb : -60 ≤ c.h ∧ c.h ≤ 60) (h01 : y.s < 2) :
    ReA n (stp T c) (stA n (cdA n T) y) ∧ (stA n (cdA n T) y).s < 2 := by
  obtain ⟨w, m, nx, e0, hw, hm, hx, e1, e2, e⟩ := cdA_eq hT (q := c.s) (j := y.s) hs h01
  obtain ⟨p0, p1, p2⟩ := cd_parts (n := n) (w := w) hm hx
  have hfh : (c.f c.h).toNat = y.s := by rw [h.s, Int.toNat_natCast]
  have r0 : ruW T c = w := by unfold ruW; rw [hfh, e0]
  have r1 : ruM T c = 2 * (m : Int) - 1 := by unfold ruM; rw [hfh, e1]
  have r2 : ruN T c = nx := by unfold ruN; rw [hfh, e2]
  have hst : stp T c = ⟨fun z => if z = c.h then (w : Int) else c.f z, nx, c.h + (2 * (m : Int) - 1)⟩ := by
    unfold stp; rw [r0, r1, r2, Int.toNat_natCast]
  have hcd : cdA n T (2 * y.st + y.s) = (2 * w + m) * (n + 1) + nx := by rw [← h.st]; exact e
  have hsum : smF (fun z => if z = c.h then (w : Int) else c.f z) (-61) 123 = ((y.o + w - y.s : Nat) : Int) := by
    rw [smF_set (by omega), h.o, h.s]
    have := h.oge
    omega
  rw [hst]
  unfold stA mvA
  rw [hcd, p0, p1, p2]
  have hm' : m = 1 ∨ m = 0 := by omega
  rcases hm' with rfl | rfl
  · have hc : ∀ (a b : Ab), cond (Nat.beq 1 1) a b = a := fun _ _ => rfl
    rw [hc]
    have rr := h.r 0
    rw [Nat.pow_zero, Nat.div_one] at rr
    refine ⟨⟨rfl, ?_, fun i => ?_, fun i => ?_, hsum, ?_⟩, Nat.mod_lt _ (by omega)⟩
    · show (if c.h + (2 * ((1 : Nat) : Int) - 1) = c.h then (w : Int) else c.f (c.h + (2 * ((1 : Nat) : Int) - 1))) = ((y.r % 2 : Nat) : Int)
      rw [if_neg (by omega), ← rr]; exact congrArg c.f (by omega)
    · show (if c.h + (2 * ((1 : Nat) : Int) - 1) + 1 + i = c.h then (w : Int) else c.f (c.h + (2 * ((1 : Nat) : Int) - 1) + 1 + i)) = ((y.r / 2 / 2 ^ i % 2 : Nat) : Int)
      rw [if_neg (by omega), pow_half, ← h.r (i + 1)]; exact congrArg c.f (by omega)
    · show (if c.h + (2 * ((1 : Nat) : Int) - 1) - 1 - i = c.h then (w : Int) else c.f (c.h + (2 * ((1 : Nat) : Int) - 1) - 1 - i)) = (((2 * y.l + w) / 2 ^ i % 2 : Nat) : Int)
      rcases i with _ | i
      · rw [if_pos (by omega), Nat.pow_zero, Nat.div_one]; omega
      · rw [if_neg (by omega), two_mul_bit _ _ _ hw, ← h.l i]; exact congrArg c.f (by omega)
    · show y.r % 2 ≤ y.o + w - y.s
      have hge := hsum
      have hpos : (y.r % 2 : Nat) ≤ smF (fun z => if z = c.h then (w : Int) else c.f z) (-61) 123 := by
        have hnn : ∀ z, 0 ≤ (if z = c.h then (w : Int) else c.f z) := fun z => by
          by_cases ez : z = c.h
          · rw [if_pos ez]; omega
          · rw [if_neg ez]
            by_cases hz : c.h < z
            · have := h.r (z - c.h - 1).toNat
              rw [show c.h + 1 + ((z - c.h - 1).toNat : Int) = z by omega] at this
              rw [this]; omega
            · have := h.l (c.h - 1 - z).toNat
              rw [show c.h - 1 - ((c.h - 1 - z).toNat : Int) = z by omega] at this
              rw [this]; omega
        have := smF_ge hnn (a := -61) (k := 123) (x := c.h + 1) (by omega)
        rw [if_neg (by omega)] at this
        have rr' : c.f (c.h + 1) = ((y.r % 2 : Nat) : Int) := by rw [← rr]; exact congrArg c.f (by omega)
        rw [rr'] at this
        exact this
      omega
  · have hc : ∀ (a b : Ab), cond (Nat.beq 0 1) a b = b := fun _ _ => rfl
    rw [hc]
    have rr := h.l 0
    rw [Nat.pow_zero, Nat.div_one] at rr
    refine ⟨⟨rfl, ?_, fun i => ?_, fun i => ?_, hsum, ?_⟩, Nat.mod_lt _ (by omega)⟩
    · show (if c.h + (2 * ((0 : Nat) : Int) - 1) = c.h then (w : Int) else c.f (c.h + (2 * ((0 : Nat) : Int) - 1))) = ((y.l % 2 : Nat) : Int)
      rw [if_neg (by omega), ← rr]; exact congrArg c.f (by omega)
    · show (if c.h + (2 * ((0 : Nat) : Int) - 1) + 1 + i = c.h then (w : Int) else c.f (c.h + (2 * ((0 : Nat) : Int) - 1) + 1 + i)) = (((2 * y.r + w) / 2 ^ i % 2 : Nat) : Int)
      rcases i with _ | i
      · rw [if_pos (by omega), Nat.pow_zero, Nat.div_one]; omega
      · rw [if_neg (by omega), two_mul_bit _ _ _ hw, ← h.r i]; exact congrArg c.f (by omega)
    · show (if c.h + (2 * ((0 : Nat) : Int) - 1) - 1 - i = c.h then (w : Int) else c.f (c.h + (2 * ((0 : Nat) : Int) - 1) - 1 - i)) = ((y.l / 2 / 2 ^ i % 2 : Nat) : Int)
      rw [if_neg (by omega), pow_half, ← h.l (i + 1)]; exact congrArg c.f (by omega)
    · show y.l % 2 ≤ y.o + w - y.s
      have hpos : (y.l % 2 : Nat) ≤ smF (fun z => if z = c.h then (w : Int) else c.f z) (-61) 123 := by
        have hnn : ∀ z, 0 ≤ (if z = c.h then (w : Int) else c.f z) := fun z => by
          by_cases ez : z = c.h
          · rw [if_pos ez]; omega
          · rw [if_neg ez]
            by_cases hz : c.h < z
            · have := h.r (z - c.h - 1).toNat
              rw [show c.h + 1 + ((z - c.h - 1).toNat : Int) = z by omega] at this
              rw [this]; omega
            · have := h.l (c.h - 1 - z).toNat
              rw [show c.h - 1 - ((c.h - 1 - z).toNat : Int) = z by omega] at this
              rw [this]; omega
        have := smF_ge hnn (a := -61) (k := 123) (x := c.h - 1) (by omega)
        rw [if_neg (by omega)] at this
        have rr' : c.f (c.h - 1) = ((y.l % 2 : Nat) : Int) := by rw [← rr]; exact congrArg c.f (by omega)
        rw [rr'] at this
        exact this
      omega
end Go.Proofs.Ytlnaplebhlcpaaa
