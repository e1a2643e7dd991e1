/- A machine with counters, as plain functions: one turn, so many turns, what stays so. No condition. -/
import Derived.Test.YtmdcfbofjlpbmaaCountFns
namespace Go.Proofs.Ytmdcfbofjlpbmaa
set_option linter.unusedVariables false
def upd (C : Nat → Int) (a : Nat) (v : Int) : Nat → Int := fun i => if i = a then v else C i
/-- the counters behind one order -/
def tC (x0 x1 : Int) (C : Nat → Int) : Nat → Int := if x0 = 1 then upd C x1.toNat (C x1.toNat + 1) else if C x1.toNat = 0 then C else upd C x1.toNat (C x1.toNat - 1)
/-- the order that comes next -/
def tN (x0 x1 x2 x3 : Int) (C : Nat → Int) : Int := if x0 = 1 then x2 else if C x1.toNat = 0 then x3 else x2
def st1 (F : Nat → Int) (n : Nat) (s : (Nat → Int) × Int) : (Nat → Int) × Int :=
  if s.2 < n then (tC (F (4 * s.2.toNat)) (F (4 * s.2.toNat + 1)) s.1, tN (F (4 * s.2.toNat)) (F (4 * s.2.toNat + 1)) (F (4 * s.2.toNat + 2)) (F (4 * s.2.toNat + 3)) s.1) else s
/-- counters and the next order, behind at most k turns -/
def runS (F : Nat → Int) (n : Nat) (C : Nat → Int) (a : Int) : Nat → (Nat → Int) × Int
  | 0 => (C, a)
  | k + 1 => st1 F n (runS F n C a k)
/-- how many turns were done -/
def runD (F : Nat → Int) (n : Nat) (C : Nat → Int) (a : Int) : Nat → Nat
  | 0 => 0
  | k + 1 => if (runS F n C a k).2 < n then runD F n C a k + 1 else runD F n C a k
theorem oE_zero {cs : Int} {n : Nat} {F : Nat → Int} {k : Nat} (h : oE cs n F k = 0) : (F (4 * k) = 1 ∨ F (4 * k) = 2) ∧ (0 ≤ F (4 * k + 1) ∧ F (4 * k + 1) < cs) ∧ (0 ≤ F (4 * k + 2) ∧ F (4 * k + 2) ≤ n) ∧ (F (4 * k) = 2 → 0 ≤ F (4 * k + 3) ∧ F (4 * k + 3) ≤ n) := by
  unfold oE at h
  by_cases h1 : F (4 * k) ≠ 1 ∧ F (4 * k) ≠ 2
  · rw [if_pos h1] at h; omega
  · rw [if_neg h1] at h
    by_cases h2 : F (4 * k + 1) < 0 ∨ cs ≤ F (4 * k + 1)
    · rw [if_pos h2] at h; omega
    · rw [if_neg h2] at h
      by_cases h3 : ¬ (0 ≤ F (4 * k + 2) ∧ F (4 * k + 2) ≤ n) ∨ F (4 * k) = 2 ∧ ¬ (0 ≤ F (4 * k + 3) ∧ F (4 * k + 3) ≤ n)
      · rw [if_pos h3] at h; omega
      · exact ⟨by omega, by omega, by omega, fun e => by omega⟩
theorem turn_cases (x0 x1 x2 x3 : Int) (D : Nat → Int) : (x0 = 1 ∧ tC x0 x1 D = upd D x1.toNat (D x1.toNat + 1) ∧ tN x0 x1 x2 x3 D = x2) ∨
    (x0 ≠ 1 ∧ D x1.toNat = 0 ∧ tC x0 x1 D = D ∧ tN x0 x1 x2 x3 D = x3) ∨ (x0 ≠ 1 ∧ D x1.toNat ≠ 0 ∧ tC x0 x1 D = upd D x1.toNat (D x1.toNat - 1) ∧ tN x0 x1 x2 x3 D = x2) := by
  unfold tC tN
  by_cases h : x0 = 1
  · exact .inl ⟨h, if_pos h, if_pos h⟩
  · rw [if_neg h, if_neg h]
    by_cases h0 : D x1.toNat = 0
    · exact .inr (.inl ⟨h, h0, if_pos h0, if_pos h0⟩)
    · exact .inr (.inr ⟨h, h0, if_neg h0, if_neg h0⟩)
theorem upd_bd {D : Nat → Int} {p m : Nat} {v lo hi : Int} (h : ∀ i, i < m → lo ≤ D i ∧ D i ≤ hi) (hv : lo ≤ v ∧ v ≤ hi) : ∀ i, i < m → lo ≤ upd D p v i ∧ upd D p v i ≤ hi := fun i hi' => by
  unfold upd
  split
  · exact hv
  · exact h i hi'
section
variable {F : Nat → Int} {n : Nat} {C : Nat → Int} {a : Int}
theorem st1_go {s : (Nat → Int) × Int} {q : Nat} (h : s.2 = (q : Int)) (hq : q < n) : st1 F n s = (tC (F (4 * q)) (F (4 * q + 1)) s.1, tN (F (4 * q)) (F (4 * q + 1)) (F (4 * q + 2)) (F (4 * q + 3)) s.1) := by
  unfold st1; rw [h, if_pos (by omega), Int.toNat_natCast]
theorem st1_stop {s : (Nat → Int) × Int} (h : ¬ s.2 < n) : st1 F n s = s := if_neg h
theorem runS_stop {k : Nat} (h : ¬ (runS F n C a k).2 < n) : ∀ j, k ≤ j → runS F n C a j = runS F n C a k ∧ runD F n C a j = runD F n C a k := by
  intro j
  induction j with
  | zero => intro hj; obtain rfl : k = 0 := by omega
            exact ⟨rfl, rfl⟩
  | succ j ih =>
    intro hj
    by_cases e : k = j + 1
    · subst e; exact ⟨rfl, rfl⟩
    · obtain ⟨h1, h2⟩ := ih (by omega)
      have h3 : ¬ (runS F n C a j).2 < n := by rw [h1]; exact h
      refine ⟨?_, ?_⟩
      · show st1 F n (runS F n C a j) = _; rw [st1_stop h3, h1]
      · show (if _ then _ else _) = _; rw [if_neg h3, h2]
theorem runD_le (k : Nat) : runD F n C a k ≤ k := by
  induction k with
  | zero => exact Nat.le_refl _
  | succ k ih =>
    have e : runD F n C a (k + 1) = if (runS F n C a k).2 < n then runD F n C a k + 1 else runD F n C a k := rfl
    rw [e]; split <;> omega
theorem runD_stands {k : Nat} (h : (runS F n C a k).2 < n) : runD F n C a k = k := by
  induction k with
  | zero => rfl
  | succ k ih =>
    by_cases e : (runS F n C a k).2 < n
    · show (if _ then _ else _) = _; rw [if_pos e, ih e]
    · have : runS F n C a (k + 1) = runS F n C a k := st1_stop e
      rw [this] at h; exact absurd h e
/-- what stays so: the next order is one of them, or the end; no counter is below 0, none grows by more than one a turn -/
theorem run_inv {cs : Int} {m : Nat} (hm : cs ≤ m) (hF : ∀ k, k < n → oE cs n F k = 0) (ha : 0 ≤ a ∧ a ≤ n) {M : Int} (hC : ∀ i, i < m → 0 ≤ C i ∧ C i ≤ M) (k : Nat) :
    (0 ≤ (runS F n C a k).2 ∧ (runS F n C a k).2 ≤ n) ∧ ∀ i, i < m → 0 ≤ (runS F n C a k).1 i ∧ (runS F n C a k).1 i ≤ M + k := by
  induction k with
  | zero => exact ⟨ha, fun i hi => by have := hC i hi; show 0 ≤ C i ∧ C i ≤ M + (0 : Nat); omega⟩
  | succ k ih =>
    obtain ⟨⟨h1, h2⟩, h3⟩ := ih
    show (0 ≤ (st1 F n (runS F n C a k)).2 ∧ (st1 F n (runS F n C a k)).2 ≤ n) ∧ ∀ i, i < m → 0 ≤ (st1 F n (runS F n C a k)).1 i ∧ (st1 F n (runS F n C a k)).1 i ≤ M + ((k + 1 : Nat) : Int)
    generalize runS F n C a k = s at h1 h2 h3
    obtain ⟨D, b⟩ := s
    simp only at h1 h2 h3
    by_cases e : b < n
    · obtain ⟨q, rfl⟩ := Int.eq_ofNat_of_zero_le h1
      have hq : q < n := by omega
      obtain ⟨z0, ⟨z1, z2⟩, z3, z4⟩ := oE_zero (hF q hq)
      rw [st1_go (q := q) rfl hq]
      simp only
      have hD := h3 (F (4 * q + 1)).toNat (by omega)
      have h3' : ∀ i, i < m → 0 ≤ D i ∧ D i ≤ M + ((k + 1 : Nat) : Int) := fun i hi => by have := h3 i hi; omega
      rcases turn_cases (F (4 * q)) (F (4 * q + 1)) (F (4 * q + 2)) (F (4 * q + 3)) D with ⟨_, e1, e2⟩ | ⟨n1, n0, e1, e2⟩ | ⟨n1, n0, e1, e2⟩
      · rw [e1, e2]; exact ⟨z3, upd_bd h3' (by omega)⟩
      · rw [e1, e2]; exact ⟨z4 (by omega), h3'⟩
      · rw [e1, e2]; exact ⟨z3, upd_bd h3' (by omega)⟩
    · rw [st1_stop e]
      exact ⟨⟨h1, h2⟩, fun i hi => by have := h3 i hi; show 0 ≤ D i ∧ D i ≤ _; omega⟩
end
/-- the sum of the first k -/
def smF (h : Nat → Int) : Nat → Int
  | 0 => 0
  | k + 1 => smF h k + h k
theorem smF_congr {h h' : Nat → Int} {k : Nat} (e : ∀ i, i < k → h i = h' i) : smF h k = smF h' k := by
  induction k with
  | zero => rfl
  | succ k ih => simp only [smF]; rw [ih fun i hi => e i (by omega), e k (by omega)]
theorem smF_upd (C : Nat → Int) (a : Nat) (v : Int) (f : Nat → Int) (k : Nat) : smF (fun i => upd C a v i - f i) k = smF (fun i => C i - f i) k + if a < k then v - C a else 0 := by
  induction k with
  | zero => simp [smF]
  | succ k ih =>
    simp only [smF]
    rw [ih]
    by_cases e : k = a
    · subst e
      rw [if_neg (by omega), if_pos (by omega)]
      simp only [upd, if_true]
      omega
    · have : upd C a v k = C k := if_neg e
      rw [this]
      by_cases l : a < k
      · rw [if_pos l, if_pos (by omega)]; omega
      · rw [if_neg l, if_neg (by omega)]; omega
theorem smF_bd {h : Nat → Int} {lo hi : Int} {m : Nat} (hb : ∀ i, i < m → lo ≤ h i ∧ h i ≤ hi) (k : Nat) (hk : k ≤ m) : lo * k ≤ smF h k ∧ smF h k ≤ hi * k := by
  induction k with
  | zero => simp [smF]
  | succ k ih =>
    have := hb k (by omega)
    have ih := ih (by omega)
    simp only [smF]
    rw [show ((k + 1 : Nat) : Int) = (k : Int) + 1 by omega, Int.mul_add, Int.mul_add]
    omega
/-- all counters together grow, or shrink, by at most one a turn -/
theorem run_sum {F : Nat → Int} {n : Nat} {C : Nat → Int} {a : Int} {cs : Int} {m : Nat} (hm : cs ≤ m) (hF : ∀ k, k < n → oE cs n F k = 0) (ha : 0 ≤ a ∧ a ≤ n) {M : Int} (hC : ∀ i, i < m → 0 ≤ C i ∧ C i ≤ M) (f : Nat → Int) (hf : ∀ i, f i = C i) (k : Nat) :
    smF (fun i => (runS F n C a k).1 i - f i) m ≤ runD F n C a k ∧ -(runD F n C a k : Int) ≤ smF (fun i => (runS F n C a k).1 i - f i) m := by
  induction k with
  | zero =>
    have : smF (fun i => (runS F n C a 0).1 i - f i) m = smF (fun _ => 0) m := smF_congr fun i hi => by show C i - f i = 0; rw [hf]; omega
    rw [this]
    have z := smF_bd (h := fun _ => 0) (lo := 0) (hi := 0) (m := m) (fun _ _ => ⟨Int.le_refl _, Int.le_refl _⟩) m (Nat.le_refl _)
    show _ ≤ ((0 : Nat) : Int) ∧ -((0 : Nat) : Int) ≤ _
    omega
  | succ k ih =>
    obtain ⟨⟨h1, h2⟩, h3⟩ := run_inv hm hF ha hC k
    show smF (fun i => (st1 F n (runS F n C a k)).1 i - f i) m ≤ ((if (runS F n C a k).2 < n then runD F n C a k + 1 else runD F n C a k : Nat) : Int) ∧ -((if (runS F n C a k).2 < n then runD F n C a k + 1 else runD F n C a k : Nat) : Int) ≤ smF (fun i => (st1 F n (runS F n C a k)).1 i - f i) m
    generalize runD F n C a k = d at ih
    generalize runS F n C a k = s at h1 h2 h3 ih
    obtain ⟨D, b⟩ := s
    simp only at h1 h2 h3 ih
    by_cases e : b < n
    · obtain ⟨q, rfl⟩ := Int.eq_ofNat_of_zero_le h1
      have hq : q < n := by omega
      obtain ⟨z0, ⟨z1, z2⟩, z3, z4⟩ := oE_zero (hF q hq)
      rw [st1_go (q := q) rfl hq]
      simp only
      rw [if_pos (by omega)]
      rcases turn_cases (F (4 * q)) (F (4 * q + 1)) (F (4 * q + 2)) (F (4 * q + 3)) D with ⟨_, e1, e2⟩ | ⟨n1, n0, e1, e2⟩ | ⟨n1, n0, e1, e2⟩
      · rw [e1, smF_upd, if_pos (by omega)]; omega
      · rw [e1]; omega
      · rw [e1, smF_upd, if_pos (by omega)]; omega
    · rw [st1_stop e, if_neg e]; exact ih
end Go.Proofs.Ytmdcfbofjlpbmaa
