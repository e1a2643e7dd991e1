/- What Rects tells: no less than places that fool; for both values together no more than parts. No condition. -/
import Derived.Test.YtnfibchffbdmpaaTreeLaw
import Derived.Test.YtnfibchffbdmpaaRectDef
namespace Go.Proofs.Ytnfibchffbdmpaa
set_option linter.unusedVariables false
set_option linter.unusedSimpArgs false
theorem hb_tb (x i : Nat) : hbT x i = x.testBit i := by
  rw [Nat.testBit_eq_decide_div_mod_eq]
  unfold hbT
  by_cases h : x / 2 ^ i % 2 = 1
  · rw [h]; rfl
  · rw [decide_eq_false h]; simpa using h
theorem orF_bit {g : Nat → Nat} {b : Nat} : ∀ {k}, (orF g k).testBit b = true ↔ ∃ i, i < k ∧ (g i).testBit b = true
  | 0 => by simp [orF]
  | k + 1 => by
    show (orF g k ||| g k).testBit b = true ↔ _
    rw [Nat.testBit_or, Bool.or_eq_true, orF_bit]
    constructor
    · rintro (⟨i, hi, h⟩ | h)
      · exact ⟨i, by omega, h⟩
      · exact ⟨k, by omega, h⟩
    · rintro ⟨i, hi, h⟩
      by_cases e : i = k
      · exact .inr (e ▸ h)
      · exact .inl ⟨i, by omega, h⟩
theorem place_one {m i j i' j' : Nat} (hj : j < m) (hj' : j' < m) (h : m * i + j = m * i' + j') : i = i' ∧ j = j' := by
  have h1 : (m * i + j) / m = i := by rw [Nat.mul_add_div (by omega), Nat.div_eq_of_lt hj]; omega
  have h2 : (m * i' + j') / m = i' := by rw [Nat.mul_add_div (by omega), Nat.div_eq_of_lt hj']; omega
  have e : i = i' := by rw [← h1, h, h2]
  subst e
  exact ⟨rfl, by omega⟩
/-- the bits of the places -/
theorem pl_bit {f : Nat → Nat → Bool} {v : Bool} {m n b : Nat} : (plQ f v m n).testBit b = true ↔ ∃ i, i < n ∧ ∃ j, j < m ∧ f i j = v ∧ b = m * i + j := by
  unfold plQ
  rw [orF_bit]
  constructor
  · rintro ⟨i, hi, h⟩
    unfold rowQ at h
    obtain ⟨j, hj, h2⟩ := orF_bit.1 h
    unfold cellQ at h2
    by_cases e : f i j = v
    · rw [if_pos e, Nat.testBit_two_pow, decide_eq_true_eq] at h2
      exact ⟨i, hi, j, hj, e, h2.symm⟩
    · rw [if_neg e] at h2; simp at h2
  · rintro ⟨i, hi, j, hj, e, rfl⟩
    refine ⟨i, hi, ?_⟩
    unfold rowQ
    refine orF_bit.2 ⟨j, hj, ?_⟩
    unfold cellQ
    rw [if_pos e, Nat.testBit_two_pow]; simp
theorem pl_at {f : Nat → Nat → Bool} {v : Bool} {m n i j : Nat} (hi : i < n) (hj : j < m) : (plQ f v m n).testBit (m * i + j) = true ↔ f i j = v := by
  rw [pl_bit]
  constructor
  · rintro ⟨i', hi', j', hj', e, h⟩
    obtain ⟨rfl, rfl⟩ := place_one hj hj' h
    exact e
  · exact fun e => ⟨i, hi, j, hj, e, rfl⟩
theorem col_bit {P m s j : Nat} : ∀ {k}, (colQ P m s k).testBit j = true ↔ j < m ∧ ∀ i, i < k → hbT s i = true → P.testBit (m * i + j) = true
  | 0 => by
    show (2 ^ m - 1).testBit j = true ↔ _
    rw [Nat.testBit_two_pow_sub_one, decide_eq_true_eq]
    exact ⟨fun h => ⟨h, fun i hi => absurd hi (Nat.not_lt_zero _)⟩, fun h => h.1⟩
  | k + 1 => by
    show (if hbT s k = true then colQ P m s k &&& (P / 2 ^ (m * k) &&& (2 ^ m - 1)) else colQ P m s k).testBit j = true ↔ _
    have ih := col_bit (P := P) (m := m) (s := s) (j := j) (k := k)
    by_cases e : hbT s k = true
    · rw [if_pos e, Nat.testBit_and, Nat.testBit_and, Bool.and_eq_true, Bool.and_eq_true, ih, Nat.testBit_two_pow_sub_one, decide_eq_true_eq, Nat.testBit_div_two_pow]
      constructor
      · rintro ⟨⟨h1, h2⟩, h3, _⟩
        refine ⟨h1, fun i hi hb => ?_⟩
        by_cases ek : i = k
        · rw [ek, Nat.add_comm]; exact h3
        · exact h2 i (by omega) hb
      · rintro ⟨h1, h2⟩
        exact ⟨⟨h1, fun i hi hb => h2 i (by omega) hb⟩, by rw [Nat.add_comm]; exact h2 k (by omega) e, h1⟩
    · rw [if_neg e, ih]
      constructor
      · rintro ⟨h1, h2⟩
        refine ⟨h1, fun i hi hb => ?_⟩
        by_cases ek : i = k
        · rw [ek] at hb; exact absurd hb e
        · exact h2 i (by omega) hb
      · rintro ⟨h1, h2⟩
        exact ⟨h1, fun i hi hb => h2 i (by omega) hb⟩
theorem rc_bit {C m s n b : Nat} (hC : C < 2 ^ m) : (rcQ C m s n).testBit b = true ↔ ∃ i, i < n ∧ ∃ j, j < m ∧ hbT s i = true ∧ C.testBit j = true ∧ b = m * i + j := by
  unfold rcQ
  rw [orF_bit]
  constructor
  · rintro ⟨i, hi, h⟩
    by_cases e : hbT s i = true
    · rw [if_pos e, Nat.mul_comm, Nat.testBit_two_pow_mul, Bool.and_eq_true, decide_eq_true_eq] at h
      have hj : b - m * i < m := by
        rcases Nat.lt_or_ge (b - m * i) m with l | l
        · exact l
        · rw [Nat.testBit_lt_two_pow (Nat.lt_of_lt_of_le hC (Nat.pow_le_pow_right (by decide) l))] at h
          exact absurd h.2 (by decide)
      exact ⟨i, hi, b - m * i, hj, e, h.2, by omega⟩
    · rw [if_neg e] at h; simp at h
  · rintro ⟨i, hi, j, hj, e, h, rfl⟩
    refine ⟨i, hi, ?_⟩
    rw [if_pos e, Nat.mul_comm, Nat.testBit_two_pow_mul, Bool.and_eq_true, decide_eq_true_eq]
    exact ⟨Nat.le_add_right _ _, by rw [Nat.add_sub_cancel_left]; exact h⟩
/-- what stands in the list of rects -/
theorem rects_mem {P m n : Nat} : ∀ {k x}, x ∈ rectsQ P m n k ↔ ∃ s, 1 ≤ s ∧ s ≤ k ∧ colQ P m s n ≠ 0 ∧ x = rcQ (colQ P m s n) m s n
  | 0, x => by
    show x ∈ [] ↔ _
    constructor
    · intro h; cases h
    · rintro ⟨s, h1, h2, _⟩; omega
  | k + 1, x => by
    have ih := rects_mem (P := P) (m := m) (n := n) (k := k) (x := x)
    unfold rectsQ
    by_cases e : colQ P m (k + 1) n ≠ 0
    · rw [if_pos e, List.mem_append, ih, List.mem_singleton]
      constructor
      · rintro (⟨s, h1, h2, h3⟩ | h)
        · exact ⟨s, h1, by omega, h3⟩
        · exact ⟨k + 1, by omega, by omega, e, h⟩
      · rintro ⟨s, h1, h2, h3, h4⟩
        by_cases es : s = k + 1
        · exact .inr (by rw [h4, es])
        · exact .inl ⟨s, h1, by omega, h3, h4⟩
    · rw [if_neg e, ih]
      constructor
      · rintro ⟨s, h1, h2, h3⟩
        exact ⟨s, h1, by omega, h3⟩
      · rintro ⟨s, h1, h2, h3, h4⟩
        by_cases es : s = k + 1
        · exact absurd (es ▸ h3) e
        · exact ⟨s, h1, by omega, h3, h4⟩
theorem col_lt2 {P m s n : Nat} : colQ P m s n < 2 ^ m := by have := col_le (P := P) (m := m) (s := s) n; have := Nat.two_pow_pos m; omega
/-- a rect's places are all of the value -/
theorem rect_bit {f : Nat → Nat → Bool} {v : Bool} {m n s b : Nat} : (rcQ (colQ (plQ f v m n) m s n) m s n).testBit b = true ↔ ∃ i, i < n ∧ ∃ j, j < m ∧ b = m * i + j ∧ hbT s i = true ∧ ∀ i', i' < n → hbT s i' = true → f i' j = v := by
  rw [rc_bit col_lt2]
  constructor
  · rintro ⟨i, hi, j, hj, e, h, rfl⟩
    exact ⟨i, hi, j, hj, rfl, e, fun i' hi' hb => (pl_at hi' hj).1 ((col_bit.1 h).2 i' hi' hb)⟩
  · rintro ⟨i, hi, j, hj, rfl, e, h⟩
    exact ⟨i, hi, j, hj, e, col_bit.2 ⟨hj, fun i' hi' hb => (pl_at hi' hj).2 (h i' hi' hb)⟩, rfl⟩
theorem cntP_first (p : Nat → Bool) : ∀ k, cntP p (k + 1) = (if p 0 = true then 1 else 0) + cntP (fun i => p (i + 1)) k
  | 0 => (Nat.zero_add _).trans (Nat.add_zero _).symm
  | k + 1 => by
    show cntP p (k + 1) + (if p (k + 1) = true then 1 else 0) = _ + (cntP (fun i => p (i + 1)) k + if p (k + 1) = true then 1 else 0)
    rw [cntP_first p k]; omega
theorem pop_cnt : ∀ (k u : Nat), popN k u = cntP (hbT u) k
  | 0, _ => rfl
  | k + 1, u => by
    rw [cntP_first]
    show u % 2 + popN k (u / 2) = _
    rw [pop_cnt k (u / 2)]
    have h0 : u % 2 = if hbT u 0 = true then 1 else 0 := by
      unfold hbT
      rw [Nat.pow_zero, Nat.div_one]
      have : u % 2 = 0 ∨ u % 2 = 1 := by omega
      rcases this with e | e <;> rw [e] <;> rfl
    rw [h0]
    congr 1
    have : hbT (u / 2) = fun i => hbT u (i + 1) := funext fun i => by
      unfold hbT
      rw [Nat.div_div_eq_div_mul, Nat.pow_succ, Nat.mul_comm 2]
    rw [this]
theorem pop_or (k a b : Nat) : popN k (a ||| b) ≤ popN k a + popN k b := by
  rw [pop_cnt, pop_cnt, pop_cnt]
  exact cntP_add (fun i h => by
    rw [hb_tb, Nat.testBit_or, Bool.or_eq_true, ← hb_tb, ← hb_tb] at h
    exact h) k
theorem pop_pow (k t : Nat) : popN k (2 ^ t) ≤ 1 := by
  rw [pop_cnt]
  refine cntP_one fun i j hij _ ⟨h1, h2⟩ => ?_
  rw [hb_tb, Nat.testBit_two_pow, decide_eq_true_eq] at h1 h2
  omega
theorem pop_zero (k : Nat) : popN k 0 = 0 := by
  rw [pop_cnt]
  exact cntP_none fun i _ => by rw [hb_tb]; simp
theorem best_mem (P : Nat) (L : List Nat) : ∀ k, bestQ P L k = popN 16 P ∨ ∃ p, p < k ∧ pickQ L p L.length = P ∧ bestQ P L k = popN 16 p
  | 0 => .inl rfl
  | k + 1 => by
    unfold bestQ
    by_cases e : pickQ L k L.length = P
    · rw [if_pos e]
      rcases Nat.le_total (popN 16 k) (bestQ P L k) with h | h
      · exact .inr ⟨k, by omega, e, Nat.min_eq_right h⟩
      · rw [Nat.min_eq_left h]
        rcases best_mem P L k with a | ⟨p, hp, a, b⟩
        · exact .inl a
        · exact .inr ⟨p, by omega, a, b⟩
    · rw [if_neg e]
      rcases best_mem P L k with a | ⟨p, hp, a, b⟩
      · exact .inl a
      · exact .inr ⟨p, by omega, a, b⟩
theorem best_le2 (P : Nat) (L : List Nat) : ∀ k p, p < k → pickQ L p L.length = P → bestQ P L k ≤ popN 16 p
  | k + 1, p, hp, h => by
    unfold bestQ
    by_cases e : p = k
    · rw [if_pos (e ▸ h), e]; exact Nat.min_le_right _ _
    · have := best_le2 P L k p (by omega) h
      split <;> omega
theorem pick_bit {L : List Nat} {p b k : Nat} : (pickQ L p k).testBit b = true ↔ ∃ t, t < k ∧ hbT p t = true ∧ (L.getD t 0).testBit b = true := by
  unfold pickQ
  rw [orF_bit]
  constructor
  · rintro ⟨t, ht, h⟩
    by_cases e : hbT p t = true
    · rw [if_pos e] at h; exact ⟨t, ht, e, h⟩
    · rw [if_neg e] at h; simp at h
  · rintro ⟨t, ht, e, h⟩
    exact ⟨t, ht, by rw [if_pos e]; exact h⟩
end Go.Proofs.Ytnfibchffbdmpaa
