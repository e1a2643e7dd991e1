/- What as much as must be said allows: cuts of the table into parts of one value. No condition. -/
import Derived.Test.YtnfibchffbdmpaaTurnLaw
namespace Go.Proofs.Ytnfibchffbdmpaa
set_option linter.unusedVariables false
set_option synthInstance.maxHeartbeats 400000
set_option synthInstance.maxSize 1024
/-- a part is cut into parts of one value -/
inductive TreeP (al : Nat → Nat → Bool) : Nat → Nat → List (Nat × Nat) → Prop
  | leaf {r c : Nat} : r ≠ 0 → c ≠ 0 → r < 16 → c < 16 → al r c = true → TreeP al r c [(r, c)]
  | rows {r c s : Nat} {L1 L2 : List (Nat × Nat)} : r < 16 → s < 16 → s &&& r = s → TreeP al s c L1 → TreeP al (r ^^^ s) c L2 → TreeP al r c (L1 ++ L2)
  | cols {r c s : Nat} {L1 L2 : List (Nat × Nat)} : c < 16 → s < 16 → s &&& c = s → TreeP al r s L1 → TreeP al r (c ^^^ s) L2 → TreeP al r c (L1 ++ L2)
theorem mn_mem (g : Nat → Nat) : ∀ k, mnF g k = 9 ∨ ∃ i, i < k ∧ mnF g k = g i
  | 0 => .inl rfl
  | k + 1 => by
    show min (mnF g k) (g k) = 9 ∨ ∃ i, i < k + 1 ∧ min (mnF g k) (g k) = g i
    rcases Nat.le_total (g k) (mnF g k) with h | h
    · exact .inr ⟨k, by omega, Nat.min_eq_right h⟩
    · rw [Nat.min_eq_left h]
      rcases mn_mem g k with a | ⟨i, hi, a⟩
      · exact .inl a
      · exact .inr ⟨i, by omega, a⟩
theorem two_cut : ∀ r : Nat, r < 16 → 2 ≤ pcT r → ∃ s, s < 16 ∧ s ≠ 0 ∧ s ≠ r ∧ s &&& r = s := by decide +kernel
theorem one_bit : ∀ r : Nat, r < 16 → pcT r ≤ 1 → ∀ i, i < 4 → ∀ k, k < 4 → hbT r i = true → hbT r k = true → i = k := by decide +kernel
theorem al_one {R : Nat → SB} {n m r c : Nat} (hn : n ≤ 4) (hm : m ≤ 4) (hr : r < 16) (hc : c < 16) (h1 : pcT r ≤ 1) (h2 : pcT c ≤ 1) : alT R n m r c = true := by
  unfold alT
  cases e1 : inT R m r c false n with
  | false => rfl
  | true =>
    cases e2 : inT R m r c true n with
    | false => rfl
    | true =>
      obtain ⟨i, hi, j, hj, a1, a2, a3⟩ := inT_iff.1 e1
      obtain ⟨i', hi', j', hj', b1, b2, b3⟩ := inT_iff.1 e2
      have p := one_bit r hr h1 i (by omega) i' (by omega) a1 b1
      have q := one_bit c hc h2 j (by omega) j' (by omega) a2 b2
      rw [p, q, b3] at a3
      cases a3
/-- one cut costs so much -/
theorem SY_rows {al : Nat → Nat → Bool} {r c s : Nat} (hr : r < 16) (hc : c < 16) (r0 : r ≠ 0) (c0 : c ≠ 0) (hs : s < 16) (s0 : s ≠ 0) (sr : s ≠ r) (sl : s &&& r = s) : SY al r c ≤ 1 + max (SY al s c) (SY al (r ^^^ s) c) := by
  rw [SY_step hr hc r0 c0]
  split
  · omega
  · have h1 := mn_le (g := cR al r c) hs
    have h2 : cR al r c s = 1 + max (SY al s c) (SY al (r ^^^ s) c) := by unfold cR cuT; exact if_pos ⟨s0, sr, sl⟩
    omega
theorem SY_cols {al : Nat → Nat → Bool} {r c s : Nat} (hr : r < 16) (hc : c < 16) (r0 : r ≠ 0) (c0 : c ≠ 0) (hs : s < 16) (s0 : s ≠ 0) (sr : s ≠ c) (sl : s &&& c = s) : SY al r c ≤ 1 + max (SY al r s) (SY al r (c ^^^ s)) := by
  rw [SY_step hr hc r0 c0]
  split
  · omega
  · have h1 := mn_le (g := cC al r c) hs
    have h2 : cC al r c s = 1 + max (SY al r s) (SY al r (c ^^^ s)) := by unfold cC cuT; exact if_pos ⟨s0, sr, sl⟩
    omega
theorem SY_zero {al : Nat → Nat → Bool} {r c : Nat} (hr : r < 16) (hc : c < 16) (r0 : r ≠ 0) (c0 : c ≠ 0) (h : al r c = true) : SY al r c = 0 := by rw [SY_step hr hc r0 c0, if_pos h]
theorem SY_pc {R : Nat → SB} {n m : Nat} (hn : n ≤ 4) (hm : m ≤ 4) : ∀ (g r c : Nat), pcT r + pcT c ≤ g → r < 16 → c < 16 → r ≠ 0 → c ≠ 0 → SY (alT R n m) r c + 2 ≤ pcT r + pcT c
  | 0, r, c, h, hr, hc, r0, c0 => by have := (pc_facts r hr).2 r0; have := (pc_facts c hc).2 c0; omega
  | g + 1, r, c, h, hr, hc, r0, c0 => by
    have p1 := (pc_facts r hr).2 r0
    have p2 := (pc_facts c hc).2 c0
    by_cases ha : alT R n m r c = true
    · rw [SY_zero hr hc r0 c0 ha]; omega
    · by_cases h1 : 2 ≤ pcT r
      · obtain ⟨s, hs, s0, sr, sl⟩ := two_cut r hr h1
        obtain ⟨q1, q2, q3, q4, q5, q6, _⟩ := cut_facts r hr s hs s0 sr sl
        have a := SY_rows (al := alT R n m) hr hc r0 c0 hs s0 sr sl
        have b := SY_pc (R := R) hn hm g s c (by omega) hs hc s0 c0
        have d := SY_pc (R := R) hn hm g (r ^^^ s) c (by omega) q5 hc q6 c0
        omega
      · by_cases h2 : 2 ≤ pcT c
        · obtain ⟨s, hs, s0, sr, sl⟩ := two_cut c hc h2
          obtain ⟨q1, q2, q3, q4, q5, q6, _⟩ := cut_facts c hc s hs s0 sr sl
          have a := SY_cols (al := alT R n m) hr hc r0 c0 hs s0 sr sl
          have b := SY_pc (R := R) hn hm g r s (by omega) hr hs r0 s0
          have d := SY_pc (R := R) hn hm g r (c ^^^ s) (by omega) hr q5 r0 q6
          omega
        · exact absurd (al_one hn hm hr hc (by omega) (by omega)) ha
/-- as many parts as words of that length -/
theorem say_tree {R : Nat → SB} {n m : Nat} (hn : n ≤ 4) (hm : m ≤ 4) : ∀ (g r c : Nat), pcT r + pcT c ≤ g → r < 16 → c < 16 → r ≠ 0 → c ≠ 0 → ∃ L, TreeP (alT R n m) r c L ∧ L.length ≤ 2 ^ SY (alT R n m) r c
  | 0, r, c, h, hr, hc, r0, c0 => by have := (pc_facts r hr).2 r0; have := (pc_facts c hc).2 c0; omega
  | g + 1, r, c, h, hr, hc, r0, c0 => by
    have p1 := (pc_facts r hr).1
    have p2 := (pc_facts c hc).1
    by_cases ha : alT R n m r c = true
    · exact ⟨_, .leaf r0 c0 hr hc ha, by rw [SY_zero hr hc r0 c0 ha]; exact Nat.le_refl _⟩
    · have h6 := SY_pc (R := R) hn hm (pcT r + pcT c) r c (Nat.le_refl _) hr hc r0 c0
      have hst := SY_step (al := alT R n m) hr hc r0 c0
      rw [if_neg ha] at hst
      have pow2 : ∀ x y z : Nat, z = 1 + max x y → 2 ^ x + 2 ^ y ≤ 2 ^ z := fun x y z e => by
        have a1 : 2 ^ x ≤ 2 ^ max x y := Nat.pow_le_pow_right (by decide) (Nat.le_max_left _ _)
        have a2 : 2 ^ y ≤ 2 ^ max x y := Nat.pow_le_pow_right (by decide) (Nat.le_max_right _ _)
        rw [e, Nat.add_comm 1, Nat.pow_succ]
        omega
      rcases Nat.le_total (mnF (cR (alT R n m) r c) 16) (mnF (cC (alT R n m) r c) 16) with hle | hle
      · rw [Nat.min_eq_left hle] at hst
        rcases mn_mem (cR (alT R n m) r c) 16 with e | ⟨s, hs, e⟩
        · omega
        · have hc9 : cR (alT R n m) r c s ≠ 9 := by omega
          by_cases hk : s ≠ 0 ∧ s ≠ r ∧ s &&& r = s
          · obtain ⟨q1, q2, q3, q4, q5, q6, _⟩ := cut_facts r hr s hs hk.1 hk.2.1 hk.2.2
            have hv : cR (alT R n m) r c s = 1 + max (SY (alT R n m) s c) (SY (alT R n m) (r ^^^ s) c) := by unfold cR cuT; exact if_pos hk
            obtain ⟨L1, t1, l1⟩ := say_tree (R := R) hn hm g s c (by omega) hs hc hk.1 c0
            obtain ⟨L2, t2, l2⟩ := say_tree (R := R) hn hm g (r ^^^ s) c (by omega) q5 hc q6 c0
            refine ⟨L1 ++ L2, .rows hr hs hk.2.2 t1 t2, ?_⟩
            have := pow2 _ _ (SY (alT R n m) r c) (by rw [hst, e, hv])
            rw [List.length_append]; omega
          · exact absurd (by unfold cR cuT; exact if_neg hk) hc9
      · rw [Nat.min_eq_right hle] at hst
        rcases mn_mem (cC (alT R n m) r c) 16 with e | ⟨s, hs, e⟩
        · omega
        · have hc9 : cC (alT R n m) r c s ≠ 9 := by omega
          by_cases hk : s ≠ 0 ∧ s ≠ c ∧ s &&& c = s
          · obtain ⟨q1, q2, q3, q4, q5, q6, _⟩ := cut_facts c hc s hs hk.1 hk.2.1 hk.2.2
            have hv : cC (alT R n m) r c s = 1 + max (SY (alT R n m) r s) (SY (alT R n m) r (c ^^^ s)) := by unfold cC cuT; exact if_pos hk
            obtain ⟨L1, t1, l1⟩ := say_tree (R := R) hn hm g r s (by omega) hr hs r0 hk.1
            obtain ⟨L2, t2, l2⟩ := say_tree (R := R) hn hm g r (c ^^^ s) (by omega) hr q5 r0 q6
            refine ⟨L1 ++ L2, .cols hc hs hk.2.2 t1 t2, ?_⟩
            have := pow2 _ _ (SY (alT R n m) r c) (by rw [hst, e, hv])
            rw [List.length_append]; omega
          · exact absurd (by unfold cC cuT; exact if_neg hk) hc9
/-- in a part of one value all places are alike -/
theorem al_same {R : Nat → SB} {n m r c : Nat} (h : alT R n m r c = true) {i j i' j' : Nat} (hi : i < n) (hj : j < m) (hi' : i' < n) (hj' : j' < m) (a1 : hbT r i = true) (a2 : hbT c j = true) (b1 : hbT r i' = true) (b2 : hbT c j' = true) : tbB R i j = tbB R i' j' := by
  unfold alT at h
  cases e1 : inT R m r c false n with
  | false =>
    have key : ∀ i, i < n → ∀ j, j < m → hbT r i = true → hbT c j = true → tbB R i j = true := fun i hi j hj a1 a2 => by
      cases e : tbB R i j with
      | true => rfl
      | false =>
        have := inT_iff.2 ⟨i, hi, j, hj, a1, a2, e⟩
        rw [e1] at this; cases this
    rw [key i hi j hj a1 a2, key i' hi' j' hj' b1 b2]
  | true =>
    rw [e1] at h
    cases e2 : inT R m r c true n with
    | true => rw [e2] at h; cases h
    | false =>
      have key : ∀ i, i < n → ∀ j, j < m → hbT r i = true → hbT c j = true → tbB R i j = false := fun i hi j hj a1 a2 => by
        cases e : tbB R i j with
        | false => rfl
        | true =>
          have := inT_iff.2 ⟨i, hi, j, hj, a1, a2, e⟩
          rw [e2] at this; cases this
      rw [key i hi j hj a1 a2, key i' hi' j' hj' b1 b2]
/-- how many of the first k -/
def cntP (p : Nat → Bool) : Nat → Nat
  | 0 => 0
  | k + 1 => cntP p k + if p k = true then 1 else 0
theorem cntP_add {p q r : Nat → Bool} (h : ∀ i, p i = true → q i = true ∨ r i = true) : ∀ k, cntP p k ≤ cntP q k + cntP r k
  | 0 => Nat.zero_le _
  | k + 1 => by
    have := cntP_add h k
    have hk := h k
    show cntP p k + (if p k = true then 1 else 0) ≤ cntP q k + (if q k = true then 1 else 0) + (cntP r k + if r k = true then 1 else 0)
    by_cases e : p k = true
    · rw [if_pos e]
      rcases hk e with a | a
      · rw [if_pos a]; split <;> omega
      · rw [if_pos a]; split <;> omega
    · rw [if_neg e]; split <;> split <;> omega
theorem cntP_none {p : Nat → Bool} : ∀ {k}, (∀ i, i < k → p i = false) → cntP p k = 0
  | 0, _ => rfl
  | k + 1, h => by
    show cntP p k + (if p k = true then 1 else 0) = 0
    rw [cntP_none fun i hi => h i (by omega), h k (by omega)]; rfl
theorem cntP_all {p : Nat → Bool} : ∀ {k}, (∀ i, i < k → p i = true) → cntP p k = k
  | 0, _ => rfl
  | k + 1, h => by
    show cntP p k + (if p k = true then 1 else 0) = k + 1
    rw [cntP_all fun i hi => h i (by omega), h k (by omega)]; rfl
theorem cntP_one {p : Nat → Bool} : ∀ {k}, (∀ i j, i < j → j < k → ¬ (p i = true ∧ p j = true)) → cntP p k ≤ 1
  | 0, _ => Nat.zero_le _
  | k + 1, h => by
    show cntP p k + (if p k = true then 1 else 0) ≤ 1
    by_cases e : p k = true
    · rw [if_pos e, cntP_none fun i hi => by
        cases e2 : p i with
        | false => rfl
        | true => exact absurd ⟨e2, e⟩ (h i k hi (by omega))]
      exact Nat.le_refl _
    · rw [if_neg e]
      exact cntP_one fun i j hij hj => h i j hij (by omega)
theorem xor_bit : ∀ r : Nat, r < 16 → ∀ s : Nat, s < 16 → s &&& r = s → ∀ i, i < 4 → (hbT r i = true → hbT s i = true ∨ hbT (r ^^^ s) i = true) ∧ hbT (r ^^^ s) i = (hbT r i && !hbT s i) ∧ (hbT s i = true → hbT r i = true) := by decide +kernel
theorem full_bit : ∀ n : Nat, n ≤ 4 → ∀ i, i < n → hbT (2 ^ n - 1) i = true := by decide +kernel
end Go.Proofs.Ytnfibchffbdmpaa
