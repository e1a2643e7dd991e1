/- What a search finds, as a set of dots. No condition. -/
import Derived.Test.YtkedkgmcdhmjiaaHardSeek
namespace Go.Proofs.Ytkedkgmcdhmjiaa
set_option linter.unusedVariables false
def ExtM (may : Nat → (Nat → Nat) → Nat → Bool) : Prop := ∀ m g g' i, (∀ q, q < m → g q = g' q) → may m g i = may m g' i
def ExtG (good : Nat → (Nat → Nat) → Bool) : Prop := ∀ m g g', (∀ q, q < m → g q = g' q) → good m g = good m g'
theorem frm_ext {m : Nat} {g g' : Nat → Nat} (h : ∀ q, q < m → g q = g' q) : frm m g = frm m g' := by
  unfold frm
  split
  · rfl
  · rw [h _ (by omega)]
theorem fnd_iff {N : Nat} {may : Nat → (Nat → Nat) → Nat → Bool} {good : Nat → (Nat → Nat) → Bool} (hM : ExtM may) (hG : ExtG good) :
    ∀ (k m : Nat) (g : Nat → Nat), Fnd N may good k m g ↔ ∃ h : Nat → Nat, (∀ q, q < m → h q = g q) ∧ (∀ q, m ≤ q → q < m + k → frm q h ≤ h q ∧ h q < N ∧ may q h (h q) = true) ∧ good (m + k) h = true := by
  intro k
  induction k with
  | zero =>
    intro m g
    constructor
    · intro h
      exact ⟨g, fun _ _ => rfl, fun q h1 h2 => by omega, h⟩
    · rintro ⟨h, h1, _, h3⟩
      show good m g = true
      rw [← hG m h g h1]; exact h3
  | succ k ih =>
    intro m g
    constructor
    · rintro ⟨i, h1, h2, h3, h4⟩
      obtain ⟨h, e1, e2, e3⟩ := (ih (m + 1) (snocN m g i)).1 h4
      have eg : ∀ q, q < m → h q = g q := fun q hq => by rw [e1 q (by omega)]; exact if_pos hq
      have em : h m = i := by rw [e1 m (by omega)]; exact if_neg (Nat.lt_irrefl m)
      refine ⟨h, eg, fun q a b => ?_, by rw [show m + (k + 1) = m + 1 + k by omega]; exact e3⟩
      by_cases e : q = m
      · subst e
        rw [frm_ext eg, em, hM q h g i eg]
        exact ⟨h1, by omega, h3⟩
      · exact e2 q (by omega) (by omega)
    · rintro ⟨h, e1, e2, e3⟩
      have inc : ∀ j, j ≤ k → h m + j ≤ h (m + j) := by
        intro j
        induction j with
        | zero => intro _; exact Nat.le_refl _
        | succ j ihj =>
          intro hj
          have := ihj (by omega)
          have h2 := (e2 (m + (j + 1)) (by omega) (by omega)).1
          unfold frm at h2
          rw [if_neg (by omega), show m + (j + 1) - 1 = m + j by omega] at h2
          omega
      have hk := inc k (Nat.le_refl _)
      have hN := (e2 (m + k) (by omega) (by omega)).2.1
      obtain ⟨a1, a2, a3⟩ := e2 m (Nat.le_refl _) (by omega)
      refine ⟨h m, by rw [← frm_ext e1]; exact a1, by omega, by rw [← hM m h g (h m) e1]; exact a3, ?_⟩
      refine (ih (m + 1) (snocN m g (h m))).2 ⟨h, fun q hq => ?_, fun q a b => e2 q (by omega) (by omega), by rw [show m + 1 + k = m + (k + 1) by omega]; exact e3⟩
      unfold snocN
      by_cases e : q < m
      · rw [if_pos e]; exact e1 q e
      · rw [if_neg e, show q = m by omega]
/-- how many below n are so -/
def cntS (S : Nat → Bool) : Nat → Nat
  | 0 => 0
  | n + 1 => cntS S n + if S n = true then 1 else 0
theorem cntS_le (S : Nat → Bool) : ∀ n, cntS S n ≤ n
  | 0 => Nat.le_refl _
  | n + 1 => by
    have := cntS_le S n
    show cntS S n + (if S n = true then 1 else 0) ≤ n + 1
    split <;> omega
theorem cntS_not (S : Nat → Bool) : ∀ n, cntS S n + cntS (fun x => !(S x)) n = n
  | 0 => rfl
  | n + 1 => by
    have := cntS_not S n
    show cntS S n + (if S n = true then 1 else 0) + (cntS (fun x => !(S x)) n + if (!(S n)) = true then 1 else 0) = n + 1
    cases S n
    · rw [if_neg (by decide), if_pos (by decide)]; omega
    · rw [if_pos rfl, if_neg (by decide)]; omega
theorem cntS_congr {S T : Nat → Bool} : ∀ {n}, (∀ x, x < n → S x = T x) → cntS S n = cntS T n
  | 0, _ => rfl
  | n + 1, h => by
    show cntS S n + _ = cntS T n + _
    rw [cntS_congr (fun x hx => h x (by omega)), h n (by omega)]
theorem cntS_insert {S T : Nat → Bool} {a : Nat} (hS : S a = false) (hT : ∀ x, T x = (S x || x == a)) : ∀ {n}, cntS T n = cntS S n + if a < n then 1 else 0
  | 0 => rfl
  | n + 1 => by
    show cntS T n + (if T n = true then 1 else 0) = cntS S n + (if S n = true then 1 else 0) + _
    rw [cntS_insert hS hT, hT n]
    by_cases e : n = a
    · subst e
      rw [hS, if_neg (Nat.lt_irrefl _), if_pos (by simp), if_neg (by decide), if_pos (by omega)]
    · rw [show (n == a) = false by simpa using e, Bool.or_false]
      by_cases e2 : a < n
      · rw [if_pos e2, if_pos (show a < n + 1 by omega)]; omega
      · rw [if_neg e2, if_neg (show ¬ a < n + 1 by omega)]; omega
/-- the list's numbers grow -/
def Inc (h : Nat → Nat) (k : Nat) : Prop := ∀ q, q < k → frm q h ≤ h q
theorem Inc.lt {h : Nat → Nat} {k : Nat} (hi : Inc h k) : ∀ b, b < k → ∀ a, a < b → h a < h b := by
  intro b
  induction b with
  | zero => intro _ a ha; omega
  | succ b ih =>
    intro hb a ha
    have h1 := hi (b + 1) hb
    unfold frm at h1
    rw [if_neg (by omega), Nat.add_sub_cancel] at h1
    by_cases e : a = b
    · subst e; omega
    · have := ih (by omega) a (by omega); omega
theorem hasN_iff {h : Nat → Nat} {k : Nat} {x : Int} : hasN h k x = true ↔ ∃ q, q < k ∧ ((h q : Nat) : Int) = x := hasI_iff
theorem hasN_no {h : Nat → Nat} {k : Nat} {x : Int} : hasN h k x = false ↔ ∀ q, q < k → ((h q : Nat) : Int) ≠ x := by
  constructor
  · intro e q hq he
    rw [hasN_iff.2 ⟨q, hq, he⟩] at e; cases e
  · intro e
    cases hh : hasN h k x
    · rfl
    · obtain ⟨q, hq, he⟩ := hasN_iff.1 hh
      exact absurd he (e q hq)
theorem cnt_of_inc {h : Nat → Nat} {N : Nat} : ∀ {k : Nat}, Inc h k → (∀ q, q < k → h q < N) → cntS (fun x => hasN h k (x : Int)) N = k
  | 0, _, _ => by
    have : ∀ n, cntS (fun x => hasN h 0 (x : Int)) n = 0 := by
      intro n
      induction n with
      | zero => rfl
      | succ n ih =>
        show cntS _ n + (if hasN h 0 (n : Int) = true then 1 else 0) = 0
        rw [ih, if_neg (by rw [hasN_iff]; rintro ⟨q, hq, _⟩; omega)]
    exact this N
  | k + 1, hi, hN => by
    have ih := cnt_of_inc (h := h) (N := N) (k := k) (fun q hq => hi q (by omega)) (fun q hq => hN q (by omega))
    have h1 : hasN h k ((h k : Nat) : Int) = false := hasN_no.2 fun q hq e => by
      have := hi.lt k (by omega) q hq
      omega
    rw [cntS_insert (S := fun x => hasN h k (x : Int)) (a := h k) h1 (fun x => ?_) (n := N), ih, if_pos (hN k (by omega))]
    by_cases e : x = h k
    · subst e
      rw [show hasN h (k + 1) ((h k : Nat) : Int) = true from hasN_iff.2 ⟨k, by omega, rfl⟩]
      simp
    · rw [show (x == h k) = false by simpa using e, Bool.or_false]
      cases hh : hasN h k (x : Int)
      · exact hasN_no.2 fun q hq e2 => by
          by_cases eq : q = k
          · subst eq; omega
          · exact hasN_no.1 hh q (by omega) e2
      · obtain ⟨q, hq, he⟩ := hasN_iff.1 hh
        exact hasN_iff.2 ⟨q, by omega, he⟩
theorem inc_of_cnt (S : Nat → Bool) : ∀ N, ∃ h : Nat → Nat, Inc h (cntS S N) ∧ (∀ q, q < cntS S N → h q < N) ∧ ∀ x, x < N → hasN h (cntS S N) (x : Int) = S x
  | 0 => ⟨fun _ => 0, fun q hq => absurd hq (Nat.not_lt_zero _), fun q hq => absurd hq (Nat.not_lt_zero _), fun x hx => absurd hx (Nat.not_lt_zero _)⟩
  | N + 1 => by
    obtain ⟨h, h1, h2, h3⟩ := inc_of_cnt S N
    cases hS : S N
    · have e : cntS S (N + 1) = cntS S N := by show cntS S N + (if S N = true then 1 else 0) = _; rw [hS, if_neg (by decide)]; rfl
      rw [e]
      refine ⟨h, h1, fun q hq => Nat.lt_succ_of_lt (h2 q hq), fun x hx => ?_⟩
      by_cases ex : x = N
      · subst ex
        rw [hS]
        exact hasN_no.2 fun q hq he => by have := h2 q hq; omega
      · exact h3 x (by omega)
    · have e : cntS S (N + 1) = cntS S N + 1 := by show cntS S N + (if S N = true then 1 else 0) = _; rw [hS, if_pos rfl]
      rw [e]
      obtain ⟨c, hc⟩ : ∃ c, c = cntS S N := ⟨_, rfl⟩
      rw [← hc] at h1 h2 h3 ⊢
      have lo : ∀ q, q < c → snocN c h N q = h q := fun q hq => if_pos hq
      have hi : snocN c h N c = N := if_neg (Nat.lt_irrefl _)
      refine ⟨snocN c h N, fun q hq => ?_, fun q hq => ?_, fun x hx => ?_⟩
      · by_cases eq : q = c
        · subst eq
          rw [hi, frm_ext lo]
          unfold frm
          split
          · omega
          · have := h2 (q - 1) (by omega); omega
        · rw [lo q (by omega), frm_ext (fun j hj => lo j (by omega))]
          exact h1 q (by omega)
      · by_cases eq : q = c
        · subst eq; omega
        · rw [lo q (by omega)]; have := h2 q (by omega); omega
      · by_cases ex : x = N
        · subst ex
          rw [hS]
          exact hasN_iff.2 ⟨c, by omega, by rw [hi]⟩
        · rw [← h3 x (by omega)]
          cases hh : hasN h c (x : Int)
          · exact hasN_no.2 fun q hq he => by
              by_cases eq : q = c
              · subst eq; rw [hi] at he; omega
              · rw [lo q (by omega)] at he; exact hasN_no.1 hh q (by omega) he
          · obtain ⟨q, hq, he⟩ := hasN_iff.1 hh
            exact hasN_iff.2 ⟨q, by omega, by rw [lo q hq]; exact he⟩
theorem hasN_ext {m : Nat} {g g' : Nat → Nat} {x : Int} (h : ∀ q, q < m → g q = g' q) : hasN g m x = hasN g' m x := by
  cases hh : hasN g' m x
  · exact hasN_no.2 fun q hq he => hasN_no.1 hh q hq (by rw [← h q hq]; exact he)
  · obtain ⟨q, hq, he⟩ := hasN_iff.1 hh
    exact hasN_iff.2 ⟨q, hq, by rw [h q hq]; exact he⟩
theorem mayF_ext (P : Nat → Int) (l : Nat) : ExtM (mayF P l) := fun m g g' i h => by
  unfold mayF hitL
  simp only [hasN_ext h]
theorem goodC_ext (P : Nat → Int) (l : Nat) : ExtG (goodC P l) := fun m g g' h => by
  unfold goodC missL
  simp only [hasN_ext h]
theorem mayF_iff {P : Nat → Int} {l m : Nat} {g : Nat → Nat} {i : Nat} : mayF P l m g i = true ↔ ∀ q, q < l → ¬ (P (2 * q) = (i : Int) ∧ hasN g m (P (2 * q + 1)) = true) ∧ ¬ (P (2 * q + 1) = (i : Int) ∧ hasN g m (P (2 * q)) = true) := by
  unfold mayF
  rw [Bool.not_eq_true', anyB_false]
  constructor
  · intro h q hq
    have := h q hq
    unfold hitL at this
    simp at this
    refine ⟨fun ⟨a, b⟩ => ?_, fun ⟨a, b⟩ => ?_⟩
    · rw [this.1 a] at b; cases b
    · rw [this.2 a] at b; cases b
  · intro h q hq
    obtain ⟨a, b⟩ := h q hq
    unfold hitL
    simp
    refine ⟨fun e => ?_, fun e => ?_⟩
    · cases hh : hasN g m (P (2 * q + 1))
      · rfl
      · exact absurd ⟨e, hh⟩ a
    · cases hh : hasN g m (P (2 * q))
      · rfl
      · exact absurd ⟨e, hh⟩ b
theorem goodC_iff {P : Nat → Int} {l m : Nat} {g : Nat → Nat} : goodC P l m g = true ↔ ∀ q, q < l → hasN g m (P (2 * q)) = true ∨ hasN g m (P (2 * q + 1)) = true := by
  unfold goodC
  rw [Bool.not_eq_true', anyB_false]
  constructor
  · intro h q hq
    have := h q hq
    unfold missL at this
    cases h1 : hasN g m (P (2 * q))
    · cases h2 : hasN g m (P (2 * q + 1))
      · rw [h1, h2] at this; cases this
      · exact .inr rfl
    · exact .inl rfl
  · intro h q hq
    unfold missL
    rcases h q hq with e | e
    · rw [e]; rfl
    · rw [e, Bool.not_true, Bool.and_false]
/-- a set of K dots with no line inside it -/
def FreeS (N l : Nat) (P : Nat → Int) (K : Nat) : Prop := ∃ S : Nat → Bool, cntS S N = K ∧ ∀ q, q < l → ¬ (S (P (2 * q)).toNat = true ∧ S (P (2 * q + 1)).toNat = true)
def CoverS (N l : Nat) (P : Nat → Int) (K : Nat) : Prop := ∃ S : Nat → Bool, cntS S N = K ∧ ∀ q, q < l → S (P (2 * q)).toNat = true ∨ S (P (2 * q + 1)).toNat = true
theorem free_fnd {N l K : Nat} {P : Nat → Int} (hin : ∀ j, j < l → (0 ≤ P (2 * j) ∧ P (2 * j) < N) ∧ (0 ≤ P (2 * j + 1) ∧ P (2 * j + 1) < N)) (hne : ∀ j, j < l → P (2 * j) ≠ P (2 * j + 1)) :
    Fnd N (mayF P l) (fun _ _ => true) K 0 (fun _ => 0) ↔ FreeS N l P K := by
  rw [fnd_iff (mayF_ext P l) (fun _ _ _ _ => rfl)]
  constructor
  · rintro ⟨h, _, h2, _⟩
    refine ⟨fun x => hasN h K (x : Int), cnt_of_inc (fun q hq => (h2 q (by omega) (by omega)).1) (fun q hq => (h2 q (by omega) (by omega)).2.1), fun q hq => ?_⟩
    have hq0 := hin q hq
    rintro ⟨a, b⟩
    replace a : hasN h K (((P (2 * q)).toNat : Nat) : Int) = true := a
    replace b : hasN h K (((P (2 * q + 1)).toNat : Nat) : Int) = true := b
    rw [Int.toNat_of_nonneg hq0.1.1] at a
    rw [Int.toNat_of_nonneg hq0.2.1] at b
    obtain ⟨s, hs, es⟩ := hasN_iff.1 a
    obtain ⟨t, ht, et⟩ := hasN_iff.1 b
    rcases Nat.lt_trichotomy s t with e | e | e
    · have := (mayF_iff.1 (h2 t (by omega) (by omega)).2.2 q hq).2
      exact this ⟨et.symm, hasN_iff.2 ⟨s, e, es⟩⟩
    · subst e; exact hne q hq (es.symm.trans et)
    · have := (mayF_iff.1 (h2 s (by omega) (by omega)).2.2 q hq).1
      exact this ⟨es.symm, hasN_iff.2 ⟨t, e, et⟩⟩
  · rintro ⟨S, hc, hS⟩
    obtain ⟨h, h1, h2, h3⟩ := inc_of_cnt S N
    rw [hc] at h1 h2 h3
    refine ⟨h, fun q hq => absurd hq (Nat.not_lt_zero _), fun q _ hq => ⟨h1 q (by omega), h2 q (by omega), mayF_iff.2 fun j hj => ?_⟩, rfl⟩
    have hq0 := hin j hj
    have sub : ∀ x : Int, 0 ≤ x → x < N → hasN h q x = true → S x.toNat = true := fun x x0 xN hx => by
      rw [← h3 x.toNat (by omega), Int.toNat_of_nonneg x0]
      obtain ⟨t, ht, et⟩ := hasN_iff.1 hx
      exact hasN_iff.2 ⟨t, by omega, et⟩
    have self : S (h q) = true := by rw [← h3 (h q) (h2 q (by omega))]; exact hasN_iff.2 ⟨q, by omega, rfl⟩
    refine ⟨fun ⟨a, b⟩ => hS j hj ⟨by rw [a, Int.toNat_natCast]; exact self, sub _ hq0.2.1 hq0.2.2 b⟩, fun ⟨a, b⟩ => hS j hj ⟨sub _ hq0.1.1 hq0.1.2 b, by rw [a, Int.toNat_natCast]; exact self⟩⟩
theorem cover_fnd {N l K : Nat} {P : Nat → Int} (hin : ∀ j, j < l → (0 ≤ P (2 * j) ∧ P (2 * j) < N) ∧ (0 ≤ P (2 * j + 1) ∧ P (2 * j + 1) < N)) :
    Fnd N (fun _ _ _ => true) (goodC P l) K 0 (fun _ => 0) ↔ CoverS N l P K := by
  rw [fnd_iff (fun _ _ _ _ _ => rfl) (goodC_ext P l)]
  constructor
  · rintro ⟨h, _, h2, h3⟩
    rw [Nat.zero_add] at h3
    refine ⟨fun x => hasN h K (x : Int), cnt_of_inc (fun q hq => (h2 q (by omega) (by omega)).1) (fun q hq => (h2 q (by omega) (by omega)).2.1), fun q hq => ?_⟩
    have hq0 := hin q hq
    show hasN h K (((P (2 * q)).toNat : Nat) : Int) = true ∨ hasN h K (((P (2 * q + 1)).toNat : Nat) : Int) = true
    rw [Int.toNat_of_nonneg hq0.1.1, Int.toNat_of_nonneg hq0.2.1]
    exact goodC_iff.1 h3 q hq
  · rintro ⟨S, hc, hS⟩
    obtain ⟨h, h1, h2, h3⟩ := inc_of_cnt S N
    rw [hc] at h1 h2 h3
    refine ⟨h, fun q hq => absurd hq (Nat.not_lt_zero _), fun q _ hq => ⟨h1 q (by omega), h2 q (by omega), rfl⟩, ?_⟩
    rw [Nat.zero_add]
    refine goodC_iff.2 fun j hj => ?_
    have hq0 := hin j hj
    have e1 := h3 (P (2 * j)).toNat (by omega)
    have e2 := h3 (P (2 * j + 1)).toNat (by omega)
    rw [Int.toNat_of_nonneg hq0.1.1] at e1
    rw [Int.toNat_of_nonneg hq0.2.1] at e2
    rw [e1, e2]
    exact hS j hj
/-- so many are free just if the rest of them cover all lines -/
theorem turn_sets {N l K : Nat} {P : Nat → Int} (hK : K ≤ N) : FreeS N l P K ↔ CoverS N l P (N - K) := by
  constructor
  · rintro ⟨S, hc, hS⟩
    refine ⟨fun x => !(S x), by have := cntS_not S N; omega, fun q hq => ?_⟩
    have := hS q hq
    cases h1 : S (P (2 * q)).toNat
    · exact .inl (show (!(S (P (2 * q)).toNat)) = true by rw [h1]; rfl)
    · cases h2 : S (P (2 * q + 1)).toNat
      · exact .inr (show (!(S (P (2 * q + 1)).toNat)) = true by rw [h2]; rfl)
      · exact absurd ⟨h1, h2⟩ this
  · rintro ⟨S, hc, hS⟩
    refine ⟨fun x => !(S x), by have := cntS_not S N; omega, fun q hq => ?_⟩
    rintro ⟨a, b⟩
    replace a : (!(S (P (2 * q)).toNat)) = true := a
    replace b : (!(S (P (2 * q + 1)).toNat)) = true := b
    rcases hS q hq with e | e
    · rw [e] at a; cases a
    · rw [e] at b; cases b
end Go.Proofs.Ytkedkgmcdhmjiaa
