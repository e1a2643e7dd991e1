/- What guess.Zeros counts: plain facts on digits by 7. No condition. -/
import Derived.Test.YtoodmoliglhpiaaZeroPred
import Derived.Test.YtoodmoliglhpiaaZeroMap
namespace Go.Proofs.Ytoodmoliglhpiaa
open Go.ChangeShapes Go.WideShapes Go.ChangeAt Go.RowKit Go.Maps PolyL
set_option linter.unusedVariables false
set_option linter.unusedSimpArgs false
def okZ (vars : Int) (n : Nat) (D : Nat → ST) : Prop := (1 ≤ vars ∧ vars ≤ 3) ∧ n ≤ 12 ∧ (∀ i, i < n → ((D i).s.n : Int) = vars) ∧ ∀ i, i < n → (0 ≤ (D i).t ∧ (D i).t < 7) ∧ ∀ q, q < (D i).s.n → 0 ≤ (D i).s.f q ∧ (D i).s.f q ≤ 8
/-- the degree -/
def DegR (m : Nat) (C : Nat → Int) (d : Int) : Prop := (d = -1 ∧ ∀ e, e < 7 ^ m → C e = 0) ∨ ∃ e, e < 7 ^ m ∧ C e ≠ 0 ∧ d = (dg m e : Nat) ∧ ∀ e', e' < 7 ^ m → C e' ≠ 0 → ((dg m e' : Nat) : Int) ≤ d
def ZeR (vars : Int) (n : Nat) (D : Nat → ST) (e : Ending) : Prop := ∃ z d e1, e = .returned (.tuple #[.int .i64 z, .int .i64 d, .int .i64 e1]) ∧ (¬ okZ vars n D → e1 ≠ 0) ∧ (okZ vars n D → e1 = 0 ∧ ∃ C : Nat → Int, (∀ e, 0 ≤ C e ∧ C e < 7) ∧ z = Zs vars.toNat C ∧ DegR vars.toNat C d)
theorem ZeR.bad {vars : Int} {n : Nat} {D : Nat → ST} {e : Ending} (e1 : Int) (h : e = .returned (.tuple #[.int .i64 0, .int .i64 0, .int .i64 e1])) (h1 : e1 ≠ 0) (hn : ¬ okZ vars n D) : ZeR vars n D e := ⟨0, 0, e1, h, fun _ => h1, fun h => absurd h hn⟩
/-- the first i factors -/
def pm : Nat → Nat → Nat → Int
  | 0, _, _ => 1
  | i + 1, e, r => pm i e r * ((kd r i : Nat) : Int) ^ kd e i
theorem pm_s (i e r : Nat) : pm (i + 1) e r = pm i e r * ((kd r i : Nat) : Int) ^ kd e i := rfl
theorem mon_pm {m : Nat} (hm : 1 ≤ m ∧ m ≤ 3) (e r : Nat) (he : e < 7 ^ m) : mon m e r = pm m e r := by
  have h : m = 1 ∨ m = 2 ∨ m = 3 := by omega
  rcases h with rfl | rfl | rfl
  · simp only [mon, pm, kd0]; grind
  · simp only [mon, pm, kd0, kd1]; grind
  · simp only [mon, pm, kd0, kd1, kd2, Nat.div_div_eq_div_mul]; grind
theorem dg_kd {m : Nat} (hm : 1 ≤ m ∧ m ≤ 3) {e : Nat} (he : e < 7 ^ m) : dg m e = kd e 0 + kd e 1 + kd e 2 := by
  have h : m = 1 ∨ m = 2 ∨ m = 3 := by omega
  rcases h with rfl | rfl | rfl
  · simp only [dg, kd0, kd1, kd2]; have : e < 7 := he; omega
  · simp only [dg, kd0, kd1, kd2, Nat.div_div_eq_div_mul]; have : e < 49 := he; omega
  · simp only [dg, kd0, kd1, kd2, Nat.div_div_eq_div_mul]; omega
theorem dg_le {m : Nat} (hm : 1 ≤ m ∧ m ≤ 3) {e : Nat} : dg m e ≤ 6 * m := by
  have h : m = 1 ∨ m = 2 ∨ m = 3 := by omega
  rcases h with rfl | rfl | rfl <;> simp only [dg] <;> omega
theorem pow_le {m : Nat} (hm : 1 ≤ m ∧ m ≤ 3) : 7 ^ m ≤ 343 := by
  have h : m = 1 ∨ m = 2 ∨ m = 3 := by omega
  rcases h with rfl | rfl | rfl <;> decide
/-- the next point -/
theorem kd_inc {m : Nat} (hm : 1 ≤ m ∧ m ≤ 3) (r i : Nat) (hi : i < m) (h6 : ∀ j, j < i → kd r j = 6) (hne : kd r i ≠ 6) : ∀ j, j < m → kd (r + 1) j = if j < i then 0 else if j = i then kd r i + 1 else kd r j := by
  intro j hj
  have hi3 : i = 0 ∨ i = 1 ∨ i = 2 := by omega
  have hj3 : j = 0 ∨ j = 1 ∨ j = 2 := by omega
  rcases hi3 with rfl | rfl | rfl
  · rw [kd0] at hne
    rcases hj3 with rfl | rfl | rfl
    · simp only [kd0, Nat.lt_irrefl, if_false, if_true]; omega
    · simp only [kd1, if_neg (show ¬ 1 < 0 by omega), if_neg (show ¬ 1 = 0 by omega)]; omega
    · simp only [kd2, if_neg (show ¬ 2 < 0 by omega), if_neg (show ¬ 2 = 0 by omega)]; omega
  · have h0 := h6 0 (by omega)
    rw [kd0] at h0
    rw [kd1] at hne
    rcases hj3 with rfl | rfl | rfl
    · simp only [kd0, if_pos (show 0 < 1 by omega)]; omega
    · simp only [kd1, if_neg (show ¬ 1 < 1 by omega), if_true]; omega
    · simp only [kd2, if_neg (show ¬ 2 < 1 by omega), if_neg (show ¬ 2 = 1 by omega)]; omega
  · have h0 := h6 0 (by omega)
    have h1 := h6 1 (by omega)
    rw [kd0] at h0
    rw [kd1] at h1
    rw [kd2] at hne
    rcases hj3 with rfl | rfl | rfl
    · simp only [kd0, if_pos (show 0 < 2 by omega)]; omega
    · simp only [kd1, if_pos (show 1 < 2 by omega)]; omega
    · simp only [kd2, if_neg (show ¬ 2 < 2 by omega), if_true]; omega
theorem kd_not_last {m : Nat} (hm : 1 ≤ m ∧ m ≤ 3) (r i : Nat) (hi : i < m) (hr : r < 7 ^ m) (hne : kd r i ≠ 6) : r + 1 < 7 ^ m := by
  have h : m = 1 ∨ m = 2 ∨ m = 3 := by omega
  have hi3 : i = 0 ∨ i = 1 ∨ i = 2 := by omega
  rcases h with rfl | rfl | rfl
  · have h1 : r < 7 := hr
    show r + 1 < 7
    obtain rfl : i = 0 := by omega
    rw [kd0] at hne; omega
  · have h1 : r < 49 := hr
    show r + 1 < 49
    rcases hi3 with rfl | rfl | rfl
    · rw [kd0] at hne; omega
    · rw [kd1] at hne; omega
    · omega
  · have h1 : r < 343 := hr
    show r + 1 < 343
    rcases hi3 with rfl | rfl | rfl
    · rw [kd0] at hne; omega
    · rw [kd1] at hne; omega
    · rw [kd2] at hne; omega
theorem kd_last {m : Nat} (hm : 1 ≤ m ∧ m ≤ 3) (r : Nat) (hr : r < 7 ^ m) (h6 : ∀ j, j < m → kd r j = 6) : r + 1 = 7 ^ m := by
  have h : m = 1 ∨ m = 2 ∨ m = 3 := by omega
  rcases h with rfl | rfl | rfl
  · have h1 : r < 7 := hr
    have := h6 0 (by omega); rw [kd0] at this
    show r + 1 = 7; omega
  · have h1 : r < 49 := hr
    have := h6 0 (by omega); rw [kd0] at this
    have := h6 1 (by omega); rw [kd1] at this
    show r + 1 = 49; omega
  · have h1 : r < 343 := hr
    have := h6 0 (by omega); rw [kd0] at this
    have := h6 1 (by omega); rw [kd1] at this
    have := h6 2 (by omega); rw [kd2] at this
    show r + 1 = 343; omega
/-- where the walk for the degree stands -/
def DgRel (m N : Nat) (C : Nat → Int) (left : Lit → Bool) (d : Int) : Prop := (d = -1 ∧ ∀ e, e < N → left (zk e) = false → C e = 0) ∨ ∃ e, e < N ∧ C e ≠ 0 ∧ d = (dg m e : Nat) ∧ ∀ e', e' < N → left (zk e') = false → C e' ≠ 0 → ((dg m e' : Nat) : Int) ≤ d
theorem has_zero {D : DataW Unit} {N : Nat} {C : Nat → Int} (h : MapZD D N C) {e : Nat} (he : e < 343) (hn : Maps.has D (zk e) = false) : C e = 0 := by
  have h1 := h.1 e he
  rw [atKey_of_not_has hn] at h1
  injection h1 with h1
  injection h1 with _ h1
  exact h1.symm
theorem DgRel.start {D : DataW Unit} {m N : Nat} {C : Nat → Int} (h : MapZD D N C) (hN : N ≤ 343) : DgRel m N C (Maps.has D) (-1) := .inl ⟨rfl, fun e he hn => has_zero h (by omega) hn⟩
theorem DgRel.zero {m N : Nat} {C : Nat → Int} {left : Lit → Bool} {d : Int} (h : DgRel m N C left d) (hN : N ≤ 343) {e : Nat} (he : e < N) (h0 : C e = 0) : DgRel m N C (fun z => left z && !z.sameKey (zk e)) d := by
  rcases h with ⟨h1, h2⟩ | ⟨e1, h1, h2, h3, h4⟩
  · refine .inl ⟨h1, fun e' he' hl => ?_⟩
    change (left (zk e') && !(zk e').sameKey (zk e)) = false at hl
    rw [left_next (by omega) (by omega)] at hl
    by_cases h5 : e' = e
    · subst h5; exact h0
    · rw [if_neg h5] at hl; exact h2 e' he' hl
  · refine .inr ⟨e1, h1, h2, h3, fun e' he' hl hne => ?_⟩
    change (left (zk e') && !(zk e').sameKey (zk e)) = false at hl
    rw [left_next (by omega) (by omega)] at hl
    by_cases h5 : e' = e
    · subst h5; exact absurd h0 hne
    · rw [if_neg h5] at hl; exact h4 e' he' hl hne
theorem DgRel.more {m N : Nat} {C : Nat → Int} {left : Lit → Bool} {d : Int} (h : DgRel m N C left d) (hN : N ≤ 343) {e : Nat} (he : e < N) (h0 : C e ≠ 0) : DgRel m N C (fun z => left z && !z.sameKey (zk e)) (if d < (dg m e : Nat) then ((dg m e : Nat) : Int) else d) := by
  have key : ∀ e', e' < N → (left (zk e') && !(zk e').sameKey (zk e)) = false → e' = e ∨ left (zk e') = false := fun e' he' hl => by
    rw [left_next (by omega) (by omega)] at hl
    by_cases h5 : e' = e
    · exact .inl h5
    · rw [if_neg h5] at hl; exact .inr hl
  rcases h with ⟨h1, h2⟩ | ⟨e1, h1, h2, h3, h4⟩
  · rw [if_pos (by omega)]
    refine .inr ⟨e, he, h0, rfl, fun e' he' hl hne => ?_⟩
    rcases key e' he' hl with h5 | h5
    · subst h5; exact Int.le_refl _
    · exact absurd (h2 e' he' h5) hne
  · by_cases hlt : d < (dg m e : Nat)
    · rw [if_pos hlt]
      refine .inr ⟨e, he, h0, rfl, fun e' he' hl hne => ?_⟩
      rcases key e' he' hl with h5 | h5
      · subst h5; exact Int.le_refl _
      · have := h4 e' he' h5 hne; omega
    · rw [if_neg hlt]
      refine .inr ⟨e1, h1, h2, h3, fun e' he' hl hne => ?_⟩
      rcases key e' he' hl with h5 | h5
      · subst h5; omega
      · exact h4 e' he' h5 hne
theorem DgRel.done {m : Nat} {C : Nat → Int} {left : Lit → Bool} {d : Int} (h : DgRel m (7 ^ m) C left d) (hl : ∀ kl, left kl = false) : DegR m C d := by
  rcases h with ⟨h1, h2⟩ | ⟨e1, h1, h2, h3, h4⟩
  · exact .inl ⟨h1, fun e he => h2 e he (hl _)⟩
  · exact .inr ⟨e1, h1, h2, h3, fun e' he' hne => h4 e' he' (hl _) hne⟩
/-- where the walk for the sum at point r stands -/
def SmRel (m N : Nat) (C : Nat → Int) (left : Lit → Bool) (r : Nat) (s : Int) : Prop := s % 7 = val m (fun e => if left (zk e) = true then 0 else C e) r % 7
theorem SmRel.start {D : DataW Unit} {m N : Nat} {C : Nat → Int} (h : MapZD D N C) (hN : N ≤ 343) (e7 : N = 7 ^ m) (r : Nat) : SmRel m N C (Maps.has D) r 0 := by
  unfold SmRel
  rw [val_congr m _ (fun _ => 0) r fun e he => ?_, val_nil m _ r fun _ => rfl]
  split
  · rfl
  · rename_i hh
    exact has_zero h (by omega) (by simpa using hh)
theorem SmRel.next {m N : Nat} {C : Nat → Int} {left : Lit → Bool} {r : Nat} {s : Int} (h : SmRel m N C left r s) (hN : N ≤ 343) (e7 : N = 7 ^ m) {e : Nat} (he : e < N) (hl : left (zk e) = true) (hm : 1 ≤ m ∧ m ≤ 3) : SmRel m N C (fun z => left z && !z.sameKey (zk e)) r (s + C e * pm m e r % 7) := by
  unfold SmRel at h ⊢
  have h1 : val m (fun e' => if (left (zk e') && !(zk e').sameKey (zk e)) = true then 0 else C e') r = val m (fun e' => (if left (zk e') = true then 0 else C e') + (if e' = e then C e else 0)) r := val_congr m _ _ r fun e' he' => by
    rw [left_next (by omega) (by omega)]
    by_cases h5 : e' = e
    · subst h5; rw [if_pos rfl, if_pos hl]; simp
    · rw [if_neg h5, if_neg h5]; simp
  rw [h1, val_add, val_one m e (C e) r (by omega), mon_pm hm e r (by omega)]
  omega
theorem SmRel.done {m N : Nat} {C : Nat → Int} {left : Lit → Bool} {r : Nat} {s : Int} (h : SmRel m N C left r s) (hl : ∀ kl, left kl = false) : s % 7 = val m C r % 7 := by
  unfold SmRel at h
  rw [h]
  congr 1
  exact val_congr m _ _ r fun e he => by rw [hl]; simp
/-- a power, one more -/
theorem pow_mod (n x : Int) (k : Nat) : n * x ^ k % 7 * x % 7 = n * x ^ (k + 1) % 7 := by
  rw [Int.pow_succ, ← Int.mul_assoc, Int.mul_emod (n * x ^ k % 7), Int.emod_emod_of_dvd _ (Int.dvd_refl 7), ← Int.mul_emod]
end Go.Proofs.Ytoodmoliglhpiaa
