/- Orders that first count one up k times and then are others, k farther on: what they do. No condition. -/
import Derived.Test.YtmdcfbofjlpbmaaMoved
import Derived.Test.YtmdcfbofjlpbmaaCountMath
import Derived.Test.YtmdcfbofjlpbmaaCodeRun
namespace Go.Proofs.Ytmdcfbofjlpbmaa
set_option linter.unusedVariables false
theorem gvF_lo (F : Nat → Int) {k i : Nat} (h : i < k) : gvF F k (4 * i) = 1 ∧ gvF F k (4 * i + 1) = 0 ∧ gvF F k (4 * i + 2) = (i : Int) + 1 ∧ gvF F k (4 * i + 3) = 0 := by
  unfold gvF
  refine ⟨?_, ?_, ?_, ?_⟩
  · rw [if_pos (by omega), if_pos (by omega)]
  · rw [if_pos (by omega), if_neg (by omega), if_neg (by omega)]
  · rw [if_pos (by omega), if_neg (by omega), if_pos (by omega), show (4 * i + 2) / 4 = i by omega]
  · rw [if_pos (by omega), if_neg (by omega), if_neg (by omega)]
theorem gvF_hi (F : Nat → Int) (k i : Nat) : gvF F k (4 * (k + i)) = F (4 * i) ∧ gvF F k (4 * (k + i) + 1) = F (4 * i + 1) ∧ gvF F k (4 * (k + i) + 2) = F (4 * i + 2) + k ∧ gvF F k (4 * (k + i) + 3) = F (4 * i + 3) + k := by
  unfold gvF mvF
  refine ⟨?_, ?_, ?_, ?_⟩
  · rw [if_neg (by omega), if_neg (by omega), show 4 * (k + i) - 4 * k = 4 * i by omega]
  · rw [if_neg (by omega), if_neg (by omega), show 4 * (k + i) + 1 - 4 * k = 4 * i + 1 by omega]
  · rw [if_neg (by omega), if_pos (by omega), show 4 * (k + i) + 2 - 4 * k = 4 * i + 2 by omega]
  · rw [if_neg (by omega), if_pos (by omega), show 4 * (k + i) + 3 - 4 * k = 4 * i + 3 by omega]
theorem oE_gv {cs : Int} {n : Nat} {F : Nat → Int} (k : Nat) (hcs : 1 ≤ cs) (h : ∀ i, i < n → oE cs n F i = 0) : ∀ i, i < k + n → oE cs (k + n) (gvF F k) i = 0 := fun i hi => by
  unfold oE
  by_cases hik : i < k
  · obtain ⟨a, b, c, d⟩ := gvF_lo F hik
    rw [a, b, c, d, if_neg (by omega), if_neg (by omega), if_neg (by omega)]
  · obtain ⟨j, rfl⟩ : ∃ j, i = k + j := ⟨i - k, by omega⟩
    obtain ⟨a, b, c, d⟩ := gvF_hi F k j
    obtain ⟨o1, o2, o3, o4⟩ := oE_zero (h j (by omega))
    rw [a, b, c, d, if_neg (by omega), if_neg (by omega), if_neg (by omega)]
theorem runS_add (F : Nat → Int) (n : Nat) (C : Nat → Int) (a : Int) (i : Nat) : ∀ j, runS F n C a (i + j) = runS F n (runS F n C a i).1 (runS F n C a i).2 j
  | 0 => rfl
  | j + 1 => by
    show st1 F n (runS F n C a (i + j)) = st1 F n _
    rw [runS_add F n C a i j]
/-- the first k turns -/
theorem run_first (F : Nat → Int) (n k : Nat) (C : Nat → Int) : ∀ j, j ≤ k → runS (gvF F k) (k + n) C 0 j = (upd C 0 (C 0 + j), (j : Int))
  | 0, _ => by
    show (C, (0 : Int)) = _
    have : upd C 0 (C 0 + ((0 : Nat) : Int)) = C := by
      funext i; unfold upd
      by_cases e : i = 0
      · rw [if_pos e, e]; omega
      · rw [if_neg e]
    rw [this]; rfl
  | j + 1, h => by
    show st1 _ _ (runS _ _ C 0 j) = _
    rw [run_first F n k C j (by omega), st1_go (q := j) rfl (by omega)]
    obtain ⟨a, b, c, d⟩ := gvF_lo F (show j < k by omega)
    rw [a, b, c, d]
    have h1 : tC 1 0 (upd C 0 (C 0 + (j : Int))) = upd C 0 (C 0 + ((j + 1 : Nat) : Int)) := by
      unfold tC
      rw [if_pos rfl]
      funext i
      show upd (upd C 0 (C 0 + (j : Int))) 0 (upd C 0 (C 0 + (j : Int)) 0 + 1) i = _
      unfold upd
      by_cases e : i = 0
      · rw [if_pos e, if_pos e, if_pos rfl]; omega
      · rw [if_neg e, if_neg e, if_neg e]
    have h2 : tN 1 0 ((j : Int) + 1) 0 (upd C 0 (C 0 + (j : Int))) = ((j + 1 : Nat) : Int) := by
      unfold tN; rw [if_pos rfl]; omega
    rw [h1, h2]
/-- and then the others' -/
theorem run_then {cs : Int} {F : Nat → Int} {n : Nat} (hF : ∀ i, i < n → oE cs n F i = 0) (k : Nat) (C : Nat → Int) : ∀ j, runS (gvF F k) (k + n) C k j = ((runS F n C 0 j).1, (runS F n C 0 j).2 + k) ∧ 0 ≤ (runS F n C 0 j).2 ∧ (runS F n C 0 j).2 ≤ n
  | 0 => ⟨by show (C, (k : Int)) = (C, 0 + (k : Int)); rw [Int.zero_add], Int.le_refl _, by show (0 : Int) ≤ n; omega⟩
  | j + 1 => by
    obtain ⟨ih, p0, p1⟩ := run_then hF k C j
    show st1 _ _ (runS _ _ C k j) = ((st1 F n (runS F n C 0 j)).1, (st1 F n (runS F n C 0 j)).2 + k) ∧ 0 ≤ (st1 F n (runS F n C 0 j)).2 ∧ (st1 F n (runS F n C 0 j)).2 ≤ n
    rw [ih]
    generalize runS F n C 0 j = s at *
    obtain ⟨D, a⟩ := s
    obtain ⟨q, hq⟩ := Int.eq_ofNat_of_zero_le (show 0 ≤ a from p0)
    subst hq
    by_cases hlt : q < n
    · rw [st1_go (s := (D, (q : Int))) (q := q) rfl hlt, st1_go (s := (D, (q : Int) + (k : Int))) (q := k + q) (by show (q : Int) + k = _; omega) (by omega)]
      obtain ⟨a, b, c, d⟩ := gvF_hi F k q
      obtain ⟨o1, o2, o3, o4⟩ := oE_zero (hF q hlt)
      rw [a, b, c, d]
      show (tC _ _ D, tN _ _ _ _ D) = (tC _ _ D, tN _ _ _ _ D + k) ∧ 0 ≤ tN _ _ _ _ D ∧ tN _ _ _ _ D ≤ (n : Int)
      unfold tN
      by_cases h1 : F (4 * q) = 1
      · rw [if_pos h1, if_pos h1]; exact ⟨rfl, o3.1, o3.2⟩
      · rw [if_neg h1, if_neg h1]
        have h2 := o4 (by omega)
        split
        · exact ⟨rfl, h2.1, h2.2⟩
        · exact ⟨rfl, o3.1, o3.2⟩
    · rw [st1_stop (s := (D, (q : Int))) (by show ¬ (q : Int) < n; omega), st1_stop (s := (D, (q : Int) + (k : Int))) (by show ¬ (q : Int) + k < ((k + n : Nat) : Int); omega)]
      exact ⟨rfl, p0, p1⟩
/-- KLEENE: given the one number, or that much more to begin with -/
theorem given_law {cs : Int} {F : Nat → Int} {n k : Nat} (hF : ∀ i, i < n → oE cs n F i = 0) (C : Nat → Int) {T T2 : Nat} (hT : T + k ≤ T2) (h : ¬ (runS F n (upd C 0 (C 0 + k)) 0 T).2 < n) :
    runS (gvF F k) (k + n) C 0 T2 = ((runS F n (upd C 0 (C 0 + k)) 0 T2).1, (runS F n (upd C 0 (C 0 + k)) 0 T2).2 + k) := by
  obtain ⟨j, rfl⟩ : ∃ j, T2 = k + j := ⟨T2 - k, by omega⟩
  rw [runS_add, run_first F n k C k (Nat.le_refl k)]
  show runS (gvF F k) (k + n) (upd C 0 (C 0 + (k : Int))) (k : Int) j = _
  rw [(run_then hF k _ j).1]
  have e1 := (runS_stop h j (by omega)).1
  have e2 := (runS_stop h (k + j) (by omega)).1
  rw [e1, e2]
theorem gvF_zero (F : Nat → Int) : gvF F 0 = F := by
  funext q
  unfold gvF mvF
  rw [if_neg (by omega)]
  split <;> simp
end Go.Proofs.Ytmdcfbofjlpbmaa
