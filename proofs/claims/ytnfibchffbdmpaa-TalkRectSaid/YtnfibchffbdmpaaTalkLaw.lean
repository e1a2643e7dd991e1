/- The plain law of how much must be said: by parts; turned round it is the same. No condition. -/
namespace Go.Proofs.Ytnfibchffbdmpaa
set_option linter.unusedVariables false
/-- the least of 9 and some numbers -/
def mnF (g : Nat → Nat) : Nat → Nat
  | 0 => 9
  | k + 1 => min (mnF g k) (g k)
theorem mn_le {g : Nat → Nat} : ∀ {k i}, i < k → mnF g k ≤ g i
  | k + 1, i, h => by
    show min (mnF g k) (g k) ≤ g i
    rcases Nat.lt_or_ge i k with l | l
    · have := mn_le (g := g) l; omega
    · rw [show i = k by omega]; omega
theorem mn_9 (g : Nat → Nat) : ∀ k, mnF g k ≤ 9
  | 0 => Nat.le_refl _
  | k + 1 => by have := mn_9 g k; show min (mnF g k) (g k) ≤ 9; omega
theorem mn_ge {g : Nat → Nat} {B : Nat} (h9 : B ≤ 9) : ∀ {k}, (∀ i, i < k → B ≤ g i) → B ≤ mnF g k
  | 0, _ => h9
  | k + 1, h => by
    have h1 := mn_ge h9 (k := k) fun i hi => h i (by omega)
    have h2 := h k (by omega)
    show B ≤ min (mnF g k) (g k)
    omega
theorem mn_congr {g g' : Nat → Nat} : ∀ {k}, (∀ i, i < k → g i = g' i) → mnF g k = mnF g' k
  | 0, _ => rfl
  | k + 1, h => by
    show min (mnF g k) (g k) = min (mnF g' k) (g' k)
    rw [mn_congr fun i hi => h i (by omega), h k (by omega)]
/-- what a cut of r at s costs: 9 where s is no part of r, or all of it, or nothing -/
def cuT (f : Nat → Nat) (r s : Nat) : Nat := if s ≠ 0 ∧ s ≠ r ∧ s &&& r = s then 1 + max (f s) (f (r ^^^ s)) else 9
/-- how much must be said of a part; al: has it one value alone? -/
def sayT (al : Nat → Nat → Bool) : Nat → Nat → Nat → Nat
  | 0, _, _ => 0
  | g + 1, r, c => if al r c = true then 0 else min (mnF (cuT (fun s => sayT al g s c) r) 16) (mnF (cuT (fun s => sayT al g r s) c) 16)
/-- turned round the same must be said -/
theorem say_turn {al al' : Nat → Nat → Bool} (h : ∀ r c, al' c r = al r c) : ∀ g r c, sayT al' g c r = sayT al g r c
  | 0, _, _ => rfl
  | g + 1, r, c => by
    unfold sayT
    rw [h r c]
    by_cases e : al r c = true
    · rw [if_pos e, if_pos e]
    · rw [if_neg e, if_neg e, Nat.min_comm]
      have e1 : mnF (cuT (fun s => sayT al' g c s) r) 16 = mnF (cuT (fun s => sayT al g s c) r) 16 := mn_congr fun s _ => by
        unfold cuT
        simp only [say_turn h g]
      have e2 : mnF (cuT (fun s => sayT al' g s r) c) 16 = mnF (cuT (fun s => sayT al g r s) c) 16 := mn_congr fun s _ => by
        unfold cuT
        simp only [say_turn h g]
      rw [e1, e2]
theorem say_same {al al' : Nat → Nat → Bool} (h : ∀ r c, al' r c = al r c) (g r c : Nat) : sayT al' g r c = sayT al g r c := by
  rw [show al' = al from funext fun r => funext fun c => h r c]
end Go.Proofs.Ytnfibchffbdmpaa
