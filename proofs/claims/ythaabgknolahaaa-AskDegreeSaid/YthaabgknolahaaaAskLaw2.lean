/- The plain law of what turns a word and of what proves it. Conditions: as each theorem states. -/
import Derived.Test.YthaabgknolahaaaAskLaw
namespace Go.Proofs.Ythaabgknolahaaa
set_option linter.unusedVariables false
set_option linter.unusedSimpArgs false
set_option synthInstance.maxHeartbeats 400000
set_option synthInstance.maxSize 4000
def mxF (g : Nat → Nat) : Nat → Nat
  | 0 => 0
  | k + 1 => max (mxF g k) (g k)
theorem mx_le {g : Nat → Nat} {B : Nat} : ∀ {k}, (∀ i, i < k → g i ≤ B) → mxF g k ≤ B
  | 0, _ => Nat.zero_le _
  | k + 1, h => by
    have h1 := mx_le (k := k) fun i hi => h i (by omega)
    have h2 := h k (by omega)
    show max (mxF g k) (g k) ≤ B
    omega
theorem mx_ge {g : Nat → Nat} : ∀ {k i}, i < k → g i ≤ mxF g k
  | k + 1, i, h => by
    show g i ≤ max (mxF g k) (g k)
    rcases Nat.lt_or_ge i k with l | l
    · have := mx_ge (g := g) l; omega
    · rw [show i = k by omega]; omega
/-- the bits below i that turn a word -/
def snF (F : Nat → Bool) (x : Nat) : Nat → Nat
  | 0 => 0
  | i + 1 => snF F x i + if F (x ^^^ 2 ^ i) = F x then 0 else 1
theorem sn_le (F : Nat → Bool) (x : Nat) : ∀ i, snF F x i ≤ i
  | 0 => Nat.le_refl _
  | i + 1 => by
    have := sn_le F x i
    unfold snF
    split <;> omega
/-- groups of bits of 'left' that turn a word each by itself -/
def grC (F : Nat → Bool) (r : Nat → Nat) (x left s : Nat) : Nat := if s ≠ 0 ∧ s &&& left = s ∧ F (x ^^^ s) ≠ F x then 1 + r (left ^^^ s) else 0
def grF (F : Nat → Bool) (x : Nat) : Nat → Nat → Nat
  | 0, _ => 0
  | g + 1, left => mxF (grC F (grF F x g) x left) 16
theorem sub_popc : ∀ l : Nat, l < 16 → ∀ s : Nat, s < 16 → s ≠ 0 → s &&& l = s → popc (l ^^^ s) + popc s = popc l ∧ l ^^^ s < l ∧ 1 ≤ popc s ∧ s ≤ l := by decide +kernel
theorem gr_le {F : Nat → Bool} {x : Nat} : ∀ {g left}, left < 16 → grF F x g left ≤ popc left
  | 0, _, _ => Nat.zero_le _
  | g + 1, left, h => mx_le fun s hs => by
    unfold grC
    split
    · rename_i hc
      obtain ⟨a, b, c, d⟩ := sub_popc left h s hs hc.1 hc.2.1
      have := gr_le (F := F) (x := x) (g := g) (left := left ^^^ s) (by omega)
      omega
    · exact Nat.zero_le _
theorem gr_fuel {F : Nat → Bool} {x : Nat} : ∀ {g g' left}, left < 16 → left < g → left < g' → grF F x g left = grF F x g' left
  | 0, _, _, _, h, _ => absurd h (Nat.not_lt_zero _)
  | _, 0, _, _, _, h => absurd h (Nat.not_lt_zero _)
  | g + 1, g' + 1, left, h, h1, h2 => by
    have e : ∀ s, s < 16 → grC F (grF F x g) x left s = grC F (grF F x g') x left s := fun s hs => by
      unfold grC
      by_cases hc : s ≠ 0 ∧ s &&& left = s ∧ F (x ^^^ s) ≠ F x
      · obtain ⟨a, b, c, d⟩ := sub_popc left h s hs hc.1 hc.2.1
        rw [if_pos hc, if_pos hc, gr_fuel (g := g) (g' := g') (left := left ^^^ s) (by omega) (by omega) (by omega)]
      · rw [if_neg hc, if_neg hc]
    rw [grF, grF]
    exact Nat.le_antisymm (mx_le fun s hs => by rw [e s hs]; exact mx_ge hs) (mx_le fun s hs => by rw [← e s hs]; exact mx_ge hs)
/-- with fuel enough -/
def grp (F : Nat → Bool) (x left : Nat) : Nat := grF F x 16 left
theorem grp_le {F : Nat → Bool} {x left : Nat} (h : left < 16) : grp F x left ≤ popc left := gr_le h
theorem grp_eq {F : Nat → Bool} {x left : Nat} (h : left < 16) : grp F x left = mxF (grC F (grp F x) x left) 16 := by
  have e : ∀ s, s < 16 → grC F (grF F x 15) x left s = grC F (grp F x) x left s := fun s hs => by
    unfold grC
    by_cases hc : s ≠ 0 ∧ s &&& left = s ∧ F (x ^^^ s) ≠ F x
    · obtain ⟨a, b, c, d⟩ := sub_popc left h s hs hc.1 hc.2.1
      rw [if_pos hc, if_pos hc, show grp F x (left ^^^ s) = grF F x 16 (left ^^^ s) from rfl, gr_fuel (g := 15) (g' := 16) (left := left ^^^ s) (by omega) (by omega) (by omega)]
    · rw [if_neg hc, if_neg hc]
  rw [show grp F x left = grF F x (15 + 1) left from rfl, grF]
  exact Nat.le_antisymm (mx_le fun s hs => by rw [e s hs]; exact mx_ge hs) (mx_le fun s hs => by rw [← e s hs]; exact mx_ge hs)
/-- the walk through the parts of 'left' from the greatest down: what is done when s is next -/
def dnF (c : Nat → Nat) (s : Nat) : Nat := mxF (fun t => if s < t then c t else 0) 16
theorem dn_ge {c : Nat → Nat} {s t : Nat} (h : s < t) (ht : t < 16) : c t ≤ dnF c s := by
  have := mx_ge (g := fun t => if s < t then c t else 0) ht
  simp only [if_pos h] at this
  exact this
theorem dn_le {c : Nat → Nat} {s B : Nat} (h : ∀ t, t < 16 → s < t → c t ≤ B) : dnF c s ≤ B := mx_le fun t ht => by
  by_cases e : s < t
  · simp only [if_pos e]; exact h t ht e
  · simp only [if_neg e]; exact Nat.zero_le _
attribute [irreducible] dnF
theorem sub_gap : ∀ l : Nat, l < 16 → ∀ s : Nat, s < 16 → s ≠ 0 → s &&& l = s → ∀ t : Nat, t < 16 → (s - 1) &&& l < t → t < s → t &&& l ≠ t := by decide +kernel
theorem sub_next : ∀ l : Nat, l < 16 → ∀ s : Nat, s < 16 → s ≠ 0 → (s - 1) &&& l < s ∧ ((s - 1) &&& l) &&& l = (s - 1) &&& l := by decide +kernel
theorem sub_top : ∀ l : Nat, l < 16 → l &&& l = l ∧ ∀ t : Nat, t < 16 → l < t → t &&& l ≠ t := by decide +kernel
theorem grC_no {F : Nat → Bool} {r : Nat → Nat} {x l t : Nat} (h : t &&& l ≠ t) : grC F r x l t = 0 := if_neg fun e => h e.2.1
theorem dn_start {F : Nat → Bool} {r : Nat → Nat} {x l : Nat} (h : l < 16) : dnF (grC F r x l) l = 0 := by
  have : dnF (grC F r x l) l ≤ 0 := dn_le fun t ht hlt => by rw [grC_no ((sub_top l h).2 t ht hlt)]; exact Nat.le_refl _
  omega
theorem dn_step {F : Nat → Bool} {r : Nat → Nat} {x l s : Nat} (h : l < 16) (hs : s < 16) (h0 : s ≠ 0) (hl : s &&& l = s) : dnF (grC F r x l) ((s - 1) &&& l) = max (dnF (grC F r x l) s) (grC F r x l s) := by
  obtain ⟨n1, n2⟩ := sub_next l h s hs h0
  apply Nat.le_antisymm
  · refine dn_le fun t ht hlt => ?_
    rcases Nat.lt_trichotomy t s with k | k | k
    · rw [grC_no (sub_gap l h s hs h0 hl t ht hlt k)]; exact Nat.zero_le _
    · rw [k]; exact Nat.le_max_right _ _
    · exact Nat.le_trans (dn_ge k ht) (Nat.le_max_left _ _)
  · exact Nat.max_le.2 ⟨dn_le fun t ht k => dn_ge (by omega) ht, dn_ge n1 hs⟩
theorem dn_end {F : Nat → Bool} {r : Nat → Nat} {x l : Nat} : dnF (grC F r x l) 0 = mxF (grC F r x l) 16 := by
  apply Nat.le_antisymm
  · exact dn_le fun t ht _ => mx_ge ht
  · refine mx_le fun t ht => ?_
    by_cases e : t = 0
    · rw [e, show grC F r x l 0 = 0 from if_neg fun h => h.1 rfl]; exact Nat.zero_le _
    · exact dn_ge (by omega) ht
/-- the fewest bits that prove a word, of the sets below k -/
def pfF (n : Nat) (F : Nat → Bool) (x : Nat) : Nat → Nat
  | 0 => n
  | k + 1 => if popc k < pfF n F x k ∧ smW F (2 ^ n) k x = true then popc k else pfF n F x k
theorem pf_le (n : Nat) (F : Nat → Bool) (x : Nat) : ∀ k, pfF n F x k ≤ n
  | 0 => Nat.le_refl _
  | k + 1 => by
    have := pf_le n F x k
    unfold pfF
    split <;> omega
theorem pf_min {n : Nat} {F : Nat → Bool} {x : Nat} : ∀ {m k}, k < m → smW F (2 ^ n) k x = true → pfF n F x m ≤ popc k
  | m + 1, k, h, hs => by
    unfold pfF
    rcases Nat.lt_or_ge k m with l | l
    · have := pf_min l hs
      split <;> omega
    · obtain rfl : k = m := by omega
      by_cases hc : popc k < pfF n F x k ∧ smW F (2 ^ n) k x = true
      · rw [if_pos hc]; exact Nat.le_refl _
      · rw [if_neg hc]
        by_cases h2 : popc k < pfF n F x k
        · exact absurd ⟨h2, hs⟩ hc
        · omega
theorem popc_full : ∀ n : Nat, n < 5 → popc (2 ^ n - 1) = n := by decide +kernel
theorem has_full : ∀ n : Nat, n < 5 → ∀ i : Nat, i < 4 → i < n → hasBit (2 ^ n - 1) i = true := by decide +kernel
/-- it is the number of some bits that prove the word -/
theorem pf_ex {n : Nat} (h4 : n ≤ 4) (F : Nat → Bool) {x : Nat} (hx : x < 2 ^ n) : ∀ m, m ≤ 2 ^ n → ∃ k, k < 2 ^ n ∧ smW F (2 ^ n) k x = true ∧ popc k = pfF n F x m
  | 0, _ => ⟨2 ^ n - 1, by have := (p16 h4).1; omega, sm_full h4 (by have := (p16 h4).1; omega) hx fun i hi => has_full n (by omega) i (by omega) hi, popc_full n (by omega)⟩
  | m + 1, h => by
    obtain ⟨k, a, b, c⟩ := pf_ex h4 F hx m (by omega)
    unfold pfF
    by_cases hc : popc m < pfF n F x m ∧ smW F (2 ^ n) m x = true
    · rw [if_pos hc]; exact ⟨m, by omega, hc.2, rfl⟩
    · rw [if_neg hc]; exact ⟨k, a, b, c⟩
def prf (n : Nat) (F : Nat → Bool) (x : Nat) : Nat := pfF n F x (2 ^ n)
end Go.Proofs.Ythaabgknolahaaa
