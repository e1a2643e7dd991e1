/- The plain law of talk.least's loops and of its memo: how much must be said, by its own values. No condition. -/
import Derived.Test.YtnfibchffbdmpaaTalkLaw
namespace Go.Proofs.Ytnfibchffbdmpaa
set_option linter.unusedVariables false
set_option synthInstance.maxHeartbeats 200000
set_option synthInstance.maxSize 1024
def pcT (x : Nat) : Nat := x % 2 + x / 2 % 2 + x / 4 % 2 + x / 8 % 2
theorem cut_facts : ∀ r : Nat, r < 16 → ∀ s : Nat, s < 16 → s ≠ 0 → s ≠ r → s &&& r = s → 1 ≤ pcT s ∧ 1 ≤ pcT (r ^^^ s) ∧ pcT s < pcT r ∧ pcT (r ^^^ s) < pcT r ∧ r ^^^ s < 16 ∧ r ^^^ s ≠ 0 ∧ s < r := by decide +kernel
theorem pc_facts : ∀ r : Nat, r < 16 → pcT r ≤ 4 ∧ (r ≠ 0 → 1 ≤ pcT r) := by decide +kernel
theorem cut_prev : ∀ r : Nat, r < 16 → ∀ s : Nat, s < 16 → s ≠ 0 → (s - 1) &&& r < s ∧ ((s - 1) &&& r) &&& r = (s - 1) &&& r ∧ (s - 1) &&& r < 16 := by decide +kernel
theorem cut_gap : ∀ r : Nat, r < 16 → ∀ s : Nat, s < 16 → s ≠ 0 → s &&& r = s → ∀ t : Nat, t < 16 → (s - 1) &&& r < t → t < s → t &&& r ≠ t := by decide +kernel
theorem cut_top : ∀ r : Nat, r < 16 → r &&& r = r ∧ ∀ t : Nat, t < 16 → r < t → t &&& r ≠ t := by decide +kernel
theorem say_fuel {al : Nat → Nat → Bool} : ∀ g r c, r < 16 → c < 16 → r ≠ 0 → c ≠ 0 → pcT r + pcT c ≤ g + 1 → ∀ g', g ≤ g' → sayT al g' r c = sayT al g r c
  | 0, r, c, hr, hc, r0, c0, hs, _, _ => by
    have h1 := (pc_facts r hr).2 r0
    have h2 := (pc_facts c hc).2 c0
    omega
  | g + 1, r, c, hr, hc, r0, c0, hs, g', hg => by
    obtain ⟨k, rfl⟩ : ∃ k, g' = k + 1 := ⟨g' - 1, by omega⟩
    unfold sayT
    by_cases e : al r c = true
    · rw [if_pos e, if_pos e]
    · rw [if_neg e, if_neg e]
      have e1 : mnF (cuT (fun s => sayT al k s c) r) 16 = mnF (cuT (fun s => sayT al g s c) r) 16 := mn_congr fun s hs16 => by
        unfold cuT
        by_cases h : s ≠ 0 ∧ s ≠ r ∧ s &&& r = s
        · obtain ⟨p1, p2, p3, p4, p5, p6, _⟩ := cut_facts r hr s hs16 h.1 h.2.1 h.2.2
          rw [if_pos h, if_pos h]
          dsimp only
          rw [say_fuel g s c hs16 hc h.1 c0 (by omega) k (by omega), say_fuel g (r ^^^ s) c p5 hc p6 c0 (by omega) k (by omega)]
        · rw [if_neg h, if_neg h]
      have e2 : mnF (cuT (fun s => sayT al k r s) c) 16 = mnF (cuT (fun s => sayT al g r s) c) 16 := mn_congr fun s hs16 => by
        unfold cuT
        by_cases h : s ≠ 0 ∧ s ≠ c ∧ s &&& c = s
        · obtain ⟨p1, p2, p3, p4, p5, p6, _⟩ := cut_facts c hc s hs16 h.1 h.2.1 h.2.2
          rw [if_pos h, if_pos h]
          dsimp only
          rw [say_fuel g r s hr hs16 r0 h.1 (by omega) k (by omega), say_fuel g r (c ^^^ s) hr p5 r0 p6 (by omega) k (by omega)]
        · rw [if_neg h, if_neg h]
      rw [e1, e2]
/-- how much must be said of a part -/
def SY (al : Nat → Nat → Bool) (r c : Nat) : Nat := sayT al 8 r c
theorem SY_fuel {al : Nat → Nat → Bool} {r c : Nat} (hr : r < 16) (hc : c < 16) (r0 : r ≠ 0) (c0 : c ≠ 0) (g : Nat) (hg : 7 ≤ g) : sayT al g r c = SY al r c := by
  have h1 := (pc_facts r hr).1
  have h2 := (pc_facts c hc).1
  have a := say_fuel (al := al) 7 r c hr hc r0 c0 (by omega) g hg
  have b := say_fuel (al := al) 7 r c hr hc r0 c0 (by omega) 8 (by omega)
  unfold SY
  rw [a, b]
/-- the cuts of the rows, of the columns -/
def cR (al : Nat → Nat → Bool) (r c : Nat) : Nat → Nat := cuT (fun s => SY al s c) r
def cC (al : Nat → Nat → Bool) (r c : Nat) : Nat → Nat := cuT (fun s => SY al r s) c
theorem SY_step {al : Nat → Nat → Bool} {r c : Nat} (hr : r < 16) (hc : c < 16) (r0 : r ≠ 0) (c0 : c ≠ 0) :
    SY al r c = if al r c = true then 0 else min (mnF (cR al r c) 16) (mnF (cC al r c) 16) := by
  have e1 : mnF (cuT (fun s => sayT al 7 s c) r) 16 = mnF (cR al r c) 16 := mn_congr fun s hs16 => by
    unfold cR cuT
    by_cases h : s ≠ 0 ∧ s ≠ r ∧ s &&& r = s
    · obtain ⟨p1, p2, p3, p4, p5, p6, _⟩ := cut_facts r hr s hs16 h.1 h.2.1 h.2.2
      rw [if_pos h, if_pos h]
      dsimp only
      rw [SY_fuel hs16 hc h.1 c0 7 (by omega), SY_fuel p5 hc p6 c0 7 (by omega)]
    · rw [if_neg h, if_neg h]
  have e2 : mnF (cuT (fun s => sayT al 7 r s) c) 16 = mnF (cC al r c) 16 := mn_congr fun s hs16 => by
    unfold cC cuT
    by_cases h : s ≠ 0 ∧ s ≠ c ∧ s &&& c = s
    · obtain ⟨p1, p2, p3, p4, p5, p6, _⟩ := cut_facts c hc s hs16 h.1 h.2.1 h.2.2
      rw [if_pos h, if_pos h]
      dsimp only
      rw [SY_fuel hr hs16 r0 h.1 7 (by omega), SY_fuel hr p5 r0 p6 7 (by omega)]
    · rw [if_neg h, if_neg h]
  rw [← e1, ← e2]
  rfl
theorem SY_9 {al : Nat → Nat → Bool} {r c : Nat} : SY al r c ≤ 9 := by
  unfold SY sayT
  split
  · omega
  · have := mn_9 (cuT (fun s => sayT al 7 s c) r) 16
    omega
/-- the least of the cuts above s -/
def upM (g : Nat → Nat) (s : Nat) : Nat := mnF (fun t => if s < t then g t else 9) 16
theorem cut_no {f : Nat → Nat} {r t : Nat} (h : t &&& r ≠ t) : cuT f r t = 9 := if_neg fun e => h e.2.2
theorem up_le {g : Nat → Nat} {s t : Nat} (h : s < t) (ht : t < 16) : upM g s ≤ g t := by
  have := mn_le (g := fun t => if s < t then g t else 9) ht
  simp only [if_pos h] at this
  exact this
theorem up_ge {g : Nat → Nat} {s B : Nat} (hB : B ≤ 9) (h : ∀ t, t < 16 → s < t → B ≤ g t) : B ≤ upM g s := mn_ge hB fun t ht => by
  by_cases e : s < t
  · simp only [if_pos e]; exact h t ht e
  · simp only [if_neg e]; exact hB
theorem up_9 (g : Nat → Nat) (s : Nat) : upM g s ≤ 9 := mn_9 _ _
theorem up_start {f : Nat → Nat} {r : Nat} (hr : r < 16) (r0 : r ≠ 0) : upM (cuT f r) ((r - 1) &&& r) = 9 := by
  apply Nat.le_antisymm (up_9 _ _)
  refine up_ge (Nat.le_refl _) fun t ht hlt => ?_
  rcases Nat.lt_trichotomy t r with k | k | k
  · rw [cut_no (cut_gap r hr r hr r0 (cut_top r hr).1 t ht hlt k)]; exact Nat.le_refl _
  · rw [k, show cuT f r r = 9 from if_neg fun e => e.2.1 rfl]; exact Nat.le_refl _
  · rw [cut_no ((cut_top r hr).2 t ht k)]; exact Nat.le_refl _
theorem up_step {f : Nat → Nat} {r s : Nat} (hr : r < 16) (hs : s < 16) (h0 : s ≠ 0) (hl : s &&& r = s) (hn : s ≠ r) : upM (cuT f r) ((s - 1) &&& r) = min (upM (cuT f r) s) (1 + max (f s) (f (r ^^^ s))) := by
  have hg : cuT f r s = 1 + max (f s) (f (r ^^^ s)) := if_pos ⟨h0, hn, hl⟩
  obtain ⟨n1, n2, _⟩ := cut_prev r hr s hs h0
  rw [← hg]
  apply Nat.le_antisymm
  · exact Nat.le_min.2 ⟨up_ge (up_9 _ _) fun t ht k => up_le (by omega) ht, up_le n1 hs⟩
  · refine up_ge (by have := up_9 (cuT f r) s; omega) fun t ht hlt => ?_
    rcases Nat.lt_trichotomy t s with k | k | k
    · rw [cut_no (cut_gap r hr s hs h0 hl t ht hlt k)]; have := up_9 (cuT f r) s; omega
    · rw [k]; exact Nat.min_le_right _ _
    · exact Nat.le_trans (Nat.min_le_left _ _) (up_le k ht)
theorem up_end {f : Nat → Nat} {r : Nat} : upM (cuT f r) 0 = mnF (cuT f r) 16 := by
  apply Nat.le_antisymm
  · refine mn_ge (up_9 _ _) fun t ht => ?_
    by_cases e : t = 0
    · rw [e, show cuT f r 0 = 9 from if_neg fun h => h.1 rfl]; exact up_9 _ _
    · exact up_le (by omega) ht
  · exact up_ge (mn_9 _ _) fun t ht _ => mn_le ht
attribute [irreducible] upM
/-- the numbers of entries that a part adds at most -/
def bndT : Nat → Nat
  | 0 => 1
  | g + 1 => 60 * bndT g + 1
def usT (B s : Nat) : Nat := (15 - s) * (2 * B)
theorem us_lt {B s s' : Nat} (h : s' < s) (h' : s ≤ 15) : usT B s + 2 * B ≤ usT B s' := by
  unfold usT
  have e : 15 - s' = (15 - s) + (s - s') := by omega
  obtain ⟨d, hd⟩ : ∃ d, s - s' = d + 1 := ⟨s - s' - 1, by omega⟩
  rw [e, hd, Nat.add_mul, Nat.add_mul, Nat.one_mul]
  have := Nat.zero_le (d * (2 * B))
  omega
theorem us_le {B s : Nat} : usT B s ≤ 30 * B := by
  unfold usT
  have h := Nat.mul_le_mul_right (2 * B) (show 15 - s ≤ 15 by omega)
  omega
attribute [irreducible] usT SY cR cC
end Go.Proofs.Ytnfibchffbdmpaa
