/- The clauses of a circuit: of how many values they are true. No condition. -/
import Derived.Test.YtkjppkghobdjoaaNameMore
import Derived.Test.YtkjppkghobdjoaaGrowLaw
import Derived.Test.YtkjppkghobdjoaaBit
namespace Go.Proofs.Ytkjppkghobdjoaa
set_option linter.unusedVariables false
/-- how many of the first k gates are no inputs -/
def nonI (F : Nat → Int) : Nat → Nat
  | 0 => 0
  | k + 1 => nonI F k + if F (3 * k) = 1 then 0 else 1
def vr (p : Nat) (F : Nat → Int) (j : Nat) : Nat := if F (3 * j) = 1 then (F (3 * j + 1)).toNat else p + nonI F j
theorem nonI_le (F : Nat → Int) {j k : Nat} (h : j ≤ k) : nonI F j ≤ nonI F k := by
  induction k with
  | zero => rw [Nat.le_zero.1 h]; exact Nat.le_refl _
  | succ k ih =>
    by_cases e : j = k + 1
    · rw [e]; exact Nat.le_refl _
    · have := ih (by omega); simp only [nonI]; omega
theorem nonI_lt (F : Nat → Int) {j k : Nat} (h : j < k) (hj : F (3 * j) ≠ 1) : nonI F j < nonI F k := by
  have := nonI_le F (show j + 1 ≤ k by omega)
  simp only [nonI] at this
  rw [if_neg hj] at this
  omega
theorem nonI_len (F : Nat → Int) (k : Nat) : nonI F k ≤ k := by
  induction k with
  | zero => exact Nat.le_refl _
  | succ k ih => simp only [nonI]; split <;> omega
theorem vr_lt {p j k : Nat} {F : Nat → Int} {n : Nat} (hg : GW (p : Int) F n) (hj : j < k) (hk : j < n) : vr p F j < p + nonI F k := by
  obtain ⟨_, _, h1, _, _⟩ := gE_zero (hg j hk)
  unfold vr
  split
  · rename_i e; obtain ⟨a, b⟩ := h1 e; omega
  · rename_i e; have := nonI_lt F hj e; omega
/-- what a gate that is no input makes of the values of variables -/
def opV (p : Nat) (F : Nat → Int) (h : Nat → Bool) (j : Nat) : Bool :=
  if F (3 * j) = 2 then !(h (vr p F (F (3 * j + 1)).toNat))
  else if F (3 * j) = 3 then h (vr p F (F (3 * j + 1)).toNat) && h (vr p F (F (3 * j + 2)).toNat)
  else h (vr p F (F (3 * j + 1)).toNat) || h (vr p F (F (3 * j + 2)).toNat)
def conV (p : Nat) (F : Nat → Int) (k : Nat) (h : Nat → Bool) : Prop := ∀ j, j < k → F (3 * j) ≠ 1 → h (vr p F j) = opV p F h j
theorem conV_succ {p : Nat} {F : Nat → Int} {k : Nat} {h : Nat → Bool} : conV p F (k + 1) h ↔ conV p F k h ∧ (F (3 * k) ≠ 1 → h (vr p F k) = opV p F h k) :=
  ⟨fun H => ⟨fun j hj => H j (by omega), H k (by omega)⟩, fun ⟨a, b⟩ j hj => by
    by_cases e : j = k
    · subst e; exact b
    · exact a j (by omega)⟩
theorem opV_congr {p : Nat} {F : Nat → Int} {n j : Nat} {h h' : Nat → Bool} (hg : GW (p : Int) F n) (hj : j < n) (hk : F (3 * j) ≠ 1) (H : ∀ v, v < p + nonI F j → h v = h' v) : opV p F h j = opV p F h' j := by
  obtain ⟨k1, k4, _, h2, h3⟩ := gE_zero (hg j hj)
  obtain ⟨a0, a1⟩ := h2 (by omega)
  have ea := H _ (vr_lt hg (j := (F (3 * j + 1)).toNat) (k := j) (by omega) (by omega))
  unfold opV
  rw [ea]
  by_cases e2 : F (3 * j) = 2
  · rw [if_pos e2, if_pos e2]
  · obtain ⟨b0, b1⟩ := h3 (by omega)
    have eb := H _ (vr_lt hg (j := (F (3 * j + 2)).toNat) (k := j) (by omega) (by omega))
    rw [eb]
theorem conV_congr {p : Nat} {F : Nat → Int} {n k : Nat} {h h' : Nat → Bool} (hg : GW (p : Int) F n) (hk : k ≤ n) (H : ∀ v, v < p + nonI F k → h v = h' v) : conV p F k h ↔ conV p F k h' := by
  have key : ∀ {h h' : Nat → Bool}, (∀ v, v < p + nonI F k → h v = h' v) → conV p F k h → conV p F k h' := fun {h h'} H C j hj hn => by
    rw [← H _ (vr_lt hg hj (by omega)), C j hj hn]
    exact opV_congr hg (by omega) hn fun v hv => H v (by have := nonI_le F (Nat.le_of_lt hj); omega)
  exact ⟨key H, key fun v hv => (H v hv).symm⟩
theorem val_gate {inn : Int} {F : Nat → Int} {n k : Nat} (h : GW inn F n) (hk : k < n) (g : Nat → Bool) :
    (F (3 * k) = 1 → val F g k = g (F (3 * k + 1)).toNat) ∧ (F (3 * k) = 2 → val F g k = !(val F g (F (3 * k + 1)).toNat)) ∧
    (F (3 * k) = 3 → val F g k = (val F g (F (3 * k + 1)).toNat && val F g (F (3 * k + 2)).toNat)) ∧
    (F (3 * k) = 4 → val F g k = (val F g (F (3 * k + 1)).toNat || val F g (F (3 * k + 2)).toNat)) := val_of h hk g
/-- where the clauses' conditions hold each gate's variable has the gate's value -/
theorem conV_val {p : Nat} {F : Nat → Int} {n : Nat} {h g : Nat → Bool} (hg : GW (p : Int) F n) (hin : ∀ v, v < p → h v = g v) (C : conV p F n h) : ∀ j, j < n → h (vr p F j) = val F g j := by
  intro j
  induction j using Nat.strongRecOn with
  | _ j ih =>
    intro hj
    obtain ⟨k1, k4, h1, h2, h3⟩ := gE_zero (hg j hj)
    obtain ⟨v1, v2, v3, v4⟩ := val_gate hg hj g
    by_cases e : F (3 * j) = 1
    · obtain ⟨a, b⟩ := h1 e
      rw [v1 e]
      unfold vr
      rw [if_pos e]
      exact hin _ (by omega)
    · rw [C j hj e]
      obtain ⟨a0, a1⟩ := h2 (by omega)
      unfold opV
      rw [ih _ (by omega) (by omega)]
      by_cases e2 : F (3 * j) = 2
      · rw [if_pos e2, v2 e2]
      · obtain ⟨b0, b1⟩ := h3 (by omega)
        rw [if_neg e2, ih (F (3 * j + 2)).toNat (by omega) (by omega)]
        by_cases e3 : F (3 * j) = 3
        · rw [if_pos e3, v3 e3]
        · rw [if_neg e3, v4 (by omega)]
theorem cntB_congr {f g : Nat → Bool} {k : Nat} (h : ∀ s, s < k → f s = g s) : cntB f k = cntB g k := by
  induction k with
  | zero => rfl
  | succ k ih => simp only [cntB]; rw [ih fun s hs => h s (by omega), h k (by omega)]
theorem cntB_add (f : Nat → Bool) (a b : Nat) : cntB f (a + b) = cntB f a + cntB (fun s => f (a + s)) b := by
  induction b with
  | zero => rfl
  | succ b ih => rw [Nat.add_succ]; simp only [cntB]; rw [ih]; omega
theorem cntB_two (f g q : Nat → Bool) (k : Nat) (h : ∀ s, s < k → (f s).toNat + (g s).toNat = (q s).toNat) : cntB f k + cntB g k = cntB q k := by
  induction k with
  | zero => rfl
  | succ k ih => simp only [cntB]; have := ih fun s hs => h s (by omega); have := h k (by omega); omega
theorem bitN_low {s q v : Nat} (hv : v < q) : bitN (2 ^ q + s) v = bitN s v := by
  unfold bitN
  have e : 2 ^ q + s = s + 2 ^ v * (2 * 2 ^ (q - v - 1)) := by
    rw [← Nat.mul_assoc, ← Nat.pow_succ, ← Nat.pow_add, show v.succ + (q - v - 1) = q by omega]; omega
  rw [e, Nat.add_mul_div_left _ _ (Nat.pow_pos (by omega))]
  congr 1
  apply propext
  omega
theorem bitN_top0 {s q : Nat} (h : s < 2 ^ q) : bitN s q = false := by
  unfold bitN; rw [Nat.div_eq_of_lt h]; rfl
theorem bitN_top1 {s q : Nat} (h : s < 2 ^ q) : bitN (2 ^ q + s) q = true := by
  unfold bitN
  rw [show 2 ^ q + s = s + 2 ^ q * 1 by omega, Nat.add_mul_div_left _ _ (Nat.pow_pos (by omega)), Nat.div_eq_of_lt h]; rfl
noncomputable def conB (p : Nat) (F : Nat → Int) (k : Nat) (h : Nat → Bool) : Bool := @decide (conV p F k h) (Classical.propDecidable _)
theorem conB_iff {p : Nat} {F : Nat → Int} {k : Nat} {h : Nat → Bool} : conB p F k h = true ↔ conV p F k h := @decide_eq_true_iff _ (Classical.propDecidable _)
theorem two_mod (p q s : Nat) (h : p ≤ q) : (2 ^ q + s) % 2 ^ p = s % 2 ^ p := by
  have : 2 ^ q = 2 ^ p * 2 ^ (q - p) := by rw [← Nat.pow_add]; congr 1; omega
  rw [this, Nat.add_comm, Nat.add_mul_mod_self_left]
/-- each gate's variable hangs on the inputs: as many values as there are inputs -/
theorem count_con {p : Nat} {F : Nat → Int} {n : Nat} (hg : GW (p : Int) F n) (P : Nat → Bool) : ∀ {k : Nat}, k ≤ n →
    cntB (fun s => conB p F k (bitN s) && P (s % 2 ^ p)) (2 ^ (p + nonI F k)) = cntB P (2 ^ p)
  | 0, _ => cntB_congr fun s hs => by
    rw [conB_iff.2 (fun j hj => absurd hj (Nat.not_lt_zero _)), Bool.true_and, show s % 2 ^ p = s from Nat.mod_eq_of_lt hs]
  | k + 1, hk => by
    rw [← count_con hg P (show k ≤ n by omega)]
    by_cases e : F (3 * k) = 1
    · rw [show nonI F (k + 1) = nonI F k by simp only [nonI]; rw [if_pos e]; rfl]
      exact cntB_congr fun s _ => by
        congr 1
        rw [Bool.eq_iff_iff, conB_iff, conB_iff, conV_succ]
        exact ⟨fun h => h.1, fun h => ⟨h, fun a => absurd e a⟩⟩
    · obtain ⟨q, hq⟩ : ∃ q, q = p + nonI F k := ⟨_, rfl⟩
      have hv : vr p F k = q := by unfold vr; rw [if_neg e, hq]
      rw [show p + nonI F (k + 1) = q + 1 by simp only [nonI]; rw [if_neg e, hq]; omega, Nat.pow_succ, Nat.mul_two, cntB_add, ← hq]
      refine cntB_two _ _ _ _ fun s hs => ?_
      rw [two_mod p q s (by omega)]
      have c0 : conB p F (k + 1) (bitN s) = (conB p F k (bitN s) && (false == opV p F (bitN s) k)) := by
        rw [Bool.eq_iff_iff, conB_iff, conV_succ, hv, bitN_top0 hs, Bool.and_eq_true, conB_iff, beq_iff_eq]
        exact ⟨fun h => ⟨h.1, h.2 e⟩, fun h => ⟨h.1, fun _ => h.2⟩⟩
      have c1 : conB p F (k + 1) (bitN (2 ^ q + s)) = (conB p F k (bitN s) && (true == opV p F (bitN s) k)) := by
        rw [Bool.eq_iff_iff, conB_iff, conV_succ, hv, bitN_top1 hs, Bool.and_eq_true, conB_iff, beq_iff_eq,
          conV_congr hg (by omega) (h' := bitN s) (fun v hv => bitN_low (by omega)), opV_congr hg (by omega) e (h' := bitN s) (fun v hv => bitN_low (by omega))]
        exact ⟨fun h => ⟨h.1, h.2 e⟩, fun h => ⟨h.1, fun _ => h.2⟩⟩
      rw [c0, c1]
      cases conB p F k (bitN s) <;> cases opV p F (bitN s) k <;> cases P (s % 2 ^ p) <;> rfl
theorem bit_mod {s p v : Nat} (h : v < p) : bitN s v = bitB (s % 2 ^ p) v := by
  have e : s % 2 ^ p / 2 ^ v % 2 = s / 2 ^ v % 2 := by
    have h1 : s = 2 ^ p * (s / 2 ^ p) + s % 2 ^ p := (Nat.div_add_mod s (2 ^ p)).symm
    have h2 : 2 ^ p = 2 ^ v * (2 * 2 ^ (p - v - 1)) := by rw [← Nat.mul_assoc, ← Nat.pow_succ, ← Nat.pow_add]; congr 1; omega
    conv => rhs; rw [h1, h2, Nat.mul_assoc, Nat.add_comm, Nat.add_mul_div_left _ _ (Nat.pow_pos (by omega))]
    rw [← h2]
    generalize s % 2 ^ p / 2 ^ v = t
    generalize 2 ^ (p - v - 1) = u
    generalize s / 2 ^ p = r
    rw [Nat.mul_assoc, Nat.add_mul_mod_self_left]
  unfold bitN bitB
  rw [e]
  have : s / 2 ^ v % 2 = 0 ∨ s / 2 ^ v % 2 = 1 := by omega
  rcases this with h | h <;> rw [h] <;> rfl
/-- THE LAW: the clauses of a circuit are true of as many values as there are inputs at which the circuit is -/
theorem many_same {p : Nat} {F : Nat → Int} {n m : Nat} {Y N : Nat → SI} (hg : GW (p : Int) F n) (h1 : 1 ≤ n)
    (H : ∀ h, isC m Y N h = true ↔ conV p F n h ∧ h (vr p F (n - 1)) = true) :
    manyC m Y N (p + nonI F n) = cntB (fun w => val F (bitB w) (n - 1)) (2 ^ p) := by
  rw [← count_con hg _ (Nat.le_refl n)]
  refine cntB_congr fun s _ => ?_
  rw [Bool.eq_iff_iff, H, Bool.and_eq_true, conB_iff]
  refine ⟨fun ⟨a, b⟩ => ⟨a, ?_⟩, fun ⟨a, b⟩ => ⟨a, ?_⟩⟩
  · rw [← conV_val hg (fun v hv => bit_mod hv) a _ (by omega)]; exact b
  · rw [conV_val hg (fun v hv => bit_mod hv) a _ (by omega)]; exact b
end Go.Proofs.Ytkjppkghobdjoaa
