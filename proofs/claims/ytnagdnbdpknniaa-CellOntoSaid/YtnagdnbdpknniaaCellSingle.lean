/- What cell.Single computes. Conditions: the rule lies from 0 to 255. -/
import Derived.Test.YtnagdnbdpknniaaCellGoes
namespace Go.Proofs.Ytnagdnbdpknniaa
open Go.ChangeShapes Go.WideShapes Go.ChangeAt Go.RowKit
set_option linter.unusedVariables false
def frB (r : Int) (l p : Nat) : Nat → Bool
  | 0 => false
  | q + 1 => frB r l p q || (l.testBit q && gB r q p)
def toB (r : Int) (l p : Nat) : Nat → Bool
  | 0 => false
  | q + 1 => toB r l p q || (l.testBit q && gB r p q)
theorem frB_of {r : Int} {l p q : Nat} (h : l.testBit q = true) (hg : gB r q p = true) : ∀ {k : Nat}, q < k → frB r l p k = true
  | 0, hk => absurd hk (Nat.not_lt_zero _)
  | k + 1, hk => by
    show (frB r l p k || (l.testBit k && gB r k p)) = true
    by_cases e : q = k
    · subst e; rw [h, hg]; simp
    · rw [frB_of h hg (show q < k by omega)]; rfl
theorem toB_of {r : Int} {l p q : Nat} (h : l.testBit q = true) (hg : gB r p q = true) : ∀ {k : Nat}, q < k → toB r l p k = true
  | 0, hk => absurd hk (Nat.not_lt_zero _)
  | k + 1, hk => by
    show (toB r l p k || (l.testBit k && gB r p k)) = true
    by_cases e : q = k
    · subst e; rw [h, hg]; simp
    · rw [toB_of h hg (show q < k by omega)]; rfl
/-- pairs that can go on, either way -/
def Cl (r : Int) (W : Nat → Bool) : Prop := ∀ p, p < 16 → W p = true → (∃ q, q < 16 ∧ W q = true ∧ gB r q p = true) ∧ ∃ q, q < 16 ∧ W q = true ∧ gB r p q = true
def Kp (r : Int) (l : Nat) : Prop := ∀ W, Cl r W → ∀ p, p < 16 → W p = true → l.testBit p = true
theorem Kp.fr {r : Int} {l : Nat} (h : Kp r l) {W : Nat → Bool} (hW : Cl r W) {p : Nat} (hp : p < 16) (hw : W p = true) : frB r l p 16 = true ∧ toB r l p 16 = true := by
  obtain ⟨⟨q, hq, h1, h2⟩, q', hq', h1', h2'⟩ := hW p hp hw
  exact ⟨frB_of (h W hW q hq h1) h2 hq, toB_of (h W hW q' hq' h1') h2' hq'⟩
def clr (l p : Nat) : Nat := (BitVec.ofNat 32 l &&& ~~~ BitVec.ofNat 32 (2 ^ p)).toNat
theorem clr_le {l p : Nat} (hl : l < 65536) : clr l p ≤ l := by
  unfold clr
  rw [BitVec.toNat_and, BitVec.toNat_ofNat, Nat.mod_eq_of_lt (by omega)]
  exact Nat.and_le_left
theorem clr_bit {l p j : Nat} (hl : l < 65536) (hp : p < 16) (hj : j < 16) (hne : j ≠ p) (h : l.testBit j = true) : (clr l p).testBit j = true := by
  unfold clr
  rw [← BitVec.getLsbD, BitVec.getLsbD_and, BitVec.getLsbD_not, BitVec.getLsbD_ofNat, BitVec.getLsbD_ofNat, h, Nat.testBit_two_pow]
  simp; omega
theorem Kp.clr {r : Int} {l p : Nat} (hl : l < 65536) (h : Kp r l) (hp : p < 16) (hno : frB r l p 16 = false ∨ toB r l p 16 = false) : Kp r (clr l p) := fun W hW j hj hw => by
  by_cases e : j = p
  · subst e
    have := h.fr hW hj hw
    rw [this.1, this.2] at hno
    rcases hno with h | h <;> cases h
  · exact clr_bit hl hp hj e (h W hW j hj hw)
theorem shr_bit (l q : Nat) (hl : l < 65536) : (bits BinOp.and IntKind.u32 ((l : Int) / 2 ^ q) 1 == 1) = l.testBit q := by
  have e : (l : Int) / 2 ^ q = ((l / 2 ^ q : Nat) : Int) := by simp
  have hle : l / 2 ^ q ≤ l := Nat.div_le_self _ _
  have h1 : bits BinOp.and IntKind.u32 ((l / 2 ^ q : Nat) : Int) 1 = ((l / 2 ^ q % 2 : Nat) : Int) := by
    generalize l / 2 ^ q = y at *
    show IntKind.u32.wrap ((BitVec.ofInt 32 (y : Int) &&& BitVec.ofInt 32 ((1 : Nat) : Int)).toNat : Int) = _
    rw [BitVec.toNat_and, BitVec.ofInt_natCast, BitVec.ofInt_natCast, BitVec.toNat_ofNat, BitVec.toNat_ofNat, Nat.mod_eq_of_lt (by omega), Nat.mod_eq_of_lt (by omega), Nat.and_one_is_mod]
    rw [IntKind.wrap_u32]; omega
  rw [e, h1, Nat.testBit_eq_decide_div_mod_eq]
  have : l / 2 ^ q % 2 < 2 := Nat.mod_lt _ (by omega)
  generalize l / 2 ^ q % 2 = z at *
  have : z = 0 ∨ z = 1 := by omega
  rcases this with rfl | rfl <;> rfl
theorem andnot_bit (l p : Nat) (hl : l < 65536) (hp : p < 16) : bits BinOp.andNot IntKind.u32 (l : Int) (2 ^ p) = (clr l p : Int) := by
  have h1 := clr_le (p := p) hl
  have e : (2 : Int) ^ p = ((2 ^ p : Nat) : Int) := (Int.natCast_pow 2 p).symm
  rw [e]
  show IntKind.u32.wrap ((BitVec.ofInt 32 (l : Int) &&& ~~~ BitVec.ofInt 32 ((2 ^ p : Nat) : Int)).toNat : Int) = _
  rw [BitVec.ofInt_natCast, BitVec.ofInt_natCast]
  show IntKind.u32.wrap (clr l p : Int) = _
  rw [IntKind.wrap_u32]; omega
end Go.Proofs.Ytnagdnbdpknniaa
