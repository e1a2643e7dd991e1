/- The trick by which bits are counted, looked at for all numbers below 65536. No condition. -/
import Derived.Test.YtnfibchffbdmpaaLib
namespace Go.Proofs.Ytnfibchffbdmpaa
open Go.ChangeShapes Go.WideShapes Go.ChangeAt Go.RowKit
set_option linter.unusedVariables false
set_option linter.unusedSimpArgs false
/-- the bits that are set among the first k -/
def popN : Nat → Nat → Nat
  | 0, _ => 0
  | k + 1, u => Nat.add (Nat.mod u 2) (popN k (Nat.div u 2))
def oW1 (u : Nat) : Nat := Nat.add (Nat.land (Nat.div u 2) 6148914691236517205) (Nat.land u 6148914691236517205)
def oW2 (u : Nat) : Nat := Nat.add (Nat.land (Nat.div u 4) 3689348814741910323) (Nat.land u 3689348814741910323)
def oW3 (u : Nat) : Nat := Nat.land (Nat.add (Nat.div u 16) u) 1085102592571150095
def oW4 (u : Nat) : Nat := Nat.add u (Nat.div u 256)
def oW5 (u : Nat) : Nat := Nat.add u (Nat.div u 65536)
def oW6 (u : Nat) : Nat := Nat.add u (Nat.div u 4294967296)
def oWf (u : Nat) : Nat := Nat.land (oW6 (oW5 (oW4 (oW3 (oW2 (oW1 u)))))) 127
def chkW : Nat → Nat → Bool
  | _, 0 => true
  | b, k + 1 => Bool.and (Nat.beq (oWf (Nat.add b k)) (popN 16 (Nat.add b k))) (chkW b k)
theorem chkW_at {b k : Nat} (h : chkW b k = true) : ∀ i, i < k → oWf (b + i) = popN 16 (b + i) := by
  induction k with
  | zero => exact fun i hi => absurd hi (Nat.not_lt_zero _)
  | succ k ih =>
    intro i hi
    have h' : (Nat.beq (oWf (Nat.add b k)) (popN 16 (Nat.add b k)) && chkW b k) = true := h
    rw [Bool.and_eq_true] at h'
    by_cases e : i = k
    · rw [e]; exact Nat.eq_of_beq_eq_true h'.1
    · exact ih h'.2 i (by omega)
theorem chkW_0 : chkW 0 16384 = true := by decide +kernel
theorem chkW_1 : chkW 16384 16384 = true := by decide +kernel
theorem chkW_2 : chkW 32768 16384 = true := by decide +kernel
theorem chkW_3 : chkW 49152 16384 = true := by decide +kernel
theorem oWf_pop {u : Nat} (h : u < 65536) : oWf u = popN 16 u := by
  rcases Nat.lt_or_ge u 16384 with a | a
  · have := chkW_at chkW_0 u a; rwa [Nat.zero_add] at this
  · rcases Nat.lt_or_ge u 32768 with b | b
    · have := chkW_at chkW_1 (u - 16384) (by omega); rwa [show 16384 + (u - 16384) = u by omega] at this
    · rcases Nat.lt_or_ge u 49152 with c | c
      · have := chkW_at chkW_2 (u - 32768) (by omega); rwa [show 32768 + (u - 32768) = u by omega] at this
      · have := chkW_at chkW_3 (u - 49152) (by omega); rwa [show 49152 + (u - 49152) = u by omega] at this
end Go.Proofs.Ytnfibchffbdmpaa
