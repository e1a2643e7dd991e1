/- What the reference's Bit computes. Conditions: the number is not negative. -/
import Derived.Test.YtklhbmlcpjlgiaaBits
namespace Go.Proofs.Ytklhbmlcpjlgiaa
open Go.ChangeShapes Go.WideShapes Go.ChangeAt Go.RowKit
set_option linter.unusedVariables false
theorem and_two_pow' (a i : Nat) : a &&& 2 ^ i = if a / 2 ^ i % 2 = 0 then 0 else 2 ^ i := by
  have ht : a.testBit i = decide (a / 2 ^ i % 2 = 1) := Nat.testBit_eq_decide_div_mod_eq
  by_cases hb : a / 2 ^ i % 2 = 0
  · rw [if_pos hb]
    apply Nat.eq_of_testBit_eq
    intro j
    rw [Nat.testBit_and, Nat.testBit_two_pow, Nat.zero_testBit]
    by_cases e : i = j
    · subst e; rw [ht, hb]; simp
    · simp [e]
  · rw [if_neg hb]
    have h1 : a / 2 ^ i % 2 = 1 := by omega
    apply Nat.eq_of_testBit_eq
    intro j
    rw [Nat.testBit_and, Nat.testBit_two_pow]
    by_cases e : i = j
    · subst e; rw [ht, h1]; simp
    · simp [e]
theorem pow_lt63 {i : Nat} (hi : i < 63) : 2 ^ i < 9223372036854775808 := by
  have : 2 ^ i < 2 ^ 63 := Nat.pow_lt_pow_right (by omega) hi
  have e : (2 : Nat) ^ 63 = 9223372036854775808 := by decide
  rw [e] at this; exact this
theorem and_bit (a i : Nat) (ha : a < 9223372036854775808) (hi : i < 63) : bits .and .i64 (a : Int) (2 ^ i) = if a / 2 ^ i % 2 = 0 then 0 else (2 : Int) ^ i := by
  have h := and_nat a (2 ^ i) ha (pow_lt63 hi)
  rw [and_two_pow'] at h
  have e : ((2 ^ i : Nat) : Int) = 2 ^ i := Int.natCast_pow 2 i
  rw [e] at h
  rw [h]
  by_cases hb : a / 2 ^ i % 2 = 0
  · rw [if_pos hb, if_pos hb]; rfl
  · rw [if_neg hb, if_neg hb]; exact e
/-- bit i of a -/
def bitB (a i : Nat) : Bool := if a / 2 ^ i % 2 = 0 then false else true
theorem bitB_no {a i : Nat} (h : a / 2 ^ i % 2 = 0) : bitB a i = false := by simp [bitB, h]
theorem bitB_yes {a i : Nat} (h : ¬ a / 2 ^ i % 2 = 0) : bitB a i = true := by simp [bitB, h]
set_option maxRecDepth 100000 in
theorem bit_any (a i : Nat) (w : World) (ha : a < 9223372036854775808) (hi : i < 63) :
    Calls Try.prog 21 #[.int .i64 a, .int .i64 i] w fun e w' => e = .returned (.bool (bitB a i)) ∧ w = w' := by
  have hz : ¬ ((2 : Int) ^ i = 0) := by
    have : (0 : Int) < 2 ^ i := Int.pow_pos (by omega)
    omega
  have hw : IntKind.i64.wrap ((2 : Int) ^ i) = 2 ^ i := by
    have h1 := pow_lt63 hi
    have e : ((2 ^ i : Nat) : Int) = 2 ^ i := Int.natCast_pow 2 i
    rw [← e]
    refine IntWalk.i64_in _ ⟨?_, ?_⟩
    · exact Int.le_trans (by decide) (Int.natCast_nonneg _)
    · have : ((2 ^ i : Nat) : Int) < 9223372036854775808 := Int.ofNat_lt.2 h1
      exact Int.le_of_lt_add_one this
  have hab := and_bit a i ha hi
  by_cases hb : a / 2 ^ i % 2 = 0
  · have hr := bitB_no hb
    rw [if_pos hb] at hab
    clear hb ha
    go_enter Try.func21, Try.ntmps21
    go_wp2_with fail
    go_ret
    exact ⟨ret_bool hr.symm, rfl⟩
  · have hr := bitB_yes hb
    rw [if_neg hb] at hab
    have hq : ((2 : Int) ^ i != 0) = true := by rw [bne_iff_ne]; exact hz
    clear hb ha
    go_enter Try.func21, Try.ntmps21
    go_wp2_with fail
    go_ret
    exact ⟨ret_bool hr.symm, rfl⟩
end Go.Proofs.Ytklhbmlcpjlgiaa
