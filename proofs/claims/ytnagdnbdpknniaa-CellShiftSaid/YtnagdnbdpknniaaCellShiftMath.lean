/- Plain numbers: rings turned round, and taken twice. No condition. -/
namespace Go.Proofs.Ytnagdnbdpknniaa.RingM
def rot (n p : Nat) (f : Nat → Bool) : Nat → Bool := fun i => if i < n - p then f (p + i) else f (i - (n - p))
theorem rot_eq {n p i : Nat} (hp : p < n) (hi : i < n) (f : Nat → Bool) : rot n p f i = f ((i + p) % n) := by
  unfold rot
  by_cases h : i < n - p
  · rw [if_pos h, Nat.mod_eq_of_lt (by omega), Nat.add_comm]
  · rw [if_neg h]
    congr 1
    rw [Nat.mod_eq_sub_mod (by omega), Nat.mod_eq_of_lt (by omega)]; omega
theorem shift_mod {n p i d : Nat} (_hp : p < n) : ((i + d) % n + p) % n = ((i + p) % n + d) % n := by
  rw [Nat.mod_add_mod, Nat.mod_add_mod]; congr 1; omega
def dbl (n : Nat) (f : Nat → Bool) : Nat → Bool := fun i => if i < n then f i else f (i - n)
theorem dbl_eq {n i : Nat} (hi : i < 2 * n) (f : Nat → Bool) : dbl n f i = f (i % n) := by
  unfold dbl
  by_cases h : i < n
  · rw [if_pos h, Nat.mod_eq_of_lt h]
  · rw [if_neg h, Nat.mod_eq_sub_mod (by omega), Nat.mod_eq_of_lt (by omega)]
theorem mod_two {n a : Nat} : a % (2 * n) % n = a % n := Nat.mod_mul_left_mod a 2 n
end Go.Proofs.Ytnagdnbdpknniaa.RingM
