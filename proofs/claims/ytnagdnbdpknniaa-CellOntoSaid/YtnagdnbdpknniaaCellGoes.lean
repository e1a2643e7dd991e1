/- What the function inside cell.Single computes. Conditions: the rule lies from 0 to 255, the pairs from 0 to 15. -/
import Derived.Test.YtnagdnbdpknniaaCellBit
import Derived.Deep.QuietTactic
namespace Go.Proofs.Ytnagdnbdpknniaa
open Go.ChangeShapes Go.WideShapes Go.ChangeAt Go.RowKit
set_option linter.unusedVariables false
def gB (r : Int) (p q : Nat) : Bool := (p / 4 % 2 == q / 4 / 2) && (p % 4 % 2 == q % 4 / 2) && (r / 2 ^ (2 * (p / 4) + q / 4 % 2) % 2 == r / 2 ^ (2 * (p % 4) + q % 4 % 2) % 2)
set_option maxRecDepth 100000 in
theorem goes_any (r : Int) (p q Bx : Nat) (w : World) (r0 : 0 ≤ r) (r1 : r ≤ 255) (hp : p < 16) (hq : q < 16) (hb : w.cell? ⟨Bx, 0, none⟩ = some (.int .i64 r)) :
    Calls Try.prog 17 #[.int .i64 p, .int .i64 q, .pointer (some ⟨Bx, 0, none⟩)] w fun e w' => e = .returned (.bool (gB r p q)) ∧ Below w.heap.size w w' := by
  have a1 : bits BinOp.and IntKind.i64 (p : Int) 3 = ((p % 4 : Nat) : Int) := by rw [and_three (by omega) (by omega)]; omega
  have a2 : bits BinOp.and IntKind.i64 (q : Int) 3 = ((q % 4 : Nat) : Int) := by rw [and_three (by omega) (by omega)]; omega
  have d1 : (p : Int) / 2 ^ 2 = ((p / 4 : Nat) : Int) := by omega
  have d2 : (q : Int) / 2 ^ 2 = ((q / 4 : Nat) : Int) := by omega
  have d1' : (p : Int) / 4 = ((p / 4 : Nat) : Int) := by omega
  have d2' : (q : Int) / 4 = ((q / 4 : Nat) : Int) := by omega
  unfold gB
  obtain ⟨a, ha⟩ : ∃ a, a = p / 4 := ⟨_, rfl⟩
  obtain ⟨b, hb'⟩ : ∃ b, b = p % 4 := ⟨_, rfl⟩
  obtain ⟨c, hc⟩ : ∃ c, c = q / 4 := ⟨_, rfl⟩
  obtain ⟨d, hd⟩ : ∃ d, d = q % 4 := ⟨_, rfl⟩
  have al : a < 4 := by omega
  have bl : b < 4 := by omega
  have cl : c < 4 := by omega
  have dl : d < 4 := by omega
  rw [← ha, ← hb', ← hc, ← hd]
  rw [← hb'] at a1
  rw [← hd] at a2
  rw [← ha] at d1 d1'
  rw [← hc] at d2 d2'
  clear ha hb' hc hd
  have e1 : bits BinOp.and IntKind.i64 (a : Int) 1 = ((a % 2 : Nat) : Int) := by rw [and_one (by omega) (by omega)]; omega
  have e2 : bits BinOp.and IntKind.i64 (b : Int) 1 = ((b % 2 : Nat) : Int) := by rw [and_one (by omega) (by omega)]; omega
  have e3 : bits BinOp.and IntKind.i64 (c : Int) 1 = ((c % 2 : Nat) : Int) := by rw [and_one (by omega) (by omega)]; omega
  have e4 : bits BinOp.and IntKind.i64 (d : Int) 1 = ((d % 2 : Nat) : Int) := by rw [and_one (by omega) (by omega)]; omega
  have e5 : (c : Int) / 2 = ((c / 2 : Nat) : Int) := by omega
  have e6 : (d : Int) / 2 = ((d / 2 : Nat) : Int) := by omega
  have e5' : (c : Int) / 2 ^ 1 = ((c / 2 : Nat) : Int) := by omega
  have e6' : (d : Int) / 2 ^ 1 = ((d / 2 : Nat) : Int) := by omega
  have k1 : a % 2 < 2 := by omega
  have k2 : b % 2 < 2 := by omega
  have k3 : c % 2 < 2 := by omega
  have k4 : d % 2 < 2 := by omega
  have k5 : c / 2 < 2 := by omega
  have k6 : d / 2 < 2 := by omega
  generalize a % 2 = ma at *
  generalize b % 2 = mb at *
  generalize c % 2 = mc at *
  generalize d % 2 = md at *
  generalize c / 2 = hc at *
  generalize d / 2 = hd at *
  have hv1 := div_pow_bd r0 (2 * a + mc)
  have hv2 := div_pow_bd r0 (2 * b + md)
  have hb1 : bits BinOp.and IntKind.i64 (r / 2 ^ (2 * a + mc)) 1 = r / 2 ^ (2 * a + mc) % 2 := and_one (by omega) (by omega)
  have hb2 : bits BinOp.and IntKind.i64 (r / 2 ^ (2 * b + md)) 1 = r / 2 ^ (2 * b + md) % 2 := and_one (by omega) (by omega)
  by_cases q1 : ma = hc
  · subst q1
    by_cases q2 : mb = hd
    · subst q2
      go_enter Try.func17, Try.ntmps17
      go_wp2_with fail
      go_quiet (fail)
      go_wp2_with fail
      go_ret
      exact ⟨ret_bool (by simp), below_drewN (Below.refl _ _) nq⟩
    · have t2 : ((mb : Int) == (hd : Int)) = false := by simp; omega
      go_enter Try.func17, Try.ntmps17
      go_wp2_with fail
      go_quiet (fail)
      go_wp2_with fail
      go_ret
      exact ⟨ret_bool (by simp [q2]), below_drewN (Below.refl _ _) nq⟩
  · have t1 : ((ma : Int) == (hc : Int)) = false := by simp; omega
    go_enter Try.func17, Try.ntmps17
    go_wp2_with fail
    go_quiet (fail)
    go_wp2_with fail
    go_ret
    exact ⟨ret_bool (by simp [q1]), below_drewN (Below.refl _ _) nq⟩
end Go.Proofs.Ytnagdnbdpknniaa
