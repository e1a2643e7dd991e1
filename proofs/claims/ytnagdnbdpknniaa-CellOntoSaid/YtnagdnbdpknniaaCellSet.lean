/- What cell.set computes. Conditions: the rule lies from 0 to 255, the set from 0 to 15. -/
import Derived.Test.YtnagdnbdpknniaaCellSetMath
namespace Go.Proofs.Ytnagdnbdpknniaa
open CellM Go.ChangeShapes Go.WideShapes Go.ChangeAt Go.RowKit
set_option linter.unusedVariables false
set_option maxRecDepth 100000 in
set_option maxHeartbeats 1000000 in
theorem set_any (r : Int) (s : Nat) (b : Bool) (w : World) (r0 : 0 ≤ r) (r1 : r ≤ 255) (hs : s ≤ 15) :
    Calls Try.prog 18 #[.int .i64 r, .int .i64 s, .int .i64 (bitI b)] w fun e w' => e = .returned (.int .i64 (nS r s b : Nat)) ∧ w = w' := by
  go_enter Try.func18, Try.ntmps18
  go_wp2
  go_loop [7, 11] (fun s7 s11 => ∃ t : Nat, t ≤ 4 ∧ s11 = .int .i64 (t : Nat) ∧ s7 = .int .i64 (oN r s b (2 * t) : Nat)) (fun _ s11 => 4 - (intOf s11).toNat)
  case atStart => exact ⟨0, Nat.zero_le _, rfl, rfl⟩
  case round =>
    obtain ⟨t, ht, rfl, rfl⟩ := hrel
    by_cases hlt4 : t < 4
    · go_wp2
      go_loop [7, 14] (fun s7 s14 => ∃ u : Nat, u ≤ 2 ∧ s14 = .int .i64 (u : Nat) ∧ s7 = .int .i64 (oN r s b (2 * t + u) : Nat)) (fun _ s14 => 2 - (intOf s14).toNat)
      case atStart => exact ⟨0, Nat.zero_le _, rfl, rfl⟩
      case round =>
        obtain ⟨u, hu, rfl, rfl⟩ := hrel
        by_cases hlt2 : u < 2
        · have hol := oN_lt r s b (2 * t + u)
          obtain ⟨X, hX⟩ : ∃ X, X = oN r s b (2 * t + u) := ⟨_, rfl⟩
          have hnx : oN r s b (2 * t + u + 1) = if (s / 2 ^ ((2 * t + u) / 2)) % 2 = 1 ∧ hit r b (2 * t + u) then oN r s b (2 * t + u) ||| 2 ^ ((2 * t + u) % 4) else oN r s b (2 * t + u) := rfl
          rw [← hX] at hol hnx ⊢
          rw [show (2 * t + u) / 2 = t by omega] at hnx
          have HNX := Lib.hid hnx
          have hx : bits BinOp.and IntKind.i64 (2 * (t : Int) + (u : Int)) 3 = (((2 * t + u) % 4 : Nat) : Int) := by rw [and_three (by omega) (by omega)]; omega
          have hdiv := div_pow_bd r0 (2 * t + u)
          have hds : (s : Int) / 2 ^ t = ((s / 2 ^ t : Nat) : Int) := by simp
          have hdsl : s / 2 ^ t ≤ s := Nat.div_le_self _ _
          have hand : bits BinOp.and IntKind.i64 ((s : Int) / 2 ^ t) 1 = ((s / 2 ^ t % 2 : Nat) : Int) := by rw [hds]; generalize s / 2 ^ t = y at *; rw [and_one (by omega) (by omega)]; omega
          have hor : bits BinOp.or IntKind.i64 (X : Int) (2 ^ ((2 * t + u) % 4)) = ((X ||| 2 ^ ((2 * t + u) % 4) : Nat) : Int) := by
            have hp : 2 ^ ((2 * t + u) % 4) < 2 ^ 4 := Nat.pow_lt_pow_right (by omega) (by omega)
            rw [← or_nat X (2 ^ ((2 * t + u) % 4)) (by omega) (by omega)]
            congr 1
          have HOR := Lib.hid hor
          have HWP : Hid (wrap64 ((2 : Int) ^ ((2 * t + u) % 4)) = 2 ^ ((2 * t + u) % 4)) := Lib.hid (by
            have hp : 2 ^ ((2 * t + u) % 4) < 2 ^ 4 := Nat.pow_lt_pow_right (by omega) (by omega)
            have e : ((2 ^ ((2 * t + u) % 4) : Nat) : Int) = 2 ^ ((2 * t + u) % 4) := Int.natCast_pow 2 _
            rw [← e]
            generalize 2 ^ ((2 * t + u) % 4) = Y at hp
            exact IntWalk.wrap64_in _ (by omega))
          clear hor
          by_cases h1 : (s / 2 ^ t) % 2 = 1
          · have q1 : (bits BinOp.and IntKind.i64 ((s : Int) / 2 ^ t) 1 == 1) = true := by rw [hand, h1]; rfl
            by_cases hh : hit r b (2 * t + u)
            · have q2 : (bits BinOp.and IntKind.i64 (r / 2 ^ (2 * t + u)) 1 == bitI b) = true := by
                rw [and_one (by omega) (by omega), beq_iff_eq]; exact hh
              have H1 := Lib.hid (And.intro h1 hh)
              clear h1 hh hnx hds hand hX
              go_wp2
              go_round
              case rel => exact ⟨u + 1, by omega, by go_num, by rw [← Nat.add_assoc, HNX.out, if_pos H1.out, HWP.out, HOR.out]⟩
              case measure => simp [intOf]; omega
            · have q2 : (bits BinOp.and IntKind.i64 (r / 2 ^ (2 * t + u)) 1 == bitI b) = false := by
                rw [and_one (by omega) (by omega), beq_eq_false_iff_ne]; exact hh
              have H1 : Hid (¬ ((s / 2 ^ t) % 2 = 1 ∧ hit r b (2 * t + u))) := Lib.hid (fun h => hh h.2)
              clear h1 hh hnx hds hand hX
              go_wp2
              go_round
              case rel => exact ⟨u + 1, by omega, by go_num, by rw [← Nat.add_assoc, HNX.out, if_neg H1.out]⟩
              case measure => simp [intOf]; omega
          · have q1 : (bits BinOp.and IntKind.i64 ((s : Int) / 2 ^ t) 1 == 1) = false := by rw [hand, beq_eq_false_iff_ne]; omega
            have H1 : Hid (¬ ((s / 2 ^ t) % 2 = 1 ∧ hit r b (2 * t + u))) := Lib.hid (fun h => h1 h.1)
            clear h1 hnx hds hand hX
            go_wp2
            go_round
            case rel => exact ⟨u + 1, by omega, by go_num, by rw [← Nat.add_assoc, HNX.out, if_neg H1.out]⟩
            case measure => simp [intOf]; omega
        · obtain rfl : u = 2 := by omega
          go_wp2
          go_round
          case rel => exact ⟨t + 1, by omega, by go_num, rfl⟩
          case measure => simp [intOf]; omega
    · obtain rfl : t = 4 := by omega
      go_wp2
      go_ret
      exact ⟨rfl, rfl⟩
end Go.Proofs.Ytnagdnbdpknniaa
