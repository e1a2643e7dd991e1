/- What math/bits.OnesCount tells of a number below 16. Condition: the number is below 16. -/
import Derived.Test.YthaabgknolahaaaBits
namespace Go.Proofs.Ythaabgknolahaaa
open Go.ChangeShapes Go.WideShapes Go.ChangeAt Go.RowKit
set_option linter.unusedVariables false
def popc (u : Nat) : Nat := u % 2 + u / 2 % 2 + u / 4 % 2 + u / 8 % 2
theorem lt16 {u : Nat} (h : u < 16) : u = 0 ∨ u = 1 ∨ u = 2 ∨ u = 3 ∨ u = 4 ∨ u = 5 ∨ u = 6 ∨ u = 7 ∨ u = 8 ∨ u = 9 ∨ u = 10 ∨ u = 11 ∨ u = 12 ∨ u = 13 ∨ u = 14 ∨ u = 15 := by omega
set_option maxRecDepth 100000 in
theorem ones64_any (u : Nat) (hu : u < 16) (w : World) : Calls Try.prog 26 #[.int .u64 u] w fun e w' => e = .returned (.int .i64 (popc u)) ∧ w = w' := by
  rcases lt16 hu with rfl | rfl | rfl | rfl | rfl | rfl | rfl | rfl | rfl | rfl | rfl | rfl | rfl | rfl | rfl | rfl
  all_goals
    clear hu
    go_enter Try.func26, Try.ntmps26
    go_wp2_with fail
    go_ret
    exact ⟨ret_int (by decide +kernel), rfl⟩
set_option maxRecDepth 100000 in
theorem ones_any (u : Nat) (hu : u < 16) (w : World) : Calls Try.prog 20 #[.int .u64 u] w fun e w' => e = .returned (.int .i64 (popc u)) ∧ w = w' := by
  go_enter Try.func20, Try.ntmps20
  go_wp2_with (go_at_call 26; refine (ones64_any u hu _).mono ?_; rintro e w' ⟨rfl, rfl⟩)
  go_ret
  exact ⟨rfl, rfl⟩
end Go.Proofs.Ythaabgknolahaaa
