/- What math/bits.OnesCount tells of a number below 64. Condition: the number is below 64. -/
import Derived.Test.YtenlnkcmabphfaaPairsLaw
import Derived.Test.YtenlnkcmabphfaaBits
import Derived.Test.YtenlnkcmabphfaaRow
namespace Go.Proofs.Ytenlnkcmabphfaa
open Go.ChangeShapes Go.WideShapes Go.ChangeAt Go.RowKit
set_option linter.unusedVariables false
set_option linter.unusedSimpArgs false
set_option maxRecDepth 100000 in
set_option maxHeartbeats 2000000 in
theorem ones64P_any (u : Nat) (hu : u < 64) (w : World) : Calls Try.prog 29 #[.int .u64 u] w fun e w' => e = .returned (.int .i64 (cnP u)) ∧ w = w' := by
  have h : u = 0 ∨ u = 1 ∨ u = 2 ∨ u = 3 ∨ u = 4 ∨ u = 5 ∨ u = 6 ∨ u = 7 ∨ u = 8 ∨ u = 9 ∨ u = 10 ∨ u = 11 ∨ u = 12 ∨ u = 13 ∨ u = 14 ∨ u = 15 ∨ u = 16 ∨ u = 17 ∨ u = 18 ∨ u = 19 ∨ u = 20 ∨ u = 21 ∨ u = 22 ∨ u = 23 ∨ u = 24 ∨ u = 25 ∨ u = 26 ∨ u = 27 ∨ u = 28 ∨ u = 29 ∨ u = 30 ∨ u = 31 ∨ u = 32 ∨ u = 33 ∨ u = 34 ∨ u = 35 ∨ u = 36 ∨ u = 37 ∨ u = 38 ∨ u = 39 ∨ u = 40 ∨ u = 41 ∨ u = 42 ∨ u = 43 ∨ u = 44 ∨ u = 45 ∨ u = 46 ∨ u = 47 ∨ u = 48 ∨ u = 49 ∨ u = 50 ∨ u = 51 ∨ u = 52 ∨ u = 53 ∨ u = 54 ∨ u = 55 ∨ u = 56 ∨ u = 57 ∨ u = 58 ∨ u = 59 ∨ u = 60 ∨ u = 61 ∨ u = 62 ∨ u = 63 := by omega
  rcases h with rfl | rfl | rfl | rfl | rfl | rfl | rfl | rfl | rfl | rfl | rfl | rfl | rfl | rfl | rfl | rfl | rfl | rfl | rfl | rfl | rfl | rfl | rfl | rfl | rfl | rfl | rfl | rfl | rfl | rfl | rfl | rfl | rfl | rfl | rfl | rfl | rfl | rfl | rfl | rfl | rfl | rfl | rfl | rfl | rfl | rfl | rfl | rfl | rfl | rfl | rfl | rfl | rfl | rfl | rfl | rfl | rfl | rfl | rfl | rfl | rfl | rfl | rfl | rfl
  all_goals
    clear hu
    go_enter Try.func29, Try.ntmps29
    go_wp2_with fail
    go_ret
    exact ⟨ret_int (by decide +kernel), rfl⟩
set_option maxRecDepth 100000 in
theorem onesP_any (u : Nat) (hu : u < 64) (w : World) : Calls Try.prog 18 #[.int .u64 u] w fun e w' => e = .returned (.int .i64 (cnP u)) ∧ w = w' := by
  go_enter Try.func18, Try.ntmps18
  go_wp2_with (go_at_call 29; refine (ones64P_any u hu _).mono ?_; rintro e w' ⟨rfl, rfl⟩)
  go_ret
  exact ⟨rfl, rfl⟩
end Go.Proofs.Ytenlnkcmabphfaa
