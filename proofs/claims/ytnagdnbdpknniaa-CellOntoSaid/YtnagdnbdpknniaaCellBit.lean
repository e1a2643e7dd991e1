/- What cell.bit and cell.wrong compute. No condition. -/
import Derived.Test.YtnagdnbdpknniaaInside
import Derived.Test.YtnagdnbdpknniaaBits
import Derived.WalkSpells
import Derived.WalkLawsBesides
import Derived.BigQuiet
import Derived.Deep.QuietTactic
namespace Go.Proofs.Ytnagdnbdpknniaa
open Go.ChangeShapes Go.WideShapes Go.ChangeAt Go.RowKit
set_option linter.unusedVariables false
def bitI (b : Bool) : Int := if b then 1 else 0
theorem bit_any (b : Bool) (w : World) : Calls Try.prog 15 #[.bool b] w fun e w' => e = .returned (.int .i64 (bitI b)) ∧ w = w' := by
  cases b
  · go_enter Try.func15, Try.ntmps15
    go_wp2
    go_ret
    exact ⟨rfl, rfl⟩
  · go_enter Try.func15, Try.ntmps15
    go_wp2
    go_ret
    exact ⟨rfl, rfl⟩
theorem bit_any' (b : Bool) (w : World) : Calls Try.prog 15 #[.bool b] w fun e w' => e = .returned (.int .i64 (bitI b)) ∧ w' = w := (bit_any b w).mono fun _ _ ⟨a, b⟩ => ⟨a, b.symm⟩
theorem wrong_any (r : Int) (w : World) : Calls Try.prog 14 #[.int .i64 r] w fun e w' => e = .returned (.bool (!(inB 0 r 255))) ∧ w = w' := by
  by_cases h0 : r < 0
  · rw [inB_no (by omega)]
    go_enter Try.func14, Try.ntmps14
    go_wp2
    go_ret
    exact ⟨rfl, rfl⟩
  · by_cases h1 : 255 < r
    · rw [inB_no (by omega)]
      go_enter Try.func14, Try.ntmps14
      go_wp2
      go_ret
      exact ⟨rfl, rfl⟩
    · rw [inB_yes (by omega) (by omega)]
      go_enter Try.func14, Try.ntmps14
      go_wp2
      go_ret
      exact ⟨rfl, rfl⟩

end Go.Proofs.Ytnagdnbdpknniaa
