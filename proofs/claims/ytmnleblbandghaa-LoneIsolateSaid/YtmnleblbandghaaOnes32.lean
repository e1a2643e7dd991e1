/- What math/bits.OnesCount32 tells of a number below 32. Condition: the number is below 32. -/
import Derived.Test.YtmnleblbandghaaLib
import Derived.Lib.Tables
import Derived.BigQuiet
import Derived.Deep.QuietTactic
namespace Go.Proofs.Ytmnleblbandghaa
open Go.ChangeShapes Go.WideShapes Go.ChangeAt Go.RowKit
set_option linter.unusedVariables false
def popc5 (u : Nat) : Nat := u % 2 + u / 2 % 2 + u / 4 % 2 + u / 8 % 2 + u / 16 % 2
theorem lt32 {u : Nat} (h : u < 32) : u = 0 ∨ u = 1 ∨ u = 2 ∨ u = 3 ∨ u = 4 ∨ u = 5 ∨ u = 6 ∨ u = 7 ∨ u = 8 ∨ u = 9 ∨ u = 10 ∨ u = 11 ∨ u = 12 ∨ u = 13 ∨ u = 14 ∨ u = 15 ∨ u = 16 ∨ u = 17 ∨ u = 18 ∨ u = 19 ∨ u = 20 ∨ u = 21 ∨ u = 22 ∨ u = 23 ∨ u = 24 ∨ u = 25 ∨ u = 26 ∨ u = 27 ∨ u = 28 ∨ u = 29 ∨ u = 30 ∨ u = 31 := by omega
theorem pop8_5 {u : Nat} (h : u < 32) : Lib.pop8 (u : Int) = (popc5 u : Int) := by
  rcases lt32 h with rfl | rfl | rfl | rfl | rfl | rfl | rfl | rfl | rfl | rfl | rfl | rfl | rfl | rfl | rfl | rfl | rfl | rfl | rfl | rfl | rfl | rfl | rfl | rfl | rfl | rfl | rfl | rfl | rfl | rfl | rfl | rfl <;> decide +kernel
theorem and255 {u : Nat} (h : u < 32) : bits .and .u32 (u : Int) 255 = (u : Int) := by
  rcases lt32 h with rfl | rfl | rfl | rfl | rfl | rfl | rfl | rfl | rfl | rfl | rfl | rfl | rfl | rfl | rfl | rfl | rfl | rfl | rfl | rfl | rfl | rfl | rfl | rfl | rfl | rfl | rfl | rfl | rfl | rfl | rfl | rfl <;> decide +kernel
set_option maxRecDepth 100000 in
theorem ones32_any (u : Nat) (hu : u < 32) (w : World) : Calls Try.prog 30 #[.int .u32 u] w fun e w' => e = .returned (.int .i64 (popc5 u)) ∧ Below w.heap.size w w' := by
  have d1 : (u : Int) / 2 ^ 24 = 0 := by omega
  have d2 : (u : Int) / 2 ^ 16 = 0 := by omega
  have d3 : (u : Int) / 2 ^ 8 = 0 := by omega
  have d1' : (u : Int) / 16777216 = 0 := by omega
  have d2' : (u : Int) / 65536 = 0 := by omega
  have d3' : (u : Int) / 256 = 0 := by omega
  have b0 : bits BinOp.and IntKind.u32 0 255 = 0 := by decide +kernel
  have b1 := and255 hu
  have hu0 : (0 : Int) ≤ (u : Int) := by omega
  have hu1 : (u : Int) ≤ 255 := by omega
  have hrun := fun W => Lib.run_index_pop8tab (P := Try.prog) W 9 .u32 (u : Int) Try.underlying9 hu0 hu1
  have p0 : Lib.pop8 0 = 0 := by decide +kernel
  have p1 := pop8_5 hu
  rw [p1] at hrun
  have pl : popc5 u ≤ 5 := by unfold popc5; omega
  obtain ⟨q, hq⟩ : ∃ q, q = popc5 u := ⟨_, rfl⟩
  rw [← hq] at p1 pl hrun ⊢
  clear hq
  go_enter Try.func30, Try.ntmps30
  go_wp2_with fail
  go_quiet (fail)
  go_wp2_with fail
  go_ret
  exact ⟨rfl, below_drewN (Below.refl _ _) nq⟩
end Go.Proofs.Ytmnleblbandghaa
