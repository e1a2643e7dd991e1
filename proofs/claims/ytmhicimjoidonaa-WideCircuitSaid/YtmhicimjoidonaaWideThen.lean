/- wide.then by the numbers of the changes. No condition. -/
import Derived.Test.YtmhicimjoidonaaWideTurns
namespace Go.Proofs.Ytmhicimjoidonaa
open Go.ChangeShapes Go.WideShapes Go.ChangeAt Go.RowKit
set_option linter.unusedVariables false
theorem then_c (a b : Nat) (w : World) :
    Calls Try.prog 15 #[.agg #[.int .i64 (eF a 0), .int .i64 (eF a 1), .int .i64 (eF a 2), .int .i64 (eF a 3), .int .i64 (eF a 4)], .agg #[.int .i64 (eF b 0), .int .i64 (eF b 1), .int .i64 (eF b 2), .int .i64 (eF b 3), .int .i64 (eF b 4)]] w fun e w' => e = .returned (.agg #[.int .i64 (eF (cmpC a b) 0), .int .i64 (eF (cmpC a b) 1), .int .i64 (eF (cmpC a b) 2), .int .i64 (eF (cmpC a b) 3), .int .i64 (eF (cmpC a b) 4)]) ∧ Below w.heap.size w w' := by
  refine (then_any (eF a) (eF b) w (eF_bd a)).mono ?_
  rintro e w' ⟨rfl, hb⟩
  refine ⟨?_, hb⟩
  rw [eF_cmp a b 0 (by omega), eF_cmp a b 1 (by omega), eF_cmp a b 2 (by omega), eF_cmp a b 3 (by omega), eF_cmp a b 4 (by omega)]
end Go.Proofs.Ytmhicimjoidonaa
